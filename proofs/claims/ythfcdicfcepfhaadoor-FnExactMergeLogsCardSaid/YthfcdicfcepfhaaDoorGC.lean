/- Typed functions and the calls that do what they say. -/
import Derived.Test.YthfcdicfcepfhaaDoorSE
import Derived.Test.YthfcdicfcepfhaaDoorKA
import Derived.Test.YthfcdicfcepfhaaDoorKS
import Derived.Test.YthfcdicfcepfhaaDoorH1
import Derived.Test.YthfcdicfcepfhaaDoorGA
import Derived.Test.YthfcdicfcepfhaaDoorGB
namespace Go.Proofs.YthfcdicfcepfhaaDoor.Sh
open Go.RowKit

def ti50 : TI := ⟨1, 24, .slice 5, [.sl ([] : List Int).length (([] : List Int).map (eI .u8))]⟩
def tblGC : Tb := [(2, ti2), (3, ti3), (4, ti4), (5, ti5), (9, ti9), (22, ti22), (25, ti25), (32, ti32), (50, ti50), (60, ti60), (61, ti61)]
theorem tbokGC : TbOk Tryd.prog tblGC := TbOk.cons ⟨by kernel_rfl, show Tryd.prog.underlying 2 = some (.int .i64) from by kernel_rfl⟩ (TbOk.cons ⟨by kernel_rfl, show Tryd.prog.underlying 3 = some (.int .i64) from by kernel_rfl⟩ (TbOk.cons ⟨by kernel_rfl, show Tryd.prog.underlying 4 = some (.bool) from by kernel_rfl⟩ (TbOk.cons ⟨by kernel_rfl, show Tryd.prog.underlying 5 = some (.int .u8) from by kernel_rfl⟩ (TbOk.cons ⟨by kernel_rfl, show Tryd.prog.underlying 9 = some (.string) from by kernel_rfl⟩ (TbOk.cons ⟨by kernel_rfl, show Tryd.prog.underlying 22 = some (.slice 60) from by kernel_rfl⟩ (TbOk.cons ⟨by kernel_rfl, show Tryd.prog.underlying 25 = some (.slice 61) from by kernel_rfl⟩ (TbOk.cons ⟨by kernel_rfl, show Tryd.prog.underlying 32 = some (.slice 2) from by kernel_rfl⟩ (TbOk.cons ⟨by kernel_rfl, show Tryd.prog.underlying 50 = some (.slice 5) from by kernel_rfl⟩ (TbOk.cons ⟨by kernel_rfl, show structOf Tryd.prog 60 = some [(0, 2), (1, 2), (2, 9), (3, 9), (4, 32)] from by kernel_rfl⟩ (TbOk.cons ⟨by kernel_rfl, show structOf Tryd.prog 61 = some [(0, 2), (1, 2), (2, 9), (3, 9), (4, 32)] from by kernel_rfl⟩ (TbOk.nil _)))))))))))
noncomputable def laws_markText (aK : Int) : Option (ByteArray) :=
  (bif (decide (aK ≤ 0)) then some (ByteArray.mk #[109, 48]) else (((loop (fun (s3 : Int × ByteArray) => (bif (decide (s3.1 > 0)) then ((cat' (strOfNums ([(IntKind.wrap .u8 (w64 (48 + (Int.tmod s3.1 10))))] : List Int)) s3.2).bind fun x5 => some (.inl ((w64 (Int.tdiv s3.1 10)), x5))) else some (.inr s3.2))) (aK, (ByteArray.mk #[])))).bind fun (j1 : ByteArray) => ((cat' (ByteArray.mk #[109]) j1).bind fun x6 => some x6)))
set_option maxRecDepth 100000 in
set_option maxHeartbeats 4000000 in
theorem laws_markText_run (aK : Int) (r : ByteArray) (h : laws_markText aK = some r) : SCall Tryd.prog 57 [.v (vi aK)] ⟨[.v (vs r)], [], false⟩ := by
  refine scall_in Tryd.func57 rfl [(.tmp 2)] rfl (fun r => ⟨[.v (vs r)], [], false⟩) (r := r) ?_
  unfold laws_markText at h
  refine swp_seq ?_
  refine swp_reg ?_
  refine SRun.ck tbokGC 1 ⟨20, [(0, vi aK)], []⟩ ?_
  refine SRun.nil ?_
  refine nx_n ?_
  refine swp_seq ?_
  refine swp_seq ?_
  refine swp_reg ?_
  refine SRun.ck tbokGC 2 ⟨20, [(0, vi aK), (5, vb (decide (aK ≤ 0)))], []⟩ ?_
  refine SRun.nil ?_
  refine nx_n ?_
  refine swp_cond (b := (decide (aK ≤ 0))) (by kernel_rfl) (fun hb => ?_) (fun hb => ?_)
  replace h := cond_t hb h
  refine swp_seq ?_
  refine swp_reg ?_
  refine SRun.ck tbokGC 1 ⟨20, [(2, vs (ByteArray.mk #[109, 48]))], []⟩ ?_
  refine SRun.nil ?_
  refine nx_n ?_
  refine swp_ret ?_
  replace h := Option.some.inj h
  subst h
  exact nx_r (q_fr (fin1 (by kernel_rfl) (finV rfl SV.flat_of (holds_t (by kernel_rfl)))))
  replace h := cond_f hb h
  refine swp_skip ?_
  refine nx_n ?_
  refine swp_seq ?_
  refine swp_reg ?_
  refine SRun.ck tbokGC 1 ⟨20, [(0, vi aK), (3, vs (ByteArray.mk #[]))], []⟩ ?_
  refine SRun.nil ?_
  refine nx_n ?_
  refine swp_seq ?_
  refine swp_seqJ h (fun j1 => ⟨20, [(3, vs j1)], []⟩) (fun v2 h => ?_) (fun j1 h => ?_)
  refine swp_blk (a := v2) ?_
  refine swp_lpL (r := v2) (s := (aK, (ByteArray.mk #[]))) _ (fun s3 => ⟨20, [(0, vi s3.1), (3, vs s3.2)], []⟩) _ (Le.sub0) h (fun s3 v4 h => ?_)
  refine swp_seq ?_
  refine swp_seq ?_
  refine swp_reg ?_
  refine SRun.ck tbokGC 2 ⟨20, [(0, vi s3.1), (3, vs s3.2), (7, vb (decide (s3.1 > 0)))], []⟩ ?_
  refine SRun.nil ?_
  refine nx_n ?_
  refine swp_cond (b := (decide (s3.1 > 0))) (by kernel_rfl) (fun hb => ?_) (fun hb => ?_)
  replace h := cond_t hb h
  refine swp_skip ?_
  refine nx_n ?_
  refine swp_blk (a := v4) ?_
  refine swp_seq ?_
  refine swp_reg ?_
  refine SRun.ck tbokGC 5 ⟨20, [(0, vi s3.1), (3, vs s3.2), (12, .own 12)], [(12, .arr 5 1 ([(IntKind.wrap .u8 (w64 (48 + (Int.tmod s3.1 10))))] : List Int).length (([(IntKind.wrap .u8 (w64 (48 + (Int.tmod s3.1 10))))] : List Int).map (eI .u8)))]⟩ ?_
  refine SRun.ls (x_bytes_own (L := ([(IntKind.wrap .u8 (w64 (48 + (Int.tmod s3.1 10))))] : List Int)) (d := 12) (e' := 5) tbokGC rfl (e := 5) (ti := ti50) (tj := ti5) (tk := ti9)) ?_
  refine SRun.ck tbokGC 1 ⟨20, [(0, vi s3.1), (13, vs (strOfNums ([(IntKind.wrap .u8 (w64 (48 + (Int.tmod s3.1 10))))] : List Int))), (14, vs s3.2)], []⟩ ?_
  obtain ⟨x5, hx5, h⟩ := bind_some h
  refine SRun.ls (x_cat hx5 rfl) ?_
  refine SRun.ck tbokGC 1 ⟨20, [(0, vi s3.1), (3, vs x5)], []⟩ ?_
  refine SRun.nil ?_
  refine nx_n ?_
  refine swp_reg ?_
  refine SRun.ck tbokGC 3 ⟨20, [(0, vi (w64 (Int.tdiv s3.1 10))), (3, vs x5)], []⟩ ?_
  refine SRun.nil ?_
  replace h := Option.some.inj h
  subst h
  exact q_bn (q_l (Le.sub0))
  replace h := cond_f hb h
  refine swp_exit ?_
  replace h := Option.some.inj h
  subst h
  exact nx_e (q_re (q_bh (q_j (Le.sub0))))
  refine swp_seq ?_
  refine swp_reg ?_
  refine SRun.ck tbokGC 1 ⟨20, [(18, vs j1)], []⟩ ?_
  obtain ⟨x6, hx6, h⟩ := bind_some h
  refine SRun.ls (x_cat hx6 rfl) ?_
  refine SRun.ck tbokGC 1 ⟨20, [(2, vs x6)], []⟩ ?_
  refine SRun.nil ?_
  refine nx_n ?_
  refine swp_ret ?_
  replace h := Option.some.inj h
  subst h
  exact q_fr (fin1 (by kernel_rfl) (finV rfl SV.flat_of (holds_t (by kernel_rfl))))
theorem ents57 : Ents Tryd.prog 57 := ents_of Tryd.func57 (by kernel_rfl) rfl
noncomputable def laws_markInt64S (aA : (List Int)) (aK : Int) : Option (Int × (List Int)) :=
  (((forH (fun (i3 : Int) (s3 : Int × (List Int)) => (decide (i3 < (s3.2.length : Int)))) (fun (i3 : Int) (s3 : Int × (List Int)) => ((at' s3.2 i3).bind fun _ => some ((w64 (s3.1 + 1)), (List.set s3.2 (Int.toNat i3) s3.1)))) (fun (s3 : Int × (List Int)) => (s3.1, s3.2)) 0 (aK, aA))).bind fun (j1 : Int × (List Int)) => some (j1.1, j1.2))
set_option maxRecDepth 100000 in
set_option maxHeartbeats 4000000 in
theorem laws_markInt64S_run (aA : (List Int)) (aK : Int) (r : Int × (List Int)) (h : laws_markInt64S aA aK = some r) : SCall Tryd.prog 23 [.o (.arr 2 1 aA.length (aA.map (eI .i64))), .v (vi aK)] ⟨[.v (vi r.1)], [(0, .arr 2 1 r.2.length (r.2.map (eI .i64)))], false⟩ := by
  refine scall_in Tryd.func23 rfl [(.tmp 4)] rfl (fun r => ⟨[.v (vi r.1)], [(0, .arr 2 1 r.2.length (r.2.map (eI .i64)))], false⟩) (r := r) ?_
  unfold laws_markInt64S at h
  refine swp_seq ?_
  refine swp_reg ?_
  refine SRun.ck tbokGC 1 ⟨19, [(0, .own 1000000), (1, vi aK)], [(1000000, .arr 2 1 aA.length (aA.map (eI .i64)))]⟩ ?_
  refine SRun.nil ?_
  refine nx_n ?_
  refine swp_seq ?_
  refine swp_seq ?_
  refine swp_reg ?_
  refine SRun.ck tbokGC 1 ⟨19, [(0, .own 1000000), (1, vi aK), (5, vi 0)], [(1000000, .arr 2 1 aA.length (aA.map (eI .i64)))]⟩ ?_
  refine SRun.nil ?_
  refine nx_n ?_
  refine swp_seqJ h (fun j1 => ⟨19, [(1, vi j1.1)], [(1000000, .arr 2 1 j1.2.length (j1.2.map (eI .i64)))]⟩) (fun v2 h => ?_) (fun j1 h => ?_)
  refine swp_blk (a := v2) ?_
  refine swp_lpL (r := v2) (s := (0, aK, aA)) _ (fun s3 => ⟨19, [(0, .own 1000000), (1, vi s3.2.1), (5, vi s3.1)], [(1000000, .arr 2 1 s3.2.2.length (s3.2.2.map (eI .i64)))]⟩) _ (Le.sub0) h (fun s3 v4 h => ?_)
  refine swp_seq ?_
  refine swp_seq ?_
  refine swp_reg ?_
  refine SRun.ck tbokGC 4 ⟨19, [(0, .own 1000000), (1, vi s3.2.1), (5, vi s3.1), (9, vb (decide (s3.1 < (s3.2.2.length : Int))))], [(1000000, .arr 2 1 s3.2.2.length (s3.2.2.map (eI .i64)))]⟩ ?_
  refine SRun.nil ?_
  refine nx_n ?_
  refine swp_cond (b := (decide (s3.1 < (s3.2.2.length : Int)))) (by kernel_rfl) (fun hb => ?_) (fun hb => ?_)
  replace h := cond_t hb h
  refine swp_skip ?_
  refine nx_n ?_
  refine swp_seq ?_
  refine swp_seqJ h (fun j5 => ⟨19, [(0, .own 1000000), (1, vi j5.1), (5, vi s3.1)], [(1000000, .arr 2 1 j5.2.length (j5.2.map (eI .i64)))]⟩) (fun v6 h => ?_) (fun j5 h => ?_)
  refine swp_blk (a := v6) ?_
  refine swp_seq ?_
  refine swp_reg ?_
  refine SRun.ck tbokGC 3 ⟨19, [(0, .own 1000000), (1, vi s3.2.1), (5, vi s3.1), (12, .own 1000000), (13, vi s3.1), (14, vi s3.2.1)], [(1000000, .arr 2 1 s3.2.2.length (s3.2.2.map (eI .i64)))]⟩ ?_
  obtain ⟨x7, hx7, h⟩ := bind_some h
  refine SRun.ls (x_index_own (d := 1000000) (L := s3.2.2) (f := (eI .i64)) (ti := ti32) (tj := ti2) (e := 2) (e' := 2) (m := 1) (k := .i64) tbokGC rfl hx7) ?_
  refine SRun.estep (x_store_own (d := 1000000) (m := 1) (j := 0) (L := s3.2.2) (f := (eI .i64)) (x := s3.2.1) (z := x7) (ti := ti2) (e := 2) (ts := [.int .i64 s3.2.1]) (vs := [vi s3.2.1]) (v := vi s3.2.1) tbokGC rfl rfl hx7) ?_
  refine SRun.nil ?_
  refine nx_n ?_
  refine swp_reg ?_
  refine SRun.ck tbokGC 3 ⟨19, [(0, .own 1000000), (1, vi (w64 (s3.2.1 + 1))), (5, vi s3.1)], [(1000000, .arr 2 1 (List.set s3.2.2 (Int.toNat s3.1) s3.2.1).length ((List.set s3.2.2 (Int.toNat s3.1) s3.2.1).map (eI .i64)))]⟩ ?_
  refine SRun.nil ?_
  replace h := Option.some.inj h
  subst h
  exact q_bn (q_j (Le.sub0))
  refine swp_reg ?_
  refine SRun.ck tbokGC 3 ⟨19, [(0, .own 1000000), (1, vi j5.1), (5, vi (w64 (s3.1 + 1)))], [(1000000, .arr 2 1 j5.2.length (j5.2.map (eI .i64)))]⟩ ?_
  refine SRun.nil ?_
  replace h := Option.some.inj h
  subst h
  exact q_l (Le.sub0)
  replace h := cond_f hb h
  refine swp_exit ?_
  replace h := Option.some.inj h
  subst h
  exact nx_e (q_re (q_bh (q_j (Le.sub0))))
  refine swp_seq ?_
  refine swp_reg ?_
  refine SRun.ck tbokGC 2 ⟨19, [(4, vi j1.1)], [(1000000, .arr 2 1 j1.2.length (j1.2.map (eI .i64)))]⟩ ?_
  refine SRun.nil ?_
  refine nx_n ?_
  refine swp_ret ?_
  replace h := Option.some.inj h
  subst h
  exact q_fr (fin_io (fin1 (by kernel_rfl) (finV rfl SV.flat_of (holds_t (by kernel_rfl)))) (y := .arr 2 1 j1.2.length (j1.2.map (eI .i64))) (by kernel_rfl) rfl (by kernel_rfl) (by kernel_rfl))
theorem ents23 : Ents Tryd.prog 23 := ents_of Tryd.func23 (by kernel_rfl) rfl
noncomputable def laws_markOpS (aA : (List Op)) (aK : Int) : Option (Int × (List Op)) :=
  (((forH (fun (i3 : Int) (s3 : Int × (List Op)) => (decide (i3 < (s3.2.length : Int)))) (fun (i3 : Int) (s3 : Int × (List Op)) => ((at' s3.2 i3).bind fun x7 => ((at' (List.set s3.2 (Int.toNat i3) (Op.mk s3.1 x7.Number x7.Key x7.Text x7.Seen)) i3).bind fun x8 => ((laws_markText (w64 ((w64 (s3.1 + 1)) + 1))).bind fun x9 => ((at' (List.set (List.set s3.2 (Int.toNat i3) (Op.mk s3.1 x7.Number x7.Key x7.Text x7.Seen)) (Int.toNat i3) (Op.mk x8.Office (w64 (s3.1 + 1)) x8.Key x8.Text x8.Seen)) i3).bind fun x10 => ((laws_markText (w64 ((w64 ((w64 (s3.1 + 1)) + 1)) + 1))).bind fun x11 => ((at' (List.set (List.set (List.set s3.2 (Int.toNat i3) (Op.mk s3.1 x7.Number x7.Key x7.Text x7.Seen)) (Int.toNat i3) (Op.mk x8.Office (w64 (s3.1 + 1)) x8.Key x8.Text x8.Seen)) (Int.toNat i3) (Op.mk x10.Office x10.Number x9 x10.Text x10.Seen)) i3).bind fun x12 => ((at' (List.set (List.set (List.set (List.set s3.2 (Int.toNat i3) (Op.mk s3.1 x7.Number x7.Key x7.Text x7.Seen)) (Int.toNat i3) (Op.mk x8.Office (w64 (s3.1 + 1)) x8.Key x8.Text x8.Seen)) (Int.toNat i3) (Op.mk x10.Office x10.Number x9 x10.Text x10.Seen)) (Int.toNat i3) (Op.mk x12.Office x12.Number x12.Key x11 x12.Seen)) i3).bind fun x13 => ((laws_markInt64S x13.Seen (w64 ((w64 ((w64 ((w64 (s3.1 + 1)) + 1)) + 1)) + 1))).bind fun x14 => some (x14.1, (List.set (List.set (List.set (List.set (List.set s3.2 (Int.toNat i3) (Op.mk s3.1 x7.Number x7.Key x7.Text x7.Seen)) (Int.toNat i3) (Op.mk x8.Office (w64 (s3.1 + 1)) x8.Key x8.Text x8.Seen)) (Int.toNat i3) (Op.mk x10.Office x10.Number x9 x10.Text x10.Seen)) (Int.toNat i3) (Op.mk x12.Office x12.Number x12.Key x11 x12.Seen)) (Int.toNat i3) (Op.mk x13.Office x13.Number x13.Key x13.Text x14.2)))))))))))) (fun (s3 : Int × (List Op)) => (s3.1, s3.2)) 0 (aK, aA))).bind fun (j1 : Int × (List Op)) => some (j1.1, j1.2))
set_option maxRecDepth 100000 in
set_option maxHeartbeats 4000000 in
theorem laws_markOpS_run (aA : (List Op)) (aK : Int) (r : Int × (List Op)) (h : laws_markOpS aA aK = some r) : SCall Tryd.prog 22 [.o (.deep 61 5 aA.length [.flat, .flat, .flat, .flat, (.sl 2 1 [.flat])] (aA.map eOp)), .v (vi aK)] ⟨[.v (vi r.1)], [(0, .deep 61 5 r.2.length [.flat, .flat, .flat, .flat, (.sl 2 1 [.flat])] (r.2.map eOp))], false⟩ := by
  refine scall_in Tryd.func22 rfl [(.tmp 4)] rfl (fun r => ⟨[.v (vi r.1)], [(0, .deep 61 5 r.2.length [.flat, .flat, .flat, .flat, (.sl 2 1 [.flat])] (r.2.map eOp))], false⟩) (r := r) ?_
  unfold laws_markOpS at h
  refine swp_seq ?_
  refine swp_reg ?_
  refine SRun.ck tbokGC 1 ⟨50, [(0, .own 1000000), (1, vi aK)], [(1000000, .deep 61 5 aA.length [.flat, .flat, .flat, .flat, (.sl 2 1 [.flat])] (aA.map eOp))]⟩ ?_
  refine SRun.nil ?_
  refine nx_n ?_
  refine swp_seq ?_
  refine swp_seq ?_
  refine swp_reg ?_
  refine SRun.ck tbokGC 1 ⟨50, [(0, .own 1000000), (1, vi aK), (5, vi 0)], [(1000000, .deep 61 5 aA.length [.flat, .flat, .flat, .flat, (.sl 2 1 [.flat])] (aA.map eOp))]⟩ ?_
  refine SRun.nil ?_
  refine nx_n ?_
  refine swp_seqJ h (fun j1 => ⟨50, [(1, vi j1.1)], [(1000000, .deep 61 5 j1.2.length [.flat, .flat, .flat, .flat, (.sl 2 1 [.flat])] (j1.2.map eOp))]⟩) (fun v2 h => ?_) (fun j1 h => ?_)
  refine swp_blk (a := v2) ?_
  refine swp_lpL (r := v2) (s := (0, aK, aA)) _ (fun s3 => ⟨50, [(0, .own 1000000), (1, vi s3.2.1), (5, vi s3.1)], [(1000000, .deep 61 5 s3.2.2.length [.flat, .flat, .flat, .flat, (.sl 2 1 [.flat])] (s3.2.2.map eOp))]⟩) _ (Le.sub0) h (fun s3 v4 h => ?_)
  refine swp_seq ?_
  refine swp_seq ?_
  refine swp_reg ?_
  refine SRun.ck tbokGC 2 ⟨50, [(0, .own 1000000), (1, vi s3.2.1), (5, vi s3.1), (6, vi s3.1), (7, .own 1000000)], [(1000000, .deep 61 5 s3.2.2.length [.flat, .flat, .flat, .flat, (.sl 2 1 [.flat])] (s3.2.2.map eOp))]⟩ ?_
  refine SRun.ls (x_len_deep (d := 1000000) (e := 61) (e' := 61) (m := 5) (n := s3.2.2.length) (ss := [.flat, .flat, .flat, .flat, (.sl 2 1 [.flat])]) (es := s3.2.2.map eOp) (ti := ti25) tbokGC rfl rfl rfl) ?_
  refine SRun.ck tbokGC 1 ⟨50, [(0, .own 1000000), (1, vi s3.2.1), (5, vi s3.1), (9, vb (decide (s3.1 < (s3.2.2.length : Int))))], [(1000000, .deep 61 5 s3.2.2.length [.flat, .flat, .flat, .flat, (.sl 2 1 [.flat])] (s3.2.2.map eOp))]⟩ ?_
  refine SRun.nil ?_
  refine nx_n ?_
  refine swp_cond (b := (decide (s3.1 < (s3.2.2.length : Int)))) (by kernel_rfl) (fun hb => ?_) (fun hb => ?_)
  replace h := cond_t hb h
  refine swp_skip ?_
  refine nx_n ?_
  refine swp_seq ?_
  refine swp_seqJ h (fun j5 => ⟨50, [(0, .own 1000000), (1, vi j5.1), (5, vi s3.1)], [(1000000, .deep 61 5 j5.2.length [.flat, .flat, .flat, .flat, (.sl 2 1 [.flat])] (j5.2.map eOp))]⟩) (fun v6 h => ?_) (fun j5 h => ?_)
  refine swp_blk (a := v6) ?_
  refine swp_seq ?_
  refine swp_reg ?_
  refine SRun.ck tbokGC 3 ⟨50, [(0, .own 1000000), (1, vi s3.2.1), (5, vi s3.1), (12, .own 1000000), (13, vi s3.1), (14, vi s3.2.1)], [(1000000, .deep 61 5 s3.2.2.length [.flat, .flat, .flat, .flat, (.sl 2 1 [.flat])] (s3.2.2.map eOp))]⟩ ?_
  obtain ⟨x7, hx7, h⟩ := bind_some h
  refine SRun.ls (x_index_deep (d := 1000000) (L := s3.2.2) (f := eOp) (ti := ti25) (tj := ti61) (e := 61) (e' := 61) (m := 5) (k := .i64) (ss := [.flat, .flat, .flat, .flat, (.sl 2 1 [.flat])]) tbokGC rfl hx7) ?_
  refine SRun.ck tbokGC 1 ⟨50, [(0, .own 1000000), (1, vi s3.2.1), (5, vi s3.1), (14, vi s3.2.1), (16, .eref 1000000 5 (Int.toNat s3.1) 0)], [(1000000, .deep 61 5 s3.2.2.length [.flat, .flat, .flat, .flat, (.sl 2 1 [.flat])] (s3.2.2.map eOp))]⟩ ?_
  refine SRun.estep (x_store_deep (d := 1000000) (m := 5) (j := 0) (L := s3.2.2) (f := eOp) (x := (Op.mk s3.2.1 x7.Number x7.Key x7.Text x7.Seen)) (z := x7) (ti := ti2) (e := 61) (ss := [.flat, .flat, .flat, .flat, (.sl 2 1 [.flat])]) (ss2 := [.flat]) (ts := [.int .i64 s3.2.1]) (vs := [vi s3.2.1]) (v := vi s3.2.1) (ds := []) tbokGC rfl rfl hx7 (.cons _ _ _ [] _ _ _ _ (.flat (.int .i64 s3.2.1) rfl) .nil (by decide))) ?_
  refine SRun.nil ?_
  refine nx_n ?_
  refine swp_seq ?_
  refine swp_reg ?_
  refine SRun.ck tbokGC 3 ⟨50, [(0, .own 1000000), (1, vi (w64 (s3.2.1 + 1))), (5, vi s3.1)], [(1000000, .deep 61 5 (List.set s3.2.2 (Int.toNat s3.1) (Op.mk s3.2.1 x7.Number x7.Key x7.Text x7.Seen)).length [.flat, .flat, .flat, .flat, (.sl 2 1 [.flat])] ((List.set s3.2.2 (Int.toNat s3.1) (Op.mk s3.2.1 x7.Number x7.Key x7.Text x7.Seen)).map eOp))]⟩ ?_
  refine SRun.nil ?_
  refine nx_n ?_
  refine swp_seq ?_
  refine swp_reg ?_
  refine SRun.ck tbokGC 3 ⟨50, [(0, .own 1000000), (1, vi (w64 (s3.2.1 + 1))), (5, vi s3.1), (19, .own 1000000), (20, vi s3.1), (21, vi (w64 (s3.2.1 + 1)))], [(1000000, .deep 61 5 (List.set s3.2.2 (Int.toNat s3.1) (Op.mk s3.2.1 x7.Number x7.Key x7.Text x7.Seen)).length [.flat, .flat, .flat, .flat, (.sl 2 1 [.flat])] ((List.set s3.2.2 (Int.toNat s3.1) (Op.mk s3.2.1 x7.Number x7.Key x7.Text x7.Seen)).map eOp))]⟩ ?_
  obtain ⟨x8, hx8, h⟩ := bind_some h
  refine SRun.ls (x_index_deep (d := 1000000) (L := (List.set s3.2.2 (Int.toNat s3.1) (Op.mk s3.2.1 x7.Number x7.Key x7.Text x7.Seen))) (f := eOp) (ti := ti25) (tj := ti61) (e := 61) (e' := 61) (m := 5) (k := .i64) (ss := [.flat, .flat, .flat, .flat, (.sl 2 1 [.flat])]) tbokGC rfl hx8) ?_
  refine SRun.ck tbokGC 1 ⟨50, [(0, .own 1000000), (1, vi (w64 (s3.2.1 + 1))), (5, vi s3.1), (21, vi (w64 (s3.2.1 + 1))), (23, .eref 1000000 5 (Int.toNat s3.1) 1)], [(1000000, .deep 61 5 (List.set s3.2.2 (Int.toNat s3.1) (Op.mk s3.2.1 x7.Number x7.Key x7.Text x7.Seen)).length [.flat, .flat, .flat, .flat, (.sl 2 1 [.flat])] ((List.set s3.2.2 (Int.toNat s3.1) (Op.mk s3.2.1 x7.Number x7.Key x7.Text x7.Seen)).map eOp))]⟩ ?_
  refine SRun.estep (x_store_deep (d := 1000000) (m := 5) (j := 1) (L := (List.set s3.2.2 (Int.toNat s3.1) (Op.mk s3.2.1 x7.Number x7.Key x7.Text x7.Seen))) (f := eOp) (x := (Op.mk x8.Office (w64 (s3.2.1 + 1)) x8.Key x8.Text x8.Seen)) (z := x8) (ti := ti2) (e := 61) (ss := [.flat, .flat, .flat, .flat, (.sl 2 1 [.flat])]) (ss2 := [.flat]) (ts := [.int .i64 (w64 (s3.2.1 + 1))]) (vs := [vi (w64 (s3.2.1 + 1))]) (v := vi (w64 (s3.2.1 + 1))) (ds := []) tbokGC rfl rfl hx8 (.cons _ _ _ [] _ _ _ _ (.flat (.int .i64 (w64 (s3.2.1 + 1))) rfl) .nil (by decide))) ?_
  refine SRun.nil ?_
  refine nx_n ?_
  refine swp_seq ?_
  refine swp_reg ?_
  refine SRun.ck tbokGC 3 ⟨50, [(0, .own 1000000), (1, vi (w64 ((w64 (s3.2.1 + 1)) + 1))), (5, vi s3.1)], [(1000000, .deep 61 5 (List.set (List.set s3.2.2 (Int.toNat s3.1) (Op.mk s3.2.1 x7.Number x7.Key x7.Text x7.Seen)) (Int.toNat s3.1) (Op.mk x8.Office (w64 (s3.2.1 + 1)) x8.Key x8.Text x8.Seen)).length [.flat, .flat, .flat, .flat, (.sl 2 1 [.flat])] ((List.set (List.set s3.2.2 (Int.toNat s3.1) (Op.mk s3.2.1 x7.Number x7.Key x7.Text x7.Seen)) (Int.toNat s3.1) (Op.mk x8.Office (w64 (s3.2.1 + 1)) x8.Key x8.Text x8.Seen)).map eOp))]⟩ ?_
  refine SRun.nil ?_
  refine nx_n ?_
  refine swp_seq ?_
  refine swp_reg ?_
  refine SRun.ck tbokGC 3 ⟨50, [(0, .own 1000000), (1, vi (w64 ((w64 (s3.2.1 + 1)) + 1))), (5, vi s3.1), (26, .own 1000000), (27, vi s3.1), (28, vi (w64 ((w64 (s3.2.1 + 1)) + 1)))], [(1000000, .deep 61 5 (List.set (List.set s3.2.2 (Int.toNat s3.1) (Op.mk s3.2.1 x7.Number x7.Key x7.Text x7.Seen)) (Int.toNat s3.1) (Op.mk x8.Office (w64 (s3.2.1 + 1)) x8.Key x8.Text x8.Seen)).length [.flat, .flat, .flat, .flat, (.sl 2 1 [.flat])] ((List.set (List.set s3.2.2 (Int.toNat s3.1) (Op.mk s3.2.1 x7.Number x7.Key x7.Text x7.Seen)) (Int.toNat s3.1) (Op.mk x8.Office (w64 (s3.2.1 + 1)) x8.Key x8.Text x8.Seen)).map eOp))]⟩ ?_
  obtain ⟨x9, hx9, h⟩ := bind_some h
  refine SRun.ls (x_lstep_call (f := 57) (caps := []) (xs := [vi (w64 ((w64 (s3.2.1 + 1)) + 1))]) (ys := [vi (w64 ((w64 (s3.2.1 + 1)) + 1))]) (res := ⟨[.v (vs x9)], [], false⟩) (x := vs x9) (y := none) rfl ents57 (laws_markText_run (w64 ((w64 (s3.2.1 + 1)) + 1)) _ hx9) rfl (by intro hc; cases hc)) ?_
  obtain ⟨x10, hx10, h⟩ := bind_some h
  refine SRun.ls (x_index_deep (d := 1000000) (L := (List.set (List.set s3.2.2 (Int.toNat s3.1) (Op.mk s3.2.1 x7.Number x7.Key x7.Text x7.Seen)) (Int.toNat s3.1) (Op.mk x8.Office (w64 (s3.2.1 + 1)) x8.Key x8.Text x8.Seen))) (f := eOp) (ti := ti25) (tj := ti61) (e := 61) (e' := 61) (m := 5) (k := .i64) (ss := [.flat, .flat, .flat, .flat, (.sl 2 1 [.flat])]) tbokGC rfl hx10) ?_
  refine SRun.ck tbokGC 1 ⟨50, [(0, .own 1000000), (1, vi (w64 ((w64 (s3.2.1 + 1)) + 1))), (5, vi s3.1), (29, vs x9), (31, .eref 1000000 5 (Int.toNat s3.1) 2)], [(1000000, .deep 61 5 (List.set (List.set s3.2.2 (Int.toNat s3.1) (Op.mk s3.2.1 x7.Number x7.Key x7.Text x7.Seen)) (Int.toNat s3.1) (Op.mk x8.Office (w64 (s3.2.1 + 1)) x8.Key x8.Text x8.Seen)).length [.flat, .flat, .flat, .flat, (.sl 2 1 [.flat])] ((List.set (List.set s3.2.2 (Int.toNat s3.1) (Op.mk s3.2.1 x7.Number x7.Key x7.Text x7.Seen)) (Int.toNat s3.1) (Op.mk x8.Office (w64 (s3.2.1 + 1)) x8.Key x8.Text x8.Seen)).map eOp))]⟩ ?_
  refine SRun.estep (x_store_deep (d := 1000000) (m := 5) (j := 2) (L := (List.set (List.set s3.2.2 (Int.toNat s3.1) (Op.mk s3.2.1 x7.Number x7.Key x7.Text x7.Seen)) (Int.toNat s3.1) (Op.mk x8.Office (w64 (s3.2.1 + 1)) x8.Key x8.Text x8.Seen))) (f := eOp) (x := (Op.mk x10.Office x10.Number x9 x10.Text x10.Seen)) (z := x10) (ti := ti9) (e := 61) (ss := [.flat, .flat, .flat, .flat, (.sl 2 1 [.flat])]) (ss2 := [.flat]) (ts := [.str x9]) (vs := [vs x9]) (v := vs x9) (ds := []) tbokGC rfl rfl hx10 (.cons _ _ _ [] _ _ _ _ (.flat (.str x9) rfl) .nil (by decide))) ?_
  refine SRun.nil ?_
  refine nx_n ?_
  refine swp_seq ?_
  refine swp_reg ?_
  refine SRun.ck tbokGC 3 ⟨50, [(0, .own 1000000), (1, vi (w64 ((w64 ((w64 (s3.2.1 + 1)) + 1)) + 1))), (5, vi s3.1)], [(1000000, .deep 61 5 (List.set (List.set (List.set s3.2.2 (Int.toNat s3.1) (Op.mk s3.2.1 x7.Number x7.Key x7.Text x7.Seen)) (Int.toNat s3.1) (Op.mk x8.Office (w64 (s3.2.1 + 1)) x8.Key x8.Text x8.Seen)) (Int.toNat s3.1) (Op.mk x10.Office x10.Number x9 x10.Text x10.Seen)).length [.flat, .flat, .flat, .flat, (.sl 2 1 [.flat])] ((List.set (List.set (List.set s3.2.2 (Int.toNat s3.1) (Op.mk s3.2.1 x7.Number x7.Key x7.Text x7.Seen)) (Int.toNat s3.1) (Op.mk x8.Office (w64 (s3.2.1 + 1)) x8.Key x8.Text x8.Seen)) (Int.toNat s3.1) (Op.mk x10.Office x10.Number x9 x10.Text x10.Seen)).map eOp))]⟩ ?_
  refine SRun.nil ?_
  refine nx_n ?_
  refine swp_seq ?_
  refine swp_reg ?_
  refine SRun.ck tbokGC 3 ⟨50, [(0, .own 1000000), (1, vi (w64 ((w64 ((w64 (s3.2.1 + 1)) + 1)) + 1))), (5, vi s3.1), (34, .own 1000000), (35, vi s3.1), (36, vi (w64 ((w64 ((w64 (s3.2.1 + 1)) + 1)) + 1)))], [(1000000, .deep 61 5 (List.set (List.set (List.set s3.2.2 (Int.toNat s3.1) (Op.mk s3.2.1 x7.Number x7.Key x7.Text x7.Seen)) (Int.toNat s3.1) (Op.mk x8.Office (w64 (s3.2.1 + 1)) x8.Key x8.Text x8.Seen)) (Int.toNat s3.1) (Op.mk x10.Office x10.Number x9 x10.Text x10.Seen)).length [.flat, .flat, .flat, .flat, (.sl 2 1 [.flat])] ((List.set (List.set (List.set s3.2.2 (Int.toNat s3.1) (Op.mk s3.2.1 x7.Number x7.Key x7.Text x7.Seen)) (Int.toNat s3.1) (Op.mk x8.Office (w64 (s3.2.1 + 1)) x8.Key x8.Text x8.Seen)) (Int.toNat s3.1) (Op.mk x10.Office x10.Number x9 x10.Text x10.Seen)).map eOp))]⟩ ?_
  obtain ⟨x11, hx11, h⟩ := bind_some h
  refine SRun.ls (x_lstep_call (f := 57) (caps := []) (xs := [vi (w64 ((w64 ((w64 (s3.2.1 + 1)) + 1)) + 1))]) (ys := [vi (w64 ((w64 ((w64 (s3.2.1 + 1)) + 1)) + 1))]) (res := ⟨[.v (vs x11)], [], false⟩) (x := vs x11) (y := none) rfl ents57 (laws_markText_run (w64 ((w64 ((w64 (s3.2.1 + 1)) + 1)) + 1)) _ hx11) rfl (by intro hc; cases hc)) ?_
  obtain ⟨x12, hx12, h⟩ := bind_some h
  refine SRun.ls (x_index_deep (d := 1000000) (L := (List.set (List.set (List.set s3.2.2 (Int.toNat s3.1) (Op.mk s3.2.1 x7.Number x7.Key x7.Text x7.Seen)) (Int.toNat s3.1) (Op.mk x8.Office (w64 (s3.2.1 + 1)) x8.Key x8.Text x8.Seen)) (Int.toNat s3.1) (Op.mk x10.Office x10.Number x9 x10.Text x10.Seen))) (f := eOp) (ti := ti25) (tj := ti61) (e := 61) (e' := 61) (m := 5) (k := .i64) (ss := [.flat, .flat, .flat, .flat, (.sl 2 1 [.flat])]) tbokGC rfl hx12) ?_
  refine SRun.ck tbokGC 1 ⟨50, [(0, .own 1000000), (1, vi (w64 ((w64 ((w64 (s3.2.1 + 1)) + 1)) + 1))), (5, vi s3.1), (37, vs x11), (39, .eref 1000000 5 (Int.toNat s3.1) 3)], [(1000000, .deep 61 5 (List.set (List.set (List.set s3.2.2 (Int.toNat s3.1) (Op.mk s3.2.1 x7.Number x7.Key x7.Text x7.Seen)) (Int.toNat s3.1) (Op.mk x8.Office (w64 (s3.2.1 + 1)) x8.Key x8.Text x8.Seen)) (Int.toNat s3.1) (Op.mk x10.Office x10.Number x9 x10.Text x10.Seen)).length [.flat, .flat, .flat, .flat, (.sl 2 1 [.flat])] ((List.set (List.set (List.set s3.2.2 (Int.toNat s3.1) (Op.mk s3.2.1 x7.Number x7.Key x7.Text x7.Seen)) (Int.toNat s3.1) (Op.mk x8.Office (w64 (s3.2.1 + 1)) x8.Key x8.Text x8.Seen)) (Int.toNat s3.1) (Op.mk x10.Office x10.Number x9 x10.Text x10.Seen)).map eOp))]⟩ ?_
  refine SRun.estep (x_store_deep (d := 1000000) (m := 5) (j := 3) (L := (List.set (List.set (List.set s3.2.2 (Int.toNat s3.1) (Op.mk s3.2.1 x7.Number x7.Key x7.Text x7.Seen)) (Int.toNat s3.1) (Op.mk x8.Office (w64 (s3.2.1 + 1)) x8.Key x8.Text x8.Seen)) (Int.toNat s3.1) (Op.mk x10.Office x10.Number x9 x10.Text x10.Seen))) (f := eOp) (x := (Op.mk x12.Office x12.Number x12.Key x11 x12.Seen)) (z := x12) (ti := ti9) (e := 61) (ss := [.flat, .flat, .flat, .flat, (.sl 2 1 [.flat])]) (ss2 := [.flat]) (ts := [.str x11]) (vs := [vs x11]) (v := vs x11) (ds := []) tbokGC rfl rfl hx12 (.cons _ _ _ [] _ _ _ _ (.flat (.str x11) rfl) .nil (by decide))) ?_
  refine SRun.nil ?_
  refine nx_n ?_
  refine swp_seq ?_
  refine swp_reg ?_
  refine SRun.ck tbokGC 3 ⟨50, [(0, .own 1000000), (1, vi (w64 ((w64 ((w64 ((w64 (s3.2.1 + 1)) + 1)) + 1)) + 1))), (5, vi s3.1)], [(1000000, .deep 61 5 (List.set (List.set (List.set (List.set s3.2.2 (Int.toNat s3.1) (Op.mk s3.2.1 x7.Number x7.Key x7.Text x7.Seen)) (Int.toNat s3.1) (Op.mk x8.Office (w64 (s3.2.1 + 1)) x8.Key x8.Text x8.Seen)) (Int.toNat s3.1) (Op.mk x10.Office x10.Number x9 x10.Text x10.Seen)) (Int.toNat s3.1) (Op.mk x12.Office x12.Number x12.Key x11 x12.Seen)).length [.flat, .flat, .flat, .flat, (.sl 2 1 [.flat])] ((List.set (List.set (List.set (List.set s3.2.2 (Int.toNat s3.1) (Op.mk s3.2.1 x7.Number x7.Key x7.Text x7.Seen)) (Int.toNat s3.1) (Op.mk x8.Office (w64 (s3.2.1 + 1)) x8.Key x8.Text x8.Seen)) (Int.toNat s3.1) (Op.mk x10.Office x10.Number x9 x10.Text x10.Seen)) (Int.toNat s3.1) (Op.mk x12.Office x12.Number x12.Key x11 x12.Seen)).map eOp))]⟩ ?_
  refine SRun.nil ?_
  refine nx_n ?_
  refine swp_reg ?_
  refine SRun.ck tbokGC 2 ⟨50, [(0, .own 1000000), (1, vi (w64 ((w64 ((w64 ((w64 (s3.2.1 + 1)) + 1)) + 1)) + 1))), (5, vi s3.1), (42, .own 1000000), (43, vi s3.1)], [(1000000, .deep 61 5 (List.set (List.set (List.set (List.set s3.2.2 (Int.toNat s3.1) (Op.mk s3.2.1 x7.Number x7.Key x7.Text x7.Seen)) (Int.toNat s3.1) (Op.mk x8.Office (w64 (s3.2.1 + 1)) x8.Key x8.Text x8.Seen)) (Int.toNat s3.1) (Op.mk x10.Office x10.Number x9 x10.Text x10.Seen)) (Int.toNat s3.1) (Op.mk x12.Office x12.Number x12.Key x11 x12.Seen)).length [.flat, .flat, .flat, .flat, (.sl 2 1 [.flat])] ((List.set (List.set (List.set (List.set s3.2.2 (Int.toNat s3.1) (Op.mk s3.2.1 x7.Number x7.Key x7.Text x7.Seen)) (Int.toNat s3.1) (Op.mk x8.Office (w64 (s3.2.1 + 1)) x8.Key x8.Text x8.Seen)) (Int.toNat s3.1) (Op.mk x10.Office x10.Number x9 x10.Text x10.Seen)) (Int.toNat s3.1) (Op.mk x12.Office x12.Number x12.Key x11 x12.Seen)).map eOp))]⟩ ?_
  obtain ⟨x13, hx13, h⟩ := bind_some h
  refine SRun.ls (x_index_deep (d := 1000000) (L := (List.set (List.set (List.set (List.set s3.2.2 (Int.toNat s3.1) (Op.mk s3.2.1 x7.Number x7.Key x7.Text x7.Seen)) (Int.toNat s3.1) (Op.mk x8.Office (w64 (s3.2.1 + 1)) x8.Key x8.Text x8.Seen)) (Int.toNat s3.1) (Op.mk x10.Office x10.Number x9 x10.Text x10.Seen)) (Int.toNat s3.1) (Op.mk x12.Office x12.Number x12.Key x11 x12.Seen))) (f := eOp) (ti := ti25) (tj := ti61) (e := 61) (e' := 61) (m := 5) (k := .i64) (ss := [.flat, .flat, .flat, .flat, (.sl 2 1 [.flat])]) tbokGC rfl hx13) ?_
  refine SRun.ck tbokGC 1 ⟨50, [(0, .own 1000000), (1, vi (w64 ((w64 ((w64 ((w64 (s3.2.1 + 1)) + 1)) + 1)) + 1))), (5, vi s3.1), (45, .eref 1000000 5 (Int.toNat s3.1) 4)], [(1000000, .deep 61 5 (List.set (List.set (List.set (List.set s3.2.2 (Int.toNat s3.1) (Op.mk s3.2.1 x7.Number x7.Key x7.Text x7.Seen)) (Int.toNat s3.1) (Op.mk x8.Office (w64 (s3.2.1 + 1)) x8.Key x8.Text x8.Seen)) (Int.toNat s3.1) (Op.mk x10.Office x10.Number x9 x10.Text x10.Seen)) (Int.toNat s3.1) (Op.mk x12.Office x12.Number x12.Key x11 x12.Seen)).length [.flat, .flat, .flat, .flat, (.sl 2 1 [.flat])] ((List.set (List.set (List.set (List.set s3.2.2 (Int.toNat s3.1) (Op.mk s3.2.1 x7.Number x7.Key x7.Text x7.Seen)) (Int.toNat s3.1) (Op.mk x8.Office (w64 (s3.2.1 + 1)) x8.Key x8.Text x8.Seen)) (Int.toNat s3.1) (Op.mk x10.Office x10.Number x9 x10.Text x10.Seen)) (Int.toNat s3.1) (Op.mk x12.Office x12.Number x12.Key x11 x12.Seen)).map eOp))]⟩ ?_
  refine SRun.estep (x_split (L := (List.set (List.set (List.set (List.set s3.2.2 (Int.toNat s3.1) (Op.mk s3.2.1 x7.Number x7.Key x7.Text x7.Seen)) (Int.toNat s3.1) (Op.mk x8.Office (w64 (s3.2.1 + 1)) x8.Key x8.Text x8.Seen)) (Int.toNat s3.1) (Op.mk x10.Office x10.Number x9 x10.Text x10.Seen)) (Int.toNat s3.1) (Op.mk x12.Office x12.Number x12.Key x11 x12.Seen))) (f := eOp) (d := 1000000) (k := 2000046) (e := 61) (m := 5) (j := 4) (e' := 2) (m' := 1) (n' := x13.Seen.length) (ss := [.flat, .flat, .flat, .flat, (.sl 2 1 [.flat])]) (ss' := [.flat]) (es' := x13.Seen.map (eI .i64)) (ti := ti32) (y := .arr 2 1 x13.Seen.length (x13.Seen.map (eI .i64))) hx13 tbokGC rfl rfl (.inr ⟨rfl, rfl⟩)) ?_
  refine SRun.ck tbokGC 1 ⟨50, [(0, .own 1000000), (5, vi s3.1), (46, .own 2000046), (47, vi (w64 ((w64 ((w64 ((w64 (s3.2.1 + 1)) + 1)) + 1)) + 1)))], [(1000000, .hol 61 5 (List.set (List.set (List.set (List.set s3.2.2 (Int.toNat s3.1) (Op.mk s3.2.1 x7.Number x7.Key x7.Text x7.Seen)) (Int.toNat s3.1) (Op.mk x8.Office (w64 (s3.2.1 + 1)) x8.Key x8.Text x8.Seen)) (Int.toNat s3.1) (Op.mk x10.Office x10.Number x9 x10.Text x10.Seen)) (Int.toNat s3.1) (Op.mk x12.Office x12.Number x12.Key x11 x12.Seen)).length [.flat, .flat, .flat, .flat, (.sl 2 1 [.flat])] ((List.set (List.set (List.set (List.set s3.2.2 (Int.toNat s3.1) (Op.mk s3.2.1 x7.Number x7.Key x7.Text x7.Seen)) (Int.toNat s3.1) (Op.mk x8.Office (w64 (s3.2.1 + 1)) x8.Key x8.Text x8.Seen)) (Int.toNat s3.1) (Op.mk x10.Office x10.Number x9 x10.Text x10.Seen)) (Int.toNat s3.1) (Op.mk x12.Office x12.Number x12.Key x11 x12.Seen)).map eOp) (Int.toNat s3.1) 4 2000046), (2000046, .arr 2 1 x13.Seen.length (x13.Seen.map (eI .i64)))]⟩ ?_
  obtain ⟨x14, hx14, h⟩ := bind_some h
  refine SRun.estep (x_estep_call (f := 23) (caps := []) (xs := [.own 2000046, vi (w64 ((w64 ((w64 ((w64 (s3.2.1 + 1)) + 1)) + 1)) + 1))]) (pre := []) (post := [vi (w64 ((w64 ((w64 ((w64 (s3.2.1 + 1)) + 1)) + 1)) + 1))]) (qs := [vi (w64 ((w64 ((w64 ((w64 (s3.2.1 + 1)) + 1)) + 1)) + 1))]) (z := .own 2000046) (d := 2000046) (pl := 0) (y := .arr 2 1 x13.Seen.length (x13.Seen.map (eI .i64))) (y' := .arr 2 1 x14.2.length (x14.2.map (eI .i64))) (res := ⟨[.v (vi x14.1)], [(0, .arr 2 1 x14.2.length (x14.2.map (eI .i64)))], false⟩) (x := vi x14.1) (yo := none) rfl rfl rfl rfl rfl ents23 (laws_markInt64S_run x13.Seen (w64 ((w64 ((w64 ((w64 (s3.2.1 + 1)) + 1)) + 1)) + 1)) _ hx14) rfl rfl false (fun _ => rfl) (by intro hc; cases hc)) ?_
  refine SRun.le (x_join (L := (List.set (List.set (List.set (List.set s3.2.2 (Int.toNat s3.1) (Op.mk s3.2.1 x7.Number x7.Key x7.Text x7.Seen)) (Int.toNat s3.1) (Op.mk x8.Office (w64 (s3.2.1 + 1)) x8.Key x8.Text x8.Seen)) (Int.toNat s3.1) (Op.mk x10.Office x10.Number x9 x10.Text x10.Seen)) (Int.toNat s3.1) (Op.mk x12.Office x12.Number x12.Key x11 x12.Seen))) (f := eOp) (x' := (Op.mk x13.Office x13.Number x13.Key x13.Text x14.2)) (d := 1000000) (k := 2000046) (e := 61) (m := 5) (j := 4) (e' := 2) (m' := 1) (n' := x14.2.length) (ss := [.flat, .flat, .flat, .flat, (.sl 2 1 [.flat])]) (ss' := [.flat]) (es' := x14.2.map (eI .i64)) hx13 (flat_map (eI_flat .i64) _)) ?_
  refine SRun.ck tbokGC 1 ⟨50, [(0, .own 1000000), (1, vi x14.1), (5, vi s3.1)], [(1000000, .deep 61 5 (List.set (List.set (List.set (List.set (List.set s3.2.2 (Int.toNat s3.1) (Op.mk s3.2.1 x7.Number x7.Key x7.Text x7.Seen)) (Int.toNat s3.1) (Op.mk x8.Office (w64 (s3.2.1 + 1)) x8.Key x8.Text x8.Seen)) (Int.toNat s3.1) (Op.mk x10.Office x10.Number x9 x10.Text x10.Seen)) (Int.toNat s3.1) (Op.mk x12.Office x12.Number x12.Key x11 x12.Seen)) (Int.toNat s3.1) (Op.mk x13.Office x13.Number x13.Key x13.Text x14.2)).length [.flat, .flat, .flat, .flat, (.sl 2 1 [.flat])] ((List.set (List.set (List.set (List.set (List.set s3.2.2 (Int.toNat s3.1) (Op.mk s3.2.1 x7.Number x7.Key x7.Text x7.Seen)) (Int.toNat s3.1) (Op.mk x8.Office (w64 (s3.2.1 + 1)) x8.Key x8.Text x8.Seen)) (Int.toNat s3.1) (Op.mk x10.Office x10.Number x9 x10.Text x10.Seen)) (Int.toNat s3.1) (Op.mk x12.Office x12.Number x12.Key x11 x12.Seen)) (Int.toNat s3.1) (Op.mk x13.Office x13.Number x13.Key x13.Text x14.2)).map eOp))]⟩ ?_
  refine SRun.nil ?_
  replace h := Option.some.inj h
  subst h
  exact q_bn (q_j (Le.sub0))
  refine swp_reg ?_
  refine SRun.ck tbokGC 3 ⟨50, [(0, .own 1000000), (1, vi j5.1), (5, vi (w64 (s3.1 + 1)))], [(1000000, .deep 61 5 j5.2.length [.flat, .flat, .flat, .flat, (.sl 2 1 [.flat])] (j5.2.map eOp))]⟩ ?_
  refine SRun.nil ?_
  replace h := Option.some.inj h
  subst h
  exact q_l (Le.sub0)
  replace h := cond_f hb h
  refine swp_exit ?_
  replace h := Option.some.inj h
  subst h
  exact nx_e (q_re (q_bh (q_j (Le.sub0))))
  refine swp_seq ?_
  refine swp_reg ?_
  refine SRun.ck tbokGC 2 ⟨50, [(4, vi j1.1)], [(1000000, .deep 61 5 j1.2.length [.flat, .flat, .flat, .flat, (.sl 2 1 [.flat])] (j1.2.map eOp))]⟩ ?_
  refine SRun.nil ?_
  refine nx_n ?_
  refine swp_ret ?_
  replace h := Option.some.inj h
  subst h
  exact q_fr (fin_io (fin1 (by kernel_rfl) (finV rfl SV.flat_of (holds_t (by kernel_rfl)))) (y := .deep 61 5 j1.2.length [.flat, .flat, .flat, .flat, (.sl 2 1 [.flat])] (j1.2.map eOp)) (by kernel_rfl) rfl (by kernel_rfl) (by kernel_rfl))
theorem ents22 : Ents Tryd.prog 22 := ents_of Tryd.func22 (by kernel_rfl) rfl
noncomputable def laws_heldInt64S (aA : (List Int)) (aK : Int) : Option (Int) :=
  (((forN (aA.length : Int) (fun (i3 : Int) (s3 : Int) => ((at' aA i3).bind fun x7 => (bif (x7 != s3) then some (.inr (.inr (-1))) else some (.inl (w64 (s3 + 1)))))) (fun (s3 : Int) => .inl s3) 0 aK)).bind (Sum.elim (fun (j1 : Int) => some j1) some))
set_option maxRecDepth 100000 in
set_option maxHeartbeats 4000000 in
theorem laws_heldInt64S_run (aA : (List Int)) (aK : Int) (r : Int) (h : laws_heldInt64S aA aK = some r) : SCall Tryd.prog 24 [.v (vl (eI .i64) aA), .v (vi aK)] ⟨[.v (vi r)], [], false⟩ := by
  refine scall_in Tryd.func24 rfl [(.tmp 4)] rfl (fun r => ⟨[.v (vi r)], [], false⟩) (r := r) ?_
  unfold laws_heldInt64S at h
  refine swp_seq ?_
  refine swp_reg ?_
  refine SRun.ck tbokGC 1 ⟨21, [(0, vl (eI .i64) aA), (1, vi aK)], []⟩ ?_
  refine SRun.nil ?_
  refine nx_n ?_
  refine swp_seq ?_
  refine swp_seq ?_
  refine swp_reg ?_
  refine SRun.ck tbokGC 1 ⟨21, [(0, vl (eI .i64) aA), (1, vi aK), (5, vi 0)], []⟩ ?_
  refine SRun.nil ?_
  refine nx_n ?_
  refine swp_seqE (r := r) h (fun j1 => ⟨21, [(1, vi j1)], []⟩) (fun v2 h => ?_) (fun j1 h => ?_)
  refine swp_blk (a := v2) ?_
  refine swp_lpL (r := v2) (s := (0, aK)) _ (fun s3 => ⟨21, [(0, vl (eI .i64) aA), (1, vi s3.2), (5, vi s3.1)], []⟩) _ (Le.sub0) h (fun s3 v4 h => ?_)
  refine swp_seq ?_
  refine swp_seq ?_
  refine swp_reg ?_
  refine SRun.ck tbokGC 4 ⟨21, [(0, vl (eI .i64) aA), (1, vi s3.2), (5, vi s3.1), (9, vb (decide (s3.1 < (aA.length : Int))))], []⟩ ?_
  refine SRun.nil ?_
  refine nx_n ?_
  refine swp_cond (b := (decide (s3.1 < (aA.length : Int)))) (by kernel_rfl) (fun hb => ?_) (fun hb => ?_)
  replace h := cond_t hb h
  refine swp_skip ?_
  refine nx_n ?_
  refine swp_seq ?_
  refine swp_seqL (r := v4) h (fun j5 => ⟨21, [(0, vl (eI .i64) aA), (1, vi j5), (5, vi s3.1)], []⟩) (fun v6 h => ?_) (fun j5 h => ?_)
  refine swp_blk (a := v6) ?_
  refine swp_seq ?_
  refine swp_seq ?_
  refine swp_reg ?_
  refine SRun.ck tbokGC 2 ⟨21, [(0, vl (eI .i64) aA), (1, vi s3.2), (5, vi s3.1), (12, vl (eI .i64) aA), (13, vi s3.1)], []⟩ ?_
  obtain ⟨x7, hx7, h⟩ := bind_some h
  refine SRun.ls (x_index (L := aA) (f := (eI .i64)) (ti := ti32) (tj := ti2) (e := 2) (k := .i64) tbokGC rfl hx7) ?_
  refine SRun.ck tbokGC 3 ⟨21, [(0, vl (eI .i64) aA), (1, vi s3.2), (5, vi s3.1), (17, vb (x7 != s3.2))], []⟩ ?_
  refine SRun.nil ?_
  refine nx_n ?_
  refine swp_cond (b := (x7 != s3.2)) (by kernel_rfl) (fun hb => ?_) (fun hb => ?_)
  replace h := cond_t hb h
  refine swp_seq ?_
  refine swp_reg ?_
  refine SRun.ck tbokGC 1 ⟨21, [(4, vi (-1))], []⟩ ?_
  refine SRun.nil ?_
  refine nx_n ?_
  refine swp_ret ?_
  replace h := Option.some.inj h
  subst h
  exact nx_r (q_br (q_rr (q_rr (q_br (q_rr (q_fr (fin1 (by kernel_rfl) (finV rfl SV.flat_of (holds_t (by kernel_rfl))))))))))
  replace h := cond_f hb h
  refine swp_skip ?_
  refine nx_n ?_
  refine swp_reg ?_
  refine SRun.ck tbokGC 3 ⟨21, [(0, vl (eI .i64) aA), (1, vi (w64 (s3.2 + 1))), (5, vi s3.1)], []⟩ ?_
  refine SRun.nil ?_
  replace h := Option.some.inj h
  subst h
  exact q_bn (q_l (Le.sub0))
  refine swp_reg ?_
  refine SRun.ck tbokGC 3 ⟨21, [(0, vl (eI .i64) aA), (1, vi j5), (5, vi (w64 (s3.1 + 1)))], []⟩ ?_
  refine SRun.nil ?_
  replace h := Option.some.inj h
  subst h
  exact q_l (Le.sub0)
  replace h := cond_f hb h
  refine swp_exit ?_
  replace h := Option.some.inj h
  subst h
  exact nx_e (q_re (q_bh (q_l (Le.sub0))))
  refine swp_seq ?_
  refine swp_reg ?_
  refine SRun.ck tbokGC 2 ⟨21, [(4, vi j1)], []⟩ ?_
  refine SRun.nil ?_
  refine nx_n ?_
  refine swp_ret ?_
  replace h := Option.some.inj h
  subst h
  exact q_fr (fin1 (by kernel_rfl) (finV rfl SV.flat_of (holds_t (by kernel_rfl))))
theorem ents24 : Ents Tryd.prog 24 := ents_of Tryd.func24 (by kernel_rfl) rfl
noncomputable def laws_FnExactVectorOf (aALog : (List Op)) : Option (Bool) :=
  ((laws_szOpS aALog 1048576).bind fun x1 => (bif (decide (x1 < 0)) then some true else ((laws_toOpS aALog).bind fun x2 => ((spec_VectorOf x2).bind fun x3 => ((laws_toOpS aALog).bind fun x4 => ((impl_VectorOf x4).bind fun x5 => ((((laws_eqInt64S x5.1 x3.1).bind fun x6 => (bif (!x6) then some true else some (x5.2 != x3.2)))).bind fun (j7 : Bool) => (bif j7 then some false else ((laws_toOpS aALog).bind fun x9 => ((laws_eqOpS x4 x9).bind fun x10 => (bif (!x10) then some false else ((laws_markOpS x4 1).bind fun x11 => (((bif (decide (x11.1 < 0)) then some true else ((laws_eqInt64S x5.1 x3.1).bind fun x12 => (bif (!x12) then some true else some (x5.2 != x3.2))))).bind fun (j13 : Bool) => (bif j13 then some false else ((laws_markInt64S x5.1 1).bind fun x15 => ((laws_heldInt64S x15.2 1).bind fun x16 => (bif (decide (x16 < 0)) then some false else (bif (x16 != x15.1) then some false else ((laws_toOpS aALog).bind fun x17 => ((impl_VectorOf x17).bind fun x18 => ((((laws_eqInt64S x18.1 x3.1).bind fun x19 => (bif (!x19) then some true else some (x18.2 != x3.2)))).bind fun (j20 : Bool) => (bif j20 then some false else ((laws_heldInt64S x15.2 1).bind fun x22 => (bif (decide (x22 < 0)) then some false else (bif (x22 != x15.1) then some false else some true)))))))))))))))))))))))))
set_option maxRecDepth 100000 in
set_option maxHeartbeats 4000000 in
theorem laws_FnExactVectorOf_run (aALog : (List Op)) (r : Bool) (h : laws_FnExactVectorOf aALog = some r) : SCall Tryd.prog 5 [.v (vl eOp aALog)] ⟨[.v (vb r)], [], false⟩ := by
  refine scall_in Tryd.func5 rfl [(.tmp 2)] rfl (fun r => ⟨[.v (vb r)], [], false⟩) (r := r) ?_
  unfold laws_FnExactVectorOf at h
  refine swp_seq ?_
  refine swp_reg ?_
  refine SRun.ck tbokGC 1 ⟨96, [(0, vl eOp aALog)], []⟩ ?_
  refine SRun.nil ?_
  refine nx_n ?_
  refine swp_seq ?_
  refine swp_reg ?_
  refine SRun.ck tbokGC 1 ⟨96, [(0, vl eOp aALog), (3, vi 1048576)], []⟩ ?_
  refine SRun.nil ?_
  refine nx_n ?_
  refine swp_seq ?_
  refine swp_reg ?_
  refine SRun.ck tbokGC 2 ⟨96, [(0, vl eOp aALog), (14, vl eOp aALog), (15, vi 1048576)], []⟩ ?_
  obtain ⟨x1, hx1, h⟩ := bind_some h
  refine SRun.ls (x_lstep_call (f := 12) (caps := []) (xs := [vl eOp aALog, vi 1048576]) (ys := [vl eOp aALog, vi 1048576]) (res := ⟨[.v (vi x1)], [], false⟩) (x := vi x1) (y := none) rfl ents12 (laws_szOpS_run aALog 1048576 _ hx1) rfl (by intro hc; cases hc)) ?_
  refine SRun.ck tbokGC 1 ⟨96, [(0, vl eOp aALog), (3, vi x1)], []⟩ ?_
  refine SRun.nil ?_
  refine nx_n ?_
  refine swp_seq ?_
  refine swp_seq ?_
  refine swp_reg ?_
  refine SRun.ck tbokGC 2 ⟨96, [(0, vl eOp aALog), (18, vb (decide (x1 < 0)))], []⟩ ?_
  refine SRun.nil ?_
  refine nx_n ?_
  refine swp_cond (b := (decide (x1 < 0))) (by kernel_rfl) (fun hb => ?_) (fun hb => ?_)
  replace h := cond_t hb h
  refine swp_seq ?_
  refine swp_reg ?_
  refine SRun.ck tbokGC 1 ⟨96, [(2, vb true)], []⟩ ?_
  refine SRun.nil ?_
  refine nx_n ?_
  refine swp_ret ?_
  replace h := Option.some.inj h
  subst h
  exact nx_r (q_fr (fin1 (by kernel_rfl) (finV rfl SV.flat_of (holds_t (by kernel_rfl)))))
  replace h := cond_f hb h
  refine swp_skip ?_
  refine nx_n ?_
  refine swp_seq ?_
  refine swp_reg ?_
  refine SRun.ck tbokGC 1 ⟨96, [(0, vl eOp aALog), (20, vl eOp aALog)], []⟩ ?_
  obtain ⟨x2, hx2, h⟩ := bind_some h
  refine SRun.ls (x_lstep_call (f := 14) (caps := []) (xs := [vl eOp aALog]) (ys := [vl eOp aALog]) (res := ⟨[.deep 61 5 x2.length [.flat, .flat, .flat, .flat, (.sl 2 1 [.flat])] (x2.map eOp)], [], false⟩) (x := .own 21) (y := some (.deep 61 5 x2.length [.flat, .flat, .flat, .flat, (.sl 2 1 [.flat])] (x2.map eOp))) rfl ents14 (laws_toOpS_run aALog _ hx2) rfl (by intro hc; cases hc)) ?_
  obtain ⟨x3, hx3, h⟩ := bind_some h
  refine SRun.ls (x_lstep_call (f := 19) (caps := []) (xs := [.own 21]) (ys := [vl eOp x2]) (res := ⟨[.own 2 1 x3.1.length (x3.1.map (eI .i64)), .v (vi x3.2)], [], false⟩) (x := .tup [.own 22, vi x3.2]) (y := some (.arr 2 1 x3.1.length (x3.1.map (eI .i64)))) rfl ents19 (spec_VectorOf_run x2 _ hx3) rfl (by intro hc; cases hc)) ?_
  refine SRun.ck tbokGC 5 ⟨96, [(0, vl eOp aALog), (4, .own 22), (5, vi x3.2)], [(22, .arr 2 1 x3.1.length (x3.1.map (eI .i64)))]⟩ ?_
  refine SRun.nil ?_
  refine nx_n ?_
  refine swp_seq ?_
  refine swp_reg ?_
  refine SRun.ck tbokGC 1 ⟨96, [(0, vl eOp aALog), (4, .own 22), (5, vi x3.2), (25, vl eOp aALog)], [(22, .arr 2 1 x3.1.length (x3.1.map (eI .i64)))]⟩ ?_
  obtain ⟨x4, hx4, h⟩ := bind_some h
  refine SRun.ls (x_lstep_call (f := 14) (caps := []) (xs := [vl eOp aALog]) (ys := [vl eOp aALog]) (res := ⟨[.deep 61 5 x4.length [.flat, .flat, .flat, .flat, (.sl 2 1 [.flat])] (x4.map eOp)], [], false⟩) (x := .own 26) (y := some (.deep 61 5 x4.length [.flat, .flat, .flat, .flat, (.sl 2 1 [.flat])] (x4.map eOp))) rfl ents14 (laws_toOpS_run aALog _ hx4) rfl (by intro hc; cases hc)) ?_
  refine SRun.ck tbokGC 1 ⟨96, [(0, vl eOp aALog), (4, .own 22), (5, vi x3.2), (6, .own 26)], [(22, .arr 2 1 x3.1.length (x3.1.map (eI .i64))), (26, .deep 61 5 x4.length [.flat, .flat, .flat, .flat, (.sl 2 1 [.flat])] (x4.map eOp))]⟩ ?_
  refine SRun.nil ?_
  refine nx_n ?_
  refine swp_seq ?_
  refine swp_reg ?_
  refine SRun.ck tbokGC 1 ⟨96, [(0, vl eOp aALog), (4, .own 22), (5, vi x3.2), (6, .own 26), (28, .own 26)], [(22, .arr 2 1 x3.1.length (x3.1.map (eI .i64))), (26, .deep 61 5 x4.length [.flat, .flat, .flat, .flat, (.sl 2 1 [.flat])] (x4.map eOp))]⟩ ?_
  obtain ⟨x5, hx5, h⟩ := bind_some h
  refine SRun.ls (x_lstep_call (f := 20) (caps := []) (xs := [.own 26]) (ys := [vl eOp x4]) (res := ⟨[.own 2 1 x5.1.length (x5.1.map (eI .i64)), .v (vi x5.2)], [], false⟩) (x := .tup [.own 29, vi x5.2]) (y := some (.arr 2 1 x5.1.length (x5.1.map (eI .i64)))) rfl ents20 (impl_VectorOf_run x4 _ hx5) rfl (by intro hc; cases hc)) ?_
  refine SRun.ck tbokGC 5 ⟨96, [(0, vl eOp aALog), (4, .own 22), (5, vi x3.2), (6, .own 26), (7, .own 29), (8, vi x5.2)], [(22, .arr 2 1 x3.1.length (x3.1.map (eI .i64))), (26, .deep 61 5 x4.length [.flat, .flat, .flat, .flat, (.sl 2 1 [.flat])] (x4.map eOp)), (29, .arr 2 1 x5.1.length (x5.1.map (eI .i64)))]⟩ ?_
  refine SRun.nil ?_
  refine nx_n ?_
  refine swp_seq ?_
  refine swp_seq ?_
  refine swp_regJ h (fun j7 => ⟨96, [(0, vl eOp aALog), (4, .own 4), (5, vi x3.2), (6, .own 6), (7, .own 7), (8, vi x5.2), (40, vb j7)], [(4, .arr 2 1 x3.1.length (x3.1.map (eI .i64))), (6, .deep 61 5 x4.length [.flat, .flat, .flat, .flat, (.sl 2 1 [.flat])] (x4.map eOp)), (7, .arr 2 1 x5.1.length (x5.1.map (eI .i64)))]⟩) (fun v8 h => ?_) (fun j7 h => ?_)
  refine SRun.ck tbokGC 2 ⟨96, [(0, vl eOp aALog), (4, .own 22), (5, vi x3.2), (6, .own 26), (7, .own 29), (8, vi x5.2), (32, .own 29), (33, .own 22)], [(22, .arr 2 1 x3.1.length (x3.1.map (eI .i64))), (26, .deep 61 5 x4.length [.flat, .flat, .flat, .flat, (.sl 2 1 [.flat])] (x4.map eOp)), (29, .arr 2 1 x5.1.length (x5.1.map (eI .i64)))]⟩ ?_
  obtain ⟨x6, hx6, h⟩ := bind_some h
  refine SRun.ls (x_lstep_call (f := 21) (caps := []) (xs := [.own 29, .own 22]) (ys := [vl (eI .i64) x5.1, vl (eI .i64) x3.1]) (res := ⟨[.v (vb x6)], [], false⟩) (x := vb x6) (y := none) rfl ents21 (laws_eqInt64S_run x5.1 x3.1 _ hx6) rfl (by intro hc; cases hc)) ?_
  refine SRun.ck tbokGC 2 ⟨96, [(0, vl eOp aALog), (4, .own 22), (5, vi x3.2), (6, .own 26), (7, .own 29), (8, vi x5.2), (36, vb (!x6))], [(22, .arr 2 1 x3.1.length (x3.1.map (eI .i64))), (26, .deep 61 5 x4.length [.flat, .flat, .flat, .flat, (.sl 2 1 [.flat])] (x4.map eOp)), (29, .arr 2 1 x5.1.length (x5.1.map (eI .i64)))]⟩ ?_
  refine SRun.cut [(36, fun b => b)] (b := (!x6)) (by kernel_rfl) (fun hb => ?_) (fun hb => ?_)
  replace h := cond_t hb h
  refine SRun.ck tbokGC 4 ⟨96, [(0, vl eOp aALog), (4, .own 22), (5, vi x3.2), (6, .own 26), (7, .own 29), (8, vi x5.2), (40, vb true)], [(22, .arr 2 1 x3.1.length (x3.1.map (eI .i64))), (26, .deep 61 5 x4.length [.flat, .flat, .flat, .flat, (.sl 2 1 [.flat])] (x4.map eOp)), (29, .arr 2 1 x5.1.length (x5.1.map (eI .i64)))]⟩ ?_
  refine SRun.nil ?_
  replace h := Option.some.inj h
  subst h
  exact (Le.sub' ([(0, vl eOp aALog), (4, .own 22), (5, vi x3.2), (6, .own 26), (7, .own 29), (8, vi x5.2), (40, vb true)] : List (Nat × SV)) ([(22, .arr 2 1 x3.1.length (x3.1.map (eI .i64))), (26, .deep 61 5 x4.length [.flat, .flat, .flat, .flat, (.sl 2 1 [.flat])] (x4.map eOp)), (29, .arr 2 1 x5.1.length (x5.1.map (eI .i64)))] : List (Nat × SO)) (by kernel_rfl) (by kernel_rfl)).trans ((Le.ren' (d := 22) (e := 4) (by kernel_rfl) (by kernel_rfl) (by kernel_rfl)).trans ((Le.ren' (d := 26) (e := 6) (by kernel_rfl) (by kernel_rfl) (by kernel_rfl)).trans ((Le.ren' (d := 29) (e := 7) (by kernel_rfl) (by kernel_rfl) (by kernel_rfl)).trans (Le.sub0))))
  replace h := cond_f hb h
  refine SRun.ck tbokGC 4 ⟨96, [(0, vl eOp aALog), (4, .own 22), (5, vi x3.2), (6, .own 26), (7, .own 29), (8, vi x5.2), (40, vb (x5.2 != x3.2))], [(22, .arr 2 1 x3.1.length (x3.1.map (eI .i64))), (26, .deep 61 5 x4.length [.flat, .flat, .flat, .flat, (.sl 2 1 [.flat])] (x4.map eOp)), (29, .arr 2 1 x5.1.length (x5.1.map (eI .i64)))]⟩ ?_
  refine SRun.nil ?_
  replace h := Option.some.inj h
  subst h
  exact (Le.sub' ([(0, vl eOp aALog), (4, .own 22), (5, vi x3.2), (6, .own 26), (7, .own 29), (8, vi x5.2), (40, vb (x5.2 != x3.2))] : List (Nat × SV)) ([(22, .arr 2 1 x3.1.length (x3.1.map (eI .i64))), (26, .deep 61 5 x4.length [.flat, .flat, .flat, .flat, (.sl 2 1 [.flat])] (x4.map eOp)), (29, .arr 2 1 x5.1.length (x5.1.map (eI .i64)))] : List (Nat × SO)) (by kernel_rfl) (by kernel_rfl)).trans ((Le.ren' (d := 22) (e := 4) (by kernel_rfl) (by kernel_rfl) (by kernel_rfl)).trans ((Le.ren' (d := 26) (e := 6) (by kernel_rfl) (by kernel_rfl) (by kernel_rfl)).trans ((Le.ren' (d := 29) (e := 7) (by kernel_rfl) (by kernel_rfl) (by kernel_rfl)).trans (Le.sub0))))
  refine swp_cond (b := j7) (by kernel_rfl) (fun hb => ?_) (fun hb => ?_)
  replace h := cond_t hb h
  refine swp_seq ?_
  refine swp_reg ?_
  refine SRun.ck tbokGC 1 ⟨96, [(2, vb false)], []⟩ ?_
  refine SRun.nil ?_
  refine nx_n ?_
  refine swp_ret ?_
  replace h := Option.some.inj h
  subst h
  exact nx_r (q_fr (fin1 (by kernel_rfl) (finV rfl SV.flat_of (holds_t (by kernel_rfl)))))
  replace h := cond_f hb h
  refine swp_skip ?_
  refine nx_n ?_
  refine swp_seq ?_
  refine swp_seq ?_
  refine swp_reg ?_
  refine SRun.ck tbokGC 2 ⟨96, [(0, vl eOp aALog), (4, .own 4), (5, vi x3.2), (6, .own 6), (7, .own 7), (8, vi x5.2), (41, .own 6), (42, vl eOp aALog)], [(4, .arr 2 1 x3.1.length (x3.1.map (eI .i64))), (6, .deep 61 5 x4.length [.flat, .flat, .flat, .flat, (.sl 2 1 [.flat])] (x4.map eOp)), (7, .arr 2 1 x5.1.length (x5.1.map (eI .i64)))]⟩ ?_
  obtain ⟨x9, hx9, h⟩ := bind_some h
  refine SRun.ls (x_lstep_call (f := 14) (caps := []) (xs := [vl eOp aALog]) (ys := [vl eOp aALog]) (res := ⟨[.deep 61 5 x9.length [.flat, .flat, .flat, .flat, (.sl 2 1 [.flat])] (x9.map eOp)], [], false⟩) (x := .own 43) (y := some (.deep 61 5 x9.length [.flat, .flat, .flat, .flat, (.sl 2 1 [.flat])] (x9.map eOp))) rfl ents14 (laws_toOpS_run aALog _ hx9) rfl (by intro hc; cases hc)) ?_
  obtain ⟨x10, hx10, h⟩ := bind_some h
  refine SRun.ls (x_lstep_call (f := 16) (caps := []) (xs := [.own 6, .own 43]) (ys := [vl eOp x4, vl eOp x9]) (res := ⟨[.v (vb x10)], [], false⟩) (x := vb x10) (y := none) rfl ents16 (laws_eqOpS_run x4 x9 _ hx10) rfl (by intro hc; cases hc)) ?_
  refine SRun.ck tbokGC 1 ⟨96, [(0, vl eOp aALog), (4, .own 4), (5, vi x3.2), (6, .own 6), (7, .own 7), (8, vi x5.2), (45, vb (!x10))], [(4, .arr 2 1 x3.1.length (x3.1.map (eI .i64))), (6, .deep 61 5 x4.length [.flat, .flat, .flat, .flat, (.sl 2 1 [.flat])] (x4.map eOp)), (7, .arr 2 1 x5.1.length (x5.1.map (eI .i64)))]⟩ ?_
  refine SRun.nil ?_
  refine nx_n ?_
  refine swp_cond (b := (!x10)) (by kernel_rfl) (fun hb => ?_) (fun hb => ?_)
  replace h := cond_t hb h
  refine swp_seq ?_
  refine swp_reg ?_
  refine SRun.ck tbokGC 1 ⟨96, [(2, vb false)], []⟩ ?_
  refine SRun.nil ?_
  refine nx_n ?_
  refine swp_ret ?_
  replace h := Option.some.inj h
  subst h
  exact nx_r (q_fr (fin1 (by kernel_rfl) (finV rfl SV.flat_of (holds_t (by kernel_rfl)))))
  replace h := cond_f hb h
  refine swp_skip ?_
  refine nx_n ?_
  refine swp_seq ?_
  refine swp_reg ?_
  refine SRun.ck tbokGC 1 ⟨96, [(0, vl eOp aALog), (4, .own 4), (5, vi x3.2), (6, .own 6), (7, .own 7), (8, vi x5.2), (9, vi 1)], [(4, .arr 2 1 x3.1.length (x3.1.map (eI .i64))), (6, .deep 61 5 x4.length [.flat, .flat, .flat, .flat, (.sl 2 1 [.flat])] (x4.map eOp)), (7, .arr 2 1 x5.1.length (x5.1.map (eI .i64)))]⟩ ?_
  refine SRun.nil ?_
  refine nx_n ?_
  refine swp_seq ?_
  refine swp_reg ?_
  refine SRun.ck tbokGC 2 ⟨96, [(0, vl eOp aALog), (4, .own 4), (5, vi x3.2), (7, .own 7), (8, vi x5.2), (46, .own 6), (47, vi 1)], [(4, .arr 2 1 x3.1.length (x3.1.map (eI .i64))), (6, .deep 61 5 x4.length [.flat, .flat, .flat, .flat, (.sl 2 1 [.flat])] (x4.map eOp)), (7, .arr 2 1 x5.1.length (x5.1.map (eI .i64)))]⟩ ?_
  obtain ⟨x11, hx11, h⟩ := bind_some h
  refine SRun.estep (x_estep_call (f := 22) (caps := []) (xs := [.own 6, vi 1]) (pre := []) (post := [vi 1]) (qs := [vi 1]) (z := .own 6) (d := 6) (pl := 0) (y := .deep 61 5 x4.length [.flat, .flat, .flat, .flat, (.sl 2 1 [.flat])] (x4.map eOp)) (y' := .deep 61 5 x11.2.length [.flat, .flat, .flat, .flat, (.sl 2 1 [.flat])] (x11.2.map eOp)) (res := ⟨[.v (vi x11.1)], [(0, .deep 61 5 x11.2.length [.flat, .flat, .flat, .flat, (.sl 2 1 [.flat])] (x11.2.map eOp))], false⟩) (x := vi x11.1) (yo := none) rfl rfl rfl rfl rfl ents22 (laws_markOpS_run x4 1 _ hx11) rfl rfl false (fun _ => rfl) (by intro hc; cases hc)) ?_
  refine SRun.ck tbokGC 1 ⟨96, [(0, vl eOp aALog), (4, .own 4), (5, vi x3.2), (7, .own 7), (8, vi x5.2), (9, vi x11.1)], [(4, .arr 2 1 x3.1.length (x3.1.map (eI .i64))), (7, .arr 2 1 x5.1.length (x5.1.map (eI .i64)))]⟩ ?_
  refine SRun.nil ?_
  refine nx_n ?_
  refine swp_seq ?_
  refine swp_seq ?_
  refine swp_regJ h (fun j13 => ⟨96, [(0, vl eOp aALog), (4, .own 4), (5, vi x3.2), (7, .own 7), (61, vb j13)], [(4, .arr 2 1 x3.1.length (x3.1.map (eI .i64))), (7, .arr 2 1 x5.1.length (x5.1.map (eI .i64)))]⟩) (fun v14 h => ?_) (fun j13 h => ?_)
  refine SRun.ck tbokGC 3 ⟨96, [(0, vl eOp aALog), (4, .own 4), (5, vi x3.2), (7, .own 7), (8, vi x5.2), (51, vb (decide (x11.1 < 0)))], [(4, .arr 2 1 x3.1.length (x3.1.map (eI .i64))), (7, .arr 2 1 x5.1.length (x5.1.map (eI .i64)))]⟩ ?_
  refine SRun.cut [(51, fun b => b)] (b := (decide (x11.1 < 0))) (by kernel_rfl) (fun hb => ?_) (fun hb => ?_)
  replace h := cond_t hb h
  refine SRun.ck tbokGC 10 ⟨96, [(0, vl eOp aALog), (4, .own 4), (5, vi x3.2), (7, .own 7), (61, vb true)], [(4, .arr 2 1 x3.1.length (x3.1.map (eI .i64))), (7, .arr 2 1 x5.1.length (x5.1.map (eI .i64)))]⟩ ?_
  refine SRun.nil ?_
  replace h := Option.some.inj h
  subst h
  exact Le.sub0
  replace h := cond_f hb h
  refine SRun.ck tbokGC 2 ⟨96, [(0, vl eOp aALog), (4, .own 4), (5, vi x3.2), (7, .own 7), (8, vi x5.2), (51, vb false), (52, .own 7), (53, .own 4)], [(4, .arr 2 1 x3.1.length (x3.1.map (eI .i64))), (7, .arr 2 1 x5.1.length (x5.1.map (eI .i64)))]⟩ ?_
  obtain ⟨x12, hx12, h⟩ := bind_some h
  refine SRun.ls (x_lstep_call (f := 21) (caps := []) (xs := [.own 7, .own 4]) (ys := [vl (eI .i64) x5.1, vl (eI .i64) x3.1]) (res := ⟨[.v (vb x12)], [], false⟩) (x := vb x12) (y := none) rfl ents21 (laws_eqInt64S_run x5.1 x3.1 _ hx12) rfl (by intro hc; cases hc)) ?_
  refine SRun.ck tbokGC 3 ⟨96, [(0, vl eOp aALog), (4, .own 4), (5, vi x3.2), (7, .own 7), (8, vi x5.2), (57, vb (!x12))], [(4, .arr 2 1 x3.1.length (x3.1.map (eI .i64))), (7, .arr 2 1 x5.1.length (x5.1.map (eI .i64)))]⟩ ?_
  refine SRun.cut [(57, fun b => b)] (b := (!x12)) (by kernel_rfl) (fun hb => ?_) (fun hb => ?_)
  replace h := cond_t hb h
  refine SRun.ck tbokGC 4 ⟨96, [(0, vl eOp aALog), (4, .own 4), (5, vi x3.2), (7, .own 7), (61, vb true)], [(4, .arr 2 1 x3.1.length (x3.1.map (eI .i64))), (7, .arr 2 1 x5.1.length (x5.1.map (eI .i64)))]⟩ ?_
  refine SRun.nil ?_
  replace h := Option.some.inj h
  subst h
  exact Le.sub0
  replace h := cond_f hb h
  refine SRun.ck tbokGC 4 ⟨96, [(0, vl eOp aALog), (4, .own 4), (5, vi x3.2), (7, .own 7), (61, vb (x5.2 != x3.2))], [(4, .arr 2 1 x3.1.length (x3.1.map (eI .i64))), (7, .arr 2 1 x5.1.length (x5.1.map (eI .i64)))]⟩ ?_
  refine SRun.nil ?_
  replace h := Option.some.inj h
  subst h
  exact Le.sub0
  refine swp_cond (b := j13) (by kernel_rfl) (fun hb => ?_) (fun hb => ?_)
  replace h := cond_t hb h
  refine swp_seq ?_
  refine swp_reg ?_
  refine SRun.ck tbokGC 1 ⟨96, [(2, vb false)], []⟩ ?_
  refine SRun.nil ?_
  refine nx_n ?_
  refine swp_ret ?_
  replace h := Option.some.inj h
  subst h
  exact nx_r (q_fr (fin1 (by kernel_rfl) (finV rfl SV.flat_of (holds_t (by kernel_rfl)))))
  replace h := cond_f hb h
  refine swp_skip ?_
  refine nx_n ?_
  refine swp_seq ?_
  refine swp_reg ?_
  refine SRun.ck tbokGC 1 ⟨96, [(0, vl eOp aALog), (4, .own 4), (5, vi x3.2), (7, .own 7), (10, vi 1)], [(4, .arr 2 1 x3.1.length (x3.1.map (eI .i64))), (7, .arr 2 1 x5.1.length (x5.1.map (eI .i64)))]⟩ ?_
  refine SRun.nil ?_
  refine nx_n ?_
  refine swp_seq ?_
  refine swp_reg ?_
  refine SRun.ck tbokGC 2 ⟨96, [(0, vl eOp aALog), (4, .own 4), (5, vi x3.2), (7, .own 7), (62, .own 7), (63, vi 1)], [(4, .arr 2 1 x3.1.length (x3.1.map (eI .i64))), (7, .arr 2 1 x5.1.length (x5.1.map (eI .i64)))]⟩ ?_
  obtain ⟨x15, hx15, h⟩ := bind_some h
  refine SRun.estep (x_estep_call (f := 23) (caps := []) (xs := [.own 7, vi 1]) (pre := []) (post := [vi 1]) (qs := [vi 1]) (z := .own 7) (d := 7) (pl := 0) (y := .arr 2 1 x5.1.length (x5.1.map (eI .i64))) (y' := .arr 2 1 x15.2.length (x15.2.map (eI .i64))) (res := ⟨[.v (vi x15.1)], [(0, .arr 2 1 x15.2.length (x15.2.map (eI .i64)))], false⟩) (x := vi x15.1) (yo := none) rfl rfl rfl rfl rfl ents23 (laws_markInt64S_run x5.1 1 _ hx15) rfl rfl false (fun _ => rfl) (by intro hc; cases hc)) ?_
  refine SRun.ck tbokGC 1 ⟨96, [(0, vl eOp aALog), (4, .own 4), (5, vi x3.2), (7, .own 7), (10, vi x15.1)], [(4, .arr 2 1 x3.1.length (x3.1.map (eI .i64))), (7, .arr 2 1 x15.2.length (x15.2.map (eI .i64)))]⟩ ?_
  refine SRun.nil ?_
  refine nx_n ?_
  refine swp_seq ?_
  refine swp_reg ?_
  refine SRun.ck tbokGC 1 ⟨96, [(0, vl eOp aALog), (4, .own 4), (5, vi x3.2), (7, .own 7), (10, vi x15.1), (11, vi 1)], [(4, .arr 2 1 x3.1.length (x3.1.map (eI .i64))), (7, .arr 2 1 x15.2.length (x15.2.map (eI .i64)))]⟩ ?_
  refine SRun.nil ?_
  refine nx_n ?_
  refine swp_seq ?_
  refine swp_reg ?_
  refine SRun.ck tbokGC 2 ⟨96, [(0, vl eOp aALog), (4, .own 4), (5, vi x3.2), (7, .own 7), (10, vi x15.1), (65, .own 7), (66, vi 1)], [(4, .arr 2 1 x3.1.length (x3.1.map (eI .i64))), (7, .arr 2 1 x15.2.length (x15.2.map (eI .i64)))]⟩ ?_
  obtain ⟨x16, hx16, h⟩ := bind_some h
  refine SRun.ls (x_lstep_call (f := 24) (caps := []) (xs := [.own 7, vi 1]) (ys := [vl (eI .i64) x15.2, vi 1]) (res := ⟨[.v (vi x16)], [], false⟩) (x := vi x16) (y := none) rfl ents24 (laws_heldInt64S_run x15.2 1 _ hx16) rfl (by intro hc; cases hc)) ?_
  refine SRun.ck tbokGC 1 ⟨96, [(0, vl eOp aALog), (4, .own 4), (5, vi x3.2), (7, .own 7), (10, vi x15.1), (11, vi x16)], [(4, .arr 2 1 x3.1.length (x3.1.map (eI .i64))), (7, .arr 2 1 x15.2.length (x15.2.map (eI .i64)))]⟩ ?_
  refine SRun.nil ?_
  refine nx_n ?_
  refine swp_seq ?_
  refine swp_seq ?_
  refine swp_reg ?_
  refine SRun.ck tbokGC 2 ⟨96, [(0, vl eOp aALog), (4, .own 4), (5, vi x3.2), (7, .own 7), (10, vi x15.1), (11, vi x16), (69, vb (decide (x16 < 0)))], [(4, .arr 2 1 x3.1.length (x3.1.map (eI .i64))), (7, .arr 2 1 x15.2.length (x15.2.map (eI .i64)))]⟩ ?_
  refine SRun.nil ?_
  refine nx_n ?_
  refine swp_cond (b := (decide (x16 < 0))) (by kernel_rfl) (fun hb => ?_) (fun hb => ?_)
  replace h := cond_t hb h
  refine swp_seq ?_
  refine swp_reg ?_
  refine SRun.ck tbokGC 1 ⟨96, [(2, vb false)], []⟩ ?_
  refine SRun.nil ?_
  refine nx_n ?_
  refine swp_ret ?_
  replace h := Option.some.inj h
  subst h
  exact nx_r (q_fr (fin1 (by kernel_rfl) (finV rfl SV.flat_of (holds_t (by kernel_rfl)))))
  replace h := cond_f hb h
  refine swp_skip ?_
  refine nx_n ?_
  refine swp_seq ?_
  refine swp_seq ?_
  refine swp_reg ?_
  refine SRun.ck tbokGC 3 ⟨96, [(0, vl eOp aALog), (4, .own 4), (5, vi x3.2), (7, .own 7), (10, vi x15.1), (72, vb (x16 != x15.1))], [(4, .arr 2 1 x3.1.length (x3.1.map (eI .i64))), (7, .arr 2 1 x15.2.length (x15.2.map (eI .i64)))]⟩ ?_
  refine SRun.nil ?_
  refine nx_n ?_
  refine swp_cond (b := (x16 != x15.1)) (by kernel_rfl) (fun hb => ?_) (fun hb => ?_)
  replace h := cond_t hb h
  refine swp_seq ?_
  refine swp_reg ?_
  refine SRun.ck tbokGC 1 ⟨96, [(2, vb false)], []⟩ ?_
  refine SRun.nil ?_
  refine nx_n ?_
  refine swp_ret ?_
  replace h := Option.some.inj h
  subst h
  exact nx_r (q_fr (fin1 (by kernel_rfl) (finV rfl SV.flat_of (holds_t (by kernel_rfl)))))
  replace h := cond_f hb h
  refine swp_skip ?_
  refine nx_n ?_
  refine swp_seq ?_
  refine swp_reg ?_
  refine SRun.ck tbokGC 1 ⟨96, [(4, .own 4), (5, vi x3.2), (7, .own 7), (10, vi x15.1), (74, vl eOp aALog)], [(4, .arr 2 1 x3.1.length (x3.1.map (eI .i64))), (7, .arr 2 1 x15.2.length (x15.2.map (eI .i64)))]⟩ ?_
  obtain ⟨x17, hx17, h⟩ := bind_some h
  refine SRun.ls (x_lstep_call (f := 14) (caps := []) (xs := [vl eOp aALog]) (ys := [vl eOp aALog]) (res := ⟨[.deep 61 5 x17.length [.flat, .flat, .flat, .flat, (.sl 2 1 [.flat])] (x17.map eOp)], [], false⟩) (x := .own 75) (y := some (.deep 61 5 x17.length [.flat, .flat, .flat, .flat, (.sl 2 1 [.flat])] (x17.map eOp))) rfl ents14 (laws_toOpS_run aALog _ hx17) rfl (by intro hc; cases hc)) ?_
  obtain ⟨x18, hx18, h⟩ := bind_some h
  refine SRun.ls (x_lstep_call (f := 20) (caps := []) (xs := [.own 75]) (ys := [vl eOp x17]) (res := ⟨[.own 2 1 x18.1.length (x18.1.map (eI .i64)), .v (vi x18.2)], [], false⟩) (x := .tup [.own 76, vi x18.2]) (y := some (.arr 2 1 x18.1.length (x18.1.map (eI .i64)))) rfl ents20 (impl_VectorOf_run x17 _ hx18) rfl (by intro hc; cases hc)) ?_
  refine SRun.ck tbokGC 5 ⟨96, [(4, .own 4), (5, vi x3.2), (7, .own 7), (10, vi x15.1), (12, .own 76), (13, vi x18.2)], [(4, .arr 2 1 x3.1.length (x3.1.map (eI .i64))), (7, .arr 2 1 x15.2.length (x15.2.map (eI .i64))), (76, .arr 2 1 x18.1.length (x18.1.map (eI .i64)))]⟩ ?_
  refine SRun.nil ?_
  refine nx_n ?_
  refine swp_seq ?_
  refine swp_seq ?_
  refine swp_regJ h (fun j20 => ⟨96, [(7, .own 7), (10, vi x15.1), (87, vb j20)], [(7, .arr 2 1 x15.2.length (x15.2.map (eI .i64)))]⟩) (fun v21 h => ?_) (fun j20 h => ?_)
  refine SRun.ck tbokGC 2 ⟨96, [(5, vi x3.2), (7, .own 7), (10, vi x15.1), (13, vi x18.2), (79, .own 76), (80, .own 4)], [(4, .arr 2 1 x3.1.length (x3.1.map (eI .i64))), (7, .arr 2 1 x15.2.length (x15.2.map (eI .i64))), (76, .arr 2 1 x18.1.length (x18.1.map (eI .i64)))]⟩ ?_
  obtain ⟨x19, hx19, h⟩ := bind_some h
  refine SRun.ls (x_lstep_call (f := 21) (caps := []) (xs := [.own 76, .own 4]) (ys := [vl (eI .i64) x18.1, vl (eI .i64) x3.1]) (res := ⟨[.v (vb x19)], [], false⟩) (x := vb x19) (y := none) rfl ents21 (laws_eqInt64S_run x18.1 x3.1 _ hx19) rfl (by intro hc; cases hc)) ?_
  refine SRun.ck tbokGC 2 ⟨96, [(5, vi x3.2), (7, .own 7), (10, vi x15.1), (13, vi x18.2), (83, vb (!x19))], [(7, .arr 2 1 x15.2.length (x15.2.map (eI .i64)))]⟩ ?_
  refine SRun.cut [(83, fun b => b)] (b := (!x19)) (by kernel_rfl) (fun hb => ?_) (fun hb => ?_)
  replace h := cond_t hb h
  refine SRun.ck tbokGC 4 ⟨96, [(7, .own 7), (10, vi x15.1), (87, vb true)], [(7, .arr 2 1 x15.2.length (x15.2.map (eI .i64)))]⟩ ?_
  refine SRun.nil ?_
  replace h := Option.some.inj h
  subst h
  exact Le.sub0
  replace h := cond_f hb h
  refine SRun.ck tbokGC 4 ⟨96, [(7, .own 7), (10, vi x15.1), (87, vb (x18.2 != x3.2))], [(7, .arr 2 1 x15.2.length (x15.2.map (eI .i64)))]⟩ ?_
  refine SRun.nil ?_
  replace h := Option.some.inj h
  subst h
  exact Le.sub0
  refine swp_cond (b := j20) (by kernel_rfl) (fun hb => ?_) (fun hb => ?_)
  replace h := cond_t hb h
  refine swp_seq ?_
  refine swp_reg ?_
  refine SRun.ck tbokGC 1 ⟨96, [(2, vb false)], []⟩ ?_
  refine SRun.nil ?_
  refine nx_n ?_
  refine swp_ret ?_
  replace h := Option.some.inj h
  subst h
  exact nx_r (q_fr (fin1 (by kernel_rfl) (finV rfl SV.flat_of (holds_t (by kernel_rfl)))))
  replace h := cond_f hb h
  refine swp_skip ?_
  refine nx_n ?_
  refine swp_seq ?_
  refine swp_reg ?_
  refine SRun.ck tbokGC 1 ⟨96, [(7, .own 7), (10, vi x15.1), (11, vi 1)], [(7, .arr 2 1 x15.2.length (x15.2.map (eI .i64)))]⟩ ?_
  refine SRun.nil ?_
  refine nx_n ?_
  refine swp_seq ?_
  refine swp_reg ?_
  refine SRun.ck tbokGC 2 ⟨96, [(10, vi x15.1), (88, .own 7), (89, vi 1)], [(7, .arr 2 1 x15.2.length (x15.2.map (eI .i64)))]⟩ ?_
  obtain ⟨x22, hx22, h⟩ := bind_some h
  refine SRun.ls (x_lstep_call (f := 24) (caps := []) (xs := [.own 7, vi 1]) (ys := [vl (eI .i64) x15.2, vi 1]) (res := ⟨[.v (vi x22)], [], false⟩) (x := vi x22) (y := none) rfl ents24 (laws_heldInt64S_run x15.2 1 _ hx22) rfl (by intro hc; cases hc)) ?_
  refine SRun.ck tbokGC 1 ⟨96, [(10, vi x15.1), (11, vi x22)], []⟩ ?_
  refine SRun.nil ?_
  refine nx_n ?_
  refine swp_seq ?_
  refine swp_seq ?_
  refine swp_reg ?_
  refine SRun.ck tbokGC 2 ⟨96, [(10, vi x15.1), (11, vi x22), (92, vb (decide (x22 < 0)))], []⟩ ?_
  refine SRun.nil ?_
  refine nx_n ?_
  refine swp_cond (b := (decide (x22 < 0))) (by kernel_rfl) (fun hb => ?_) (fun hb => ?_)
  replace h := cond_t hb h
  refine swp_seq ?_
  refine swp_reg ?_
  refine SRun.ck tbokGC 1 ⟨96, [(2, vb false)], []⟩ ?_
  refine SRun.nil ?_
  refine nx_n ?_
  refine swp_ret ?_
  replace h := Option.some.inj h
  subst h
  exact nx_r (q_fr (fin1 (by kernel_rfl) (finV rfl SV.flat_of (holds_t (by kernel_rfl)))))
  replace h := cond_f hb h
  refine swp_skip ?_
  refine nx_n ?_
  refine swp_seq ?_
  refine swp_seq ?_
  refine swp_reg ?_
  refine SRun.ck tbokGC 3 ⟨96, [(95, vb (x22 != x15.1))], []⟩ ?_
  refine SRun.nil ?_
  refine nx_n ?_
  refine swp_cond (b := (x22 != x15.1)) (by kernel_rfl) (fun hb => ?_) (fun hb => ?_)
  replace h := cond_t hb h
  refine swp_seq ?_
  refine swp_reg ?_
  refine SRun.ck tbokGC 1 ⟨96, [(2, vb false)], []⟩ ?_
  refine SRun.nil ?_
  refine nx_n ?_
  refine swp_ret ?_
  replace h := Option.some.inj h
  subst h
  exact nx_r (q_fr (fin1 (by kernel_rfl) (finV rfl SV.flat_of (holds_t (by kernel_rfl)))))
  replace h := cond_f hb h
  refine swp_skip ?_
  refine nx_n ?_
  refine swp_seq ?_
  refine swp_reg ?_
  refine SRun.ck tbokGC 1 ⟨96, [(2, vb true)], []⟩ ?_
  refine SRun.nil ?_
  refine nx_n ?_
  refine swp_ret ?_
  replace h := Option.some.inj h
  subst h
  exact q_fr (fin1 (by kernel_rfl) (finV rfl SV.flat_of (holds_t (by kernel_rfl))))
theorem ents5 : Ents Tryd.prog 5 := ents_of Tryd.func5 (by kernel_rfl) rfl
noncomputable def laws_FnExactMissingFor (aALog : (List Op)) (aAVector : (List Int)) : Option (Bool) :=
  (bif (decide ((aAVector.length : Int) > 1048576)) then some true else ((laws_szOpS aALog 1048576).bind fun x1 => (bif (decide (x1 < 0)) then some true else ((laws_toOpS aALog).bind fun x2 => ((laws_toInt64S aAVector).bind fun x3 => ((spec_MissingFor x2 x3).bind fun x4 => ((laws_toOpS aALog).bind fun x5 => ((laws_toInt64S aAVector).bind fun x6 => ((impl_MissingFor x5 x6).bind fun x7 => ((((laws_eqInt64S x7.1 x4.1).bind fun x8 => (bif (!x8) then some true else some (x7.2 != x4.2)))).bind fun (j9 : Bool) => (bif j9 then some false else ((laws_toOpS aALog).bind fun x11 => ((laws_eqOpS x5 x11).bind fun x12 => (bif (!x12) then some false else ((laws_toInt64S aAVector).bind fun x13 => ((laws_eqInt64S x6 x13).bind fun x14 => (bif (!x14) then some false else ((laws_markOpS x5 1).bind fun x15 => ((laws_markInt64S x6 x15.1).bind fun x16 => (((bif (decide (x16.1 < 0)) then some true else ((laws_eqInt64S x7.1 x4.1).bind fun x17 => (bif (!x17) then some true else some (x7.2 != x4.2))))).bind fun (j18 : Bool) => (bif j18 then some false else ((laws_markInt64S x7.1 1).bind fun x20 => ((laws_heldInt64S x20.2 1).bind fun x21 => (bif (decide (x21 < 0)) then some false else (bif (x21 != x20.1) then some false else ((laws_toOpS aALog).bind fun x22 => ((laws_toInt64S aAVector).bind fun x23 => ((impl_MissingFor x22 x23).bind fun x24 => ((((laws_eqInt64S x24.1 x4.1).bind fun x25 => (bif (!x25) then some true else some (x24.2 != x4.2)))).bind fun (j26 : Bool) => (bif j26 then some false else ((laws_heldInt64S x20.2 1).bind fun x28 => (bif (decide (x28 < 0)) then some false else (bif (x28 != x20.1) then some false else some true)))))))))))))))))))))))))))))))))
set_option maxRecDepth 100000 in
set_option maxHeartbeats 4000000 in
theorem laws_FnExactMissingFor_run (aALog : (List Op)) (aAVector : (List Int)) (r : Bool) (h : laws_FnExactMissingFor aALog aAVector = some r) : SCall Tryd.prog 6 [.v (vl eOp aALog), .v (vl (eI .i64) aAVector)] ⟨[.v (vb r)], [], false⟩ := by
  refine scall_in Tryd.func6 rfl [(.tmp 4)] rfl (fun r => ⟨[.v (vb r)], [], false⟩) (r := r) ?_
  unfold laws_FnExactMissingFor at h
  refine swp_seq ?_
  refine swp_reg ?_
  refine SRun.ck tbokGC 1 ⟨117, [(0, vl eOp aALog), (1, vl (eI .i64) aAVector)], []⟩ ?_
  refine SRun.nil ?_
  refine nx_n ?_
  refine swp_seq ?_
  refine swp_seq ?_
  refine swp_reg ?_
  refine SRun.ck tbokGC 3 ⟨117, [(0, vl eOp aALog), (1, vl (eI .i64) aAVector), (19, vb (decide ((aAVector.length : Int) > 1048576)))], []⟩ ?_
  refine SRun.nil ?_
  refine nx_n ?_
  refine swp_cond (b := (decide ((aAVector.length : Int) > 1048576))) (by kernel_rfl) (fun hb => ?_) (fun hb => ?_)
  replace h := cond_t hb h
  refine swp_seq ?_
  refine swp_reg ?_
  refine SRun.ck tbokGC 1 ⟨117, [(4, vb true)], []⟩ ?_
  refine SRun.nil ?_
  refine nx_n ?_
  refine swp_ret ?_
  replace h := Option.some.inj h
  subst h
  exact nx_r (q_fr (fin1 (by kernel_rfl) (finV rfl SV.flat_of (holds_t (by kernel_rfl)))))
  replace h := cond_f hb h
  refine swp_skip ?_
  refine nx_n ?_
  refine swp_seq ?_
  refine swp_reg ?_
  refine SRun.ck tbokGC 1 ⟨117, [(0, vl eOp aALog), (1, vl (eI .i64) aAVector), (5, vi 1048576)], []⟩ ?_
  refine SRun.nil ?_
  refine nx_n ?_
  refine swp_seq ?_
  refine swp_reg ?_
  refine SRun.ck tbokGC 2 ⟨117, [(0, vl eOp aALog), (1, vl (eI .i64) aAVector), (20, vl eOp aALog), (21, vi 1048576)], []⟩ ?_
  obtain ⟨x1, hx1, h⟩ := bind_some h
  refine SRun.ls (x_lstep_call (f := 12) (caps := []) (xs := [vl eOp aALog, vi 1048576]) (ys := [vl eOp aALog, vi 1048576]) (res := ⟨[.v (vi x1)], [], false⟩) (x := vi x1) (y := none) rfl ents12 (laws_szOpS_run aALog 1048576 _ hx1) rfl (by intro hc; cases hc)) ?_
  refine SRun.ck tbokGC 1 ⟨117, [(0, vl eOp aALog), (1, vl (eI .i64) aAVector), (5, vi x1)], []⟩ ?_
  refine SRun.nil ?_
  refine nx_n ?_
  refine swp_seq ?_
  refine swp_seq ?_
  refine swp_reg ?_
  refine SRun.ck tbokGC 2 ⟨117, [(0, vl eOp aALog), (1, vl (eI .i64) aAVector), (24, vb (decide (x1 < 0)))], []⟩ ?_
  refine SRun.nil ?_
  refine nx_n ?_
  refine swp_cond (b := (decide (x1 < 0))) (by kernel_rfl) (fun hb => ?_) (fun hb => ?_)
  replace h := cond_t hb h
  refine swp_seq ?_
  refine swp_reg ?_
  refine SRun.ck tbokGC 1 ⟨117, [(4, vb true)], []⟩ ?_
  refine SRun.nil ?_
  refine nx_n ?_
  refine swp_ret ?_
  replace h := Option.some.inj h
  subst h
  exact nx_r (q_fr (fin1 (by kernel_rfl) (finV rfl SV.flat_of (holds_t (by kernel_rfl)))))
  replace h := cond_f hb h
  refine swp_skip ?_
  refine nx_n ?_
  refine swp_seq ?_
  refine swp_reg ?_
  refine SRun.ck tbokGC 1 ⟨117, [(0, vl eOp aALog), (1, vl (eI .i64) aAVector), (26, vl eOp aALog)], []⟩ ?_
  obtain ⟨x2, hx2, h⟩ := bind_some h
  refine SRun.ls (x_lstep_call (f := 14) (caps := []) (xs := [vl eOp aALog]) (ys := [vl eOp aALog]) (res := ⟨[.deep 61 5 x2.length [.flat, .flat, .flat, .flat, (.sl 2 1 [.flat])] (x2.map eOp)], [], false⟩) (x := .own 27) (y := some (.deep 61 5 x2.length [.flat, .flat, .flat, .flat, (.sl 2 1 [.flat])] (x2.map eOp))) rfl ents14 (laws_toOpS_run aALog _ hx2) rfl (by intro hc; cases hc)) ?_
  refine SRun.ck tbokGC 1 ⟨117, [(0, vl eOp aALog), (1, vl (eI .i64) aAVector), (27, .own 27), (28, vl (eI .i64) aAVector)], [(27, .deep 61 5 x2.length [.flat, .flat, .flat, .flat, (.sl 2 1 [.flat])] (x2.map eOp))]⟩ ?_
  obtain ⟨x3, hx3, h⟩ := bind_some h
  refine SRun.ls (x_lstep_call (f := 26) (caps := []) (xs := [vl (eI .i64) aAVector]) (ys := [vl (eI .i64) aAVector]) (res := ⟨[.own 2 1 x3.length (x3.map (eI .i64))], [], false⟩) (x := .own 29) (y := some (.arr 2 1 x3.length (x3.map (eI .i64)))) rfl ents26 (laws_toInt64S_run aAVector _ hx3) rfl (by intro hc; cases hc)) ?_
  obtain ⟨x4, hx4, h⟩ := bind_some h
  refine SRun.ls (x_lstep_call (f := 25) (caps := []) (xs := [.own 27, .own 29]) (ys := [vl eOp x2, vl (eI .i64) x3]) (res := ⟨[.own 2 1 x4.1.length (x4.1.map (eI .i64)), .v (vi x4.2)], [], false⟩) (x := .tup [.own 30, vi x4.2]) (y := some (.arr 2 1 x4.1.length (x4.1.map (eI .i64)))) rfl ents25 (spec_MissingFor_run x2 x3 _ hx4) rfl (by intro hc; cases hc)) ?_
  refine SRun.ck tbokGC 5 ⟨117, [(0, vl eOp aALog), (1, vl (eI .i64) aAVector), (6, .own 30), (7, vi x4.2)], [(30, .arr 2 1 x4.1.length (x4.1.map (eI .i64)))]⟩ ?_
  refine SRun.nil ?_
  refine nx_n ?_
  refine swp_seq ?_
  refine swp_reg ?_
  refine SRun.ck tbokGC 1 ⟨117, [(0, vl eOp aALog), (1, vl (eI .i64) aAVector), (6, .own 30), (7, vi x4.2), (33, vl eOp aALog)], [(30, .arr 2 1 x4.1.length (x4.1.map (eI .i64)))]⟩ ?_
  obtain ⟨x5, hx5, h⟩ := bind_some h
  refine SRun.ls (x_lstep_call (f := 14) (caps := []) (xs := [vl eOp aALog]) (ys := [vl eOp aALog]) (res := ⟨[.deep 61 5 x5.length [.flat, .flat, .flat, .flat, (.sl 2 1 [.flat])] (x5.map eOp)], [], false⟩) (x := .own 34) (y := some (.deep 61 5 x5.length [.flat, .flat, .flat, .flat, (.sl 2 1 [.flat])] (x5.map eOp))) rfl ents14 (laws_toOpS_run aALog _ hx5) rfl (by intro hc; cases hc)) ?_
  refine SRun.ck tbokGC 1 ⟨117, [(0, vl eOp aALog), (1, vl (eI .i64) aAVector), (6, .own 30), (7, vi x4.2), (8, .own 34)], [(30, .arr 2 1 x4.1.length (x4.1.map (eI .i64))), (34, .deep 61 5 x5.length [.flat, .flat, .flat, .flat, (.sl 2 1 [.flat])] (x5.map eOp))]⟩ ?_
  refine SRun.nil ?_
  refine nx_n ?_
  refine swp_seq ?_
  refine swp_reg ?_
  refine SRun.ck tbokGC 1 ⟨117, [(0, vl eOp aALog), (1, vl (eI .i64) aAVector), (6, .own 30), (7, vi x4.2), (8, .own 34), (35, vl (eI .i64) aAVector)], [(30, .arr 2 1 x4.1.length (x4.1.map (eI .i64))), (34, .deep 61 5 x5.length [.flat, .flat, .flat, .flat, (.sl 2 1 [.flat])] (x5.map eOp))]⟩ ?_
  obtain ⟨x6, hx6, h⟩ := bind_some h
  refine SRun.ls (x_lstep_call (f := 26) (caps := []) (xs := [vl (eI .i64) aAVector]) (ys := [vl (eI .i64) aAVector]) (res := ⟨[.own 2 1 x6.length (x6.map (eI .i64))], [], false⟩) (x := .own 36) (y := some (.arr 2 1 x6.length (x6.map (eI .i64)))) rfl ents26 (laws_toInt64S_run aAVector _ hx6) rfl (by intro hc; cases hc)) ?_
  refine SRun.ck tbokGC 1 ⟨117, [(0, vl eOp aALog), (1, vl (eI .i64) aAVector), (6, .own 30), (7, vi x4.2), (8, .own 34), (9, .own 36)], [(30, .arr 2 1 x4.1.length (x4.1.map (eI .i64))), (34, .deep 61 5 x5.length [.flat, .flat, .flat, .flat, (.sl 2 1 [.flat])] (x5.map eOp)), (36, .arr 2 1 x6.length (x6.map (eI .i64)))]⟩ ?_
  refine SRun.nil ?_
  refine nx_n ?_
  refine swp_seq ?_
  refine swp_reg ?_
  refine SRun.ck tbokGC 2 ⟨117, [(0, vl eOp aALog), (1, vl (eI .i64) aAVector), (6, .own 30), (7, vi x4.2), (8, .own 34), (9, .own 36), (38, .own 34), (39, .own 36)], [(30, .arr 2 1 x4.1.length (x4.1.map (eI .i64))), (34, .deep 61 5 x5.length [.flat, .flat, .flat, .flat, (.sl 2 1 [.flat])] (x5.map eOp)), (36, .arr 2 1 x6.length (x6.map (eI .i64)))]⟩ ?_
  obtain ⟨x7, hx7, h⟩ := bind_some h
  refine SRun.ls (x_lstep_call (f := 27) (caps := []) (xs := [.own 34, .own 36]) (ys := [vl eOp x5, vl (eI .i64) x6]) (res := ⟨[.own 2 1 x7.1.length (x7.1.map (eI .i64)), .v (vi x7.2)], [], false⟩) (x := .tup [.own 40, vi x7.2]) (y := some (.arr 2 1 x7.1.length (x7.1.map (eI .i64)))) rfl ents27 (impl_MissingFor_run x5 x6 _ hx7) rfl (by intro hc; cases hc)) ?_
  refine SRun.ck tbokGC 5 ⟨117, [(0, vl eOp aALog), (1, vl (eI .i64) aAVector), (6, .own 30), (7, vi x4.2), (8, .own 34), (9, .own 36), (10, .own 40), (11, vi x7.2)], [(30, .arr 2 1 x4.1.length (x4.1.map (eI .i64))), (34, .deep 61 5 x5.length [.flat, .flat, .flat, .flat, (.sl 2 1 [.flat])] (x5.map eOp)), (36, .arr 2 1 x6.length (x6.map (eI .i64))), (40, .arr 2 1 x7.1.length (x7.1.map (eI .i64)))]⟩ ?_
  refine SRun.nil ?_
  refine nx_n ?_
  refine swp_seq ?_
  refine swp_seq ?_
  refine swp_regJ h (fun j9 => ⟨117, [(0, vl eOp aALog), (1, vl (eI .i64) aAVector), (6, .own 6), (7, vi x4.2), (8, .own 8), (9, .own 9), (10, .own 10), (11, vi x7.2), (51, vb j9)], [(6, .arr 2 1 x4.1.length (x4.1.map (eI .i64))), (8, .deep 61 5 x5.length [.flat, .flat, .flat, .flat, (.sl 2 1 [.flat])] (x5.map eOp)), (9, .arr 2 1 x6.length (x6.map (eI .i64))), (10, .arr 2 1 x7.1.length (x7.1.map (eI .i64)))]⟩) (fun v10 h => ?_) (fun j9 h => ?_)
  refine SRun.ck tbokGC 2 ⟨117, [(0, vl eOp aALog), (1, vl (eI .i64) aAVector), (6, .own 30), (7, vi x4.2), (8, .own 34), (9, .own 36), (10, .own 40), (11, vi x7.2), (43, .own 40), (44, .own 30)], [(30, .arr 2 1 x4.1.length (x4.1.map (eI .i64))), (34, .deep 61 5 x5.length [.flat, .flat, .flat, .flat, (.sl 2 1 [.flat])] (x5.map eOp)), (36, .arr 2 1 x6.length (x6.map (eI .i64))), (40, .arr 2 1 x7.1.length (x7.1.map (eI .i64)))]⟩ ?_
  obtain ⟨x8, hx8, h⟩ := bind_some h
  refine SRun.ls (x_lstep_call (f := 21) (caps := []) (xs := [.own 40, .own 30]) (ys := [vl (eI .i64) x7.1, vl (eI .i64) x4.1]) (res := ⟨[.v (vb x8)], [], false⟩) (x := vb x8) (y := none) rfl ents21 (laws_eqInt64S_run x7.1 x4.1 _ hx8) rfl (by intro hc; cases hc)) ?_
  refine SRun.ck tbokGC 2 ⟨117, [(0, vl eOp aALog), (1, vl (eI .i64) aAVector), (6, .own 30), (7, vi x4.2), (8, .own 34), (9, .own 36), (10, .own 40), (11, vi x7.2), (47, vb (!x8))], [(30, .arr 2 1 x4.1.length (x4.1.map (eI .i64))), (34, .deep 61 5 x5.length [.flat, .flat, .flat, .flat, (.sl 2 1 [.flat])] (x5.map eOp)), (36, .arr 2 1 x6.length (x6.map (eI .i64))), (40, .arr 2 1 x7.1.length (x7.1.map (eI .i64)))]⟩ ?_
  refine SRun.cut [(47, fun b => b)] (b := (!x8)) (by kernel_rfl) (fun hb => ?_) (fun hb => ?_)
  replace h := cond_t hb h
  refine SRun.ck tbokGC 4 ⟨117, [(0, vl eOp aALog), (1, vl (eI .i64) aAVector), (6, .own 30), (7, vi x4.2), (8, .own 34), (9, .own 36), (10, .own 40), (11, vi x7.2), (51, vb true)], [(30, .arr 2 1 x4.1.length (x4.1.map (eI .i64))), (34, .deep 61 5 x5.length [.flat, .flat, .flat, .flat, (.sl 2 1 [.flat])] (x5.map eOp)), (36, .arr 2 1 x6.length (x6.map (eI .i64))), (40, .arr 2 1 x7.1.length (x7.1.map (eI .i64)))]⟩ ?_
  refine SRun.nil ?_
  replace h := Option.some.inj h
  subst h
  exact (Le.sub' ([(0, vl eOp aALog), (1, vl (eI .i64) aAVector), (6, .own 30), (7, vi x4.2), (8, .own 34), (9, .own 36), (10, .own 40), (11, vi x7.2), (51, vb true)] : List (Nat × SV)) ([(30, .arr 2 1 x4.1.length (x4.1.map (eI .i64))), (34, .deep 61 5 x5.length [.flat, .flat, .flat, .flat, (.sl 2 1 [.flat])] (x5.map eOp)), (36, .arr 2 1 x6.length (x6.map (eI .i64))), (40, .arr 2 1 x7.1.length (x7.1.map (eI .i64)))] : List (Nat × SO)) (by kernel_rfl) (by kernel_rfl)).trans ((Le.ren' (d := 30) (e := 6) (by kernel_rfl) (by kernel_rfl) (by kernel_rfl)).trans ((Le.ren' (d := 34) (e := 8) (by kernel_rfl) (by kernel_rfl) (by kernel_rfl)).trans ((Le.ren' (d := 36) (e := 9) (by kernel_rfl) (by kernel_rfl) (by kernel_rfl)).trans ((Le.ren' (d := 40) (e := 10) (by kernel_rfl) (by kernel_rfl) (by kernel_rfl)).trans (Le.sub0)))))
  replace h := cond_f hb h
  refine SRun.ck tbokGC 4 ⟨117, [(0, vl eOp aALog), (1, vl (eI .i64) aAVector), (6, .own 30), (7, vi x4.2), (8, .own 34), (9, .own 36), (10, .own 40), (11, vi x7.2), (51, vb (x7.2 != x4.2))], [(30, .arr 2 1 x4.1.length (x4.1.map (eI .i64))), (34, .deep 61 5 x5.length [.flat, .flat, .flat, .flat, (.sl 2 1 [.flat])] (x5.map eOp)), (36, .arr 2 1 x6.length (x6.map (eI .i64))), (40, .arr 2 1 x7.1.length (x7.1.map (eI .i64)))]⟩ ?_
  refine SRun.nil ?_
  replace h := Option.some.inj h
  subst h
  exact (Le.sub' ([(0, vl eOp aALog), (1, vl (eI .i64) aAVector), (6, .own 30), (7, vi x4.2), (8, .own 34), (9, .own 36), (10, .own 40), (11, vi x7.2), (51, vb (x7.2 != x4.2))] : List (Nat × SV)) ([(30, .arr 2 1 x4.1.length (x4.1.map (eI .i64))), (34, .deep 61 5 x5.length [.flat, .flat, .flat, .flat, (.sl 2 1 [.flat])] (x5.map eOp)), (36, .arr 2 1 x6.length (x6.map (eI .i64))), (40, .arr 2 1 x7.1.length (x7.1.map (eI .i64)))] : List (Nat × SO)) (by kernel_rfl) (by kernel_rfl)).trans ((Le.ren' (d := 30) (e := 6) (by kernel_rfl) (by kernel_rfl) (by kernel_rfl)).trans ((Le.ren' (d := 34) (e := 8) (by kernel_rfl) (by kernel_rfl) (by kernel_rfl)).trans ((Le.ren' (d := 36) (e := 9) (by kernel_rfl) (by kernel_rfl) (by kernel_rfl)).trans ((Le.ren' (d := 40) (e := 10) (by kernel_rfl) (by kernel_rfl) (by kernel_rfl)).trans (Le.sub0)))))
  refine swp_cond (b := j9) (by kernel_rfl) (fun hb => ?_) (fun hb => ?_)
  replace h := cond_t hb h
  refine swp_seq ?_
  refine swp_reg ?_
  refine SRun.ck tbokGC 1 ⟨117, [(4, vb false)], []⟩ ?_
  refine SRun.nil ?_
  refine nx_n ?_
  refine swp_ret ?_
  replace h := Option.some.inj h
  subst h
  exact nx_r (q_fr (fin1 (by kernel_rfl) (finV rfl SV.flat_of (holds_t (by kernel_rfl)))))
  replace h := cond_f hb h
  refine swp_skip ?_
  refine nx_n ?_
  refine swp_seq ?_
  refine swp_seq ?_
  refine swp_reg ?_
  refine SRun.ck tbokGC 2 ⟨117, [(0, vl eOp aALog), (1, vl (eI .i64) aAVector), (6, .own 6), (7, vi x4.2), (8, .own 8), (9, .own 9), (10, .own 10), (11, vi x7.2), (52, .own 8), (53, vl eOp aALog)], [(6, .arr 2 1 x4.1.length (x4.1.map (eI .i64))), (8, .deep 61 5 x5.length [.flat, .flat, .flat, .flat, (.sl 2 1 [.flat])] (x5.map eOp)), (9, .arr 2 1 x6.length (x6.map (eI .i64))), (10, .arr 2 1 x7.1.length (x7.1.map (eI .i64)))]⟩ ?_
  obtain ⟨x11, hx11, h⟩ := bind_some h
  refine SRun.ls (x_lstep_call (f := 14) (caps := []) (xs := [vl eOp aALog]) (ys := [vl eOp aALog]) (res := ⟨[.deep 61 5 x11.length [.flat, .flat, .flat, .flat, (.sl 2 1 [.flat])] (x11.map eOp)], [], false⟩) (x := .own 54) (y := some (.deep 61 5 x11.length [.flat, .flat, .flat, .flat, (.sl 2 1 [.flat])] (x11.map eOp))) rfl ents14 (laws_toOpS_run aALog _ hx11) rfl (by intro hc; cases hc)) ?_
  obtain ⟨x12, hx12, h⟩ := bind_some h
  refine SRun.ls (x_lstep_call (f := 16) (caps := []) (xs := [.own 8, .own 54]) (ys := [vl eOp x5, vl eOp x11]) (res := ⟨[.v (vb x12)], [], false⟩) (x := vb x12) (y := none) rfl ents16 (laws_eqOpS_run x5 x11 _ hx12) rfl (by intro hc; cases hc)) ?_
  refine SRun.ck tbokGC 1 ⟨117, [(0, vl eOp aALog), (1, vl (eI .i64) aAVector), (6, .own 6), (7, vi x4.2), (8, .own 8), (9, .own 9), (10, .own 10), (11, vi x7.2), (56, vb (!x12))], [(6, .arr 2 1 x4.1.length (x4.1.map (eI .i64))), (8, .deep 61 5 x5.length [.flat, .flat, .flat, .flat, (.sl 2 1 [.flat])] (x5.map eOp)), (9, .arr 2 1 x6.length (x6.map (eI .i64))), (10, .arr 2 1 x7.1.length (x7.1.map (eI .i64)))]⟩ ?_
  refine SRun.nil ?_
  refine nx_n ?_
  refine swp_cond (b := (!x12)) (by kernel_rfl) (fun hb => ?_) (fun hb => ?_)
  replace h := cond_t hb h
  refine swp_seq ?_
  refine swp_reg ?_
  refine SRun.ck tbokGC 1 ⟨117, [(4, vb false)], []⟩ ?_
  refine SRun.nil ?_
  refine nx_n ?_
  refine swp_ret ?_
  replace h := Option.some.inj h
  subst h
  exact nx_r (q_fr (fin1 (by kernel_rfl) (finV rfl SV.flat_of (holds_t (by kernel_rfl)))))
  replace h := cond_f hb h
  refine swp_skip ?_
  refine nx_n ?_
  refine swp_seq ?_
  refine swp_seq ?_
  refine swp_reg ?_
  refine SRun.ck tbokGC 2 ⟨117, [(0, vl eOp aALog), (1, vl (eI .i64) aAVector), (6, .own 6), (7, vi x4.2), (8, .own 8), (9, .own 9), (10, .own 10), (11, vi x7.2), (57, .own 9), (58, vl (eI .i64) aAVector)], [(6, .arr 2 1 x4.1.length (x4.1.map (eI .i64))), (8, .deep 61 5 x5.length [.flat, .flat, .flat, .flat, (.sl 2 1 [.flat])] (x5.map eOp)), (9, .arr 2 1 x6.length (x6.map (eI .i64))), (10, .arr 2 1 x7.1.length (x7.1.map (eI .i64)))]⟩ ?_
  obtain ⟨x13, hx13, h⟩ := bind_some h
  refine SRun.ls (x_lstep_call (f := 26) (caps := []) (xs := [vl (eI .i64) aAVector]) (ys := [vl (eI .i64) aAVector]) (res := ⟨[.own 2 1 x13.length (x13.map (eI .i64))], [], false⟩) (x := .own 59) (y := some (.arr 2 1 x13.length (x13.map (eI .i64)))) rfl ents26 (laws_toInt64S_run aAVector _ hx13) rfl (by intro hc; cases hc)) ?_
  obtain ⟨x14, hx14, h⟩ := bind_some h
  refine SRun.ls (x_lstep_call (f := 21) (caps := []) (xs := [.own 9, .own 59]) (ys := [vl (eI .i64) x6, vl (eI .i64) x13]) (res := ⟨[.v (vb x14)], [], false⟩) (x := vb x14) (y := none) rfl ents21 (laws_eqInt64S_run x6 x13 _ hx14) rfl (by intro hc; cases hc)) ?_
  refine SRun.ck tbokGC 1 ⟨117, [(0, vl eOp aALog), (1, vl (eI .i64) aAVector), (6, .own 6), (7, vi x4.2), (8, .own 8), (9, .own 9), (10, .own 10), (11, vi x7.2), (61, vb (!x14))], [(6, .arr 2 1 x4.1.length (x4.1.map (eI .i64))), (8, .deep 61 5 x5.length [.flat, .flat, .flat, .flat, (.sl 2 1 [.flat])] (x5.map eOp)), (9, .arr 2 1 x6.length (x6.map (eI .i64))), (10, .arr 2 1 x7.1.length (x7.1.map (eI .i64)))]⟩ ?_
  refine SRun.nil ?_
  refine nx_n ?_
  refine swp_cond (b := (!x14)) (by kernel_rfl) (fun hb => ?_) (fun hb => ?_)
  replace h := cond_t hb h
  refine swp_seq ?_
  refine swp_reg ?_
  refine SRun.ck tbokGC 1 ⟨117, [(4, vb false)], []⟩ ?_
  refine SRun.nil ?_
  refine nx_n ?_
  refine swp_ret ?_
  replace h := Option.some.inj h
  subst h
  exact nx_r (q_fr (fin1 (by kernel_rfl) (finV rfl SV.flat_of (holds_t (by kernel_rfl)))))
  replace h := cond_f hb h
  refine swp_skip ?_
  refine nx_n ?_
  refine swp_seq ?_
  refine swp_reg ?_
  refine SRun.ck tbokGC 1 ⟨117, [(0, vl eOp aALog), (1, vl (eI .i64) aAVector), (6, .own 6), (7, vi x4.2), (8, .own 8), (9, .own 9), (10, .own 10), (11, vi x7.2), (12, vi 1)], [(6, .arr 2 1 x4.1.length (x4.1.map (eI .i64))), (8, .deep 61 5 x5.length [.flat, .flat, .flat, .flat, (.sl 2 1 [.flat])] (x5.map eOp)), (9, .arr 2 1 x6.length (x6.map (eI .i64))), (10, .arr 2 1 x7.1.length (x7.1.map (eI .i64)))]⟩ ?_
  refine SRun.nil ?_
  refine nx_n ?_
  refine swp_seq ?_
  refine swp_reg ?_
  refine SRun.ck tbokGC 2 ⟨117, [(0, vl eOp aALog), (1, vl (eI .i64) aAVector), (6, .own 6), (7, vi x4.2), (9, .own 9), (10, .own 10), (11, vi x7.2), (62, .own 8), (63, vi 1)], [(6, .arr 2 1 x4.1.length (x4.1.map (eI .i64))), (8, .deep 61 5 x5.length [.flat, .flat, .flat, .flat, (.sl 2 1 [.flat])] (x5.map eOp)), (9, .arr 2 1 x6.length (x6.map (eI .i64))), (10, .arr 2 1 x7.1.length (x7.1.map (eI .i64)))]⟩ ?_
  obtain ⟨x15, hx15, h⟩ := bind_some h
  refine SRun.estep (x_estep_call (f := 22) (caps := []) (xs := [.own 8, vi 1]) (pre := []) (post := [vi 1]) (qs := [vi 1]) (z := .own 8) (d := 8) (pl := 0) (y := .deep 61 5 x5.length [.flat, .flat, .flat, .flat, (.sl 2 1 [.flat])] (x5.map eOp)) (y' := .deep 61 5 x15.2.length [.flat, .flat, .flat, .flat, (.sl 2 1 [.flat])] (x15.2.map eOp)) (res := ⟨[.v (vi x15.1)], [(0, .deep 61 5 x15.2.length [.flat, .flat, .flat, .flat, (.sl 2 1 [.flat])] (x15.2.map eOp))], false⟩) (x := vi x15.1) (yo := none) rfl rfl rfl rfl rfl ents22 (laws_markOpS_run x5 1 _ hx15) rfl rfl false (fun _ => rfl) (by intro hc; cases hc)) ?_
  refine SRun.ck tbokGC 1 ⟨117, [(0, vl eOp aALog), (1, vl (eI .i64) aAVector), (6, .own 6), (7, vi x4.2), (9, .own 9), (10, .own 10), (11, vi x7.2), (12, vi x15.1)], [(6, .arr 2 1 x4.1.length (x4.1.map (eI .i64))), (9, .arr 2 1 x6.length (x6.map (eI .i64))), (10, .arr 2 1 x7.1.length (x7.1.map (eI .i64)))]⟩ ?_
  refine SRun.nil ?_
  refine nx_n ?_
  refine swp_seq ?_
  refine swp_reg ?_
  refine SRun.ck tbokGC 2 ⟨117, [(0, vl eOp aALog), (1, vl (eI .i64) aAVector), (6, .own 6), (7, vi x4.2), (10, .own 10), (11, vi x7.2), (65, .own 9), (66, vi x15.1)], [(6, .arr 2 1 x4.1.length (x4.1.map (eI .i64))), (9, .arr 2 1 x6.length (x6.map (eI .i64))), (10, .arr 2 1 x7.1.length (x7.1.map (eI .i64)))]⟩ ?_
  obtain ⟨x16, hx16, h⟩ := bind_some h
  refine SRun.estep (x_estep_call (f := 23) (caps := []) (xs := [.own 9, vi x15.1]) (pre := []) (post := [vi x15.1]) (qs := [vi x15.1]) (z := .own 9) (d := 9) (pl := 0) (y := .arr 2 1 x6.length (x6.map (eI .i64))) (y' := .arr 2 1 x16.2.length (x16.2.map (eI .i64))) (res := ⟨[.v (vi x16.1)], [(0, .arr 2 1 x16.2.length (x16.2.map (eI .i64)))], false⟩) (x := vi x16.1) (yo := none) rfl rfl rfl rfl rfl ents23 (laws_markInt64S_run x6 x15.1 _ hx16) rfl rfl false (fun _ => rfl) (by intro hc; cases hc)) ?_
  refine SRun.ck tbokGC 1 ⟨117, [(0, vl eOp aALog), (1, vl (eI .i64) aAVector), (6, .own 6), (7, vi x4.2), (10, .own 10), (11, vi x7.2), (12, vi x16.1)], [(6, .arr 2 1 x4.1.length (x4.1.map (eI .i64))), (10, .arr 2 1 x7.1.length (x7.1.map (eI .i64)))]⟩ ?_
  refine SRun.nil ?_
  refine nx_n ?_
  refine swp_seq ?_
  refine swp_seq ?_
  refine swp_regJ h (fun j18 => ⟨117, [(0, vl eOp aALog), (1, vl (eI .i64) aAVector), (6, .own 6), (7, vi x4.2), (10, .own 10), (80, vb j18)], [(6, .arr 2 1 x4.1.length (x4.1.map (eI .i64))), (10, .arr 2 1 x7.1.length (x7.1.map (eI .i64)))]⟩) (fun v19 h => ?_) (fun j18 h => ?_)
  refine SRun.ck tbokGC 3 ⟨117, [(0, vl eOp aALog), (1, vl (eI .i64) aAVector), (6, .own 6), (7, vi x4.2), (10, .own 10), (11, vi x7.2), (70, vb (decide (x16.1 < 0)))], [(6, .arr 2 1 x4.1.length (x4.1.map (eI .i64))), (10, .arr 2 1 x7.1.length (x7.1.map (eI .i64)))]⟩ ?_
  refine SRun.cut [(70, fun b => b)] (b := (decide (x16.1 < 0))) (by kernel_rfl) (fun hb => ?_) (fun hb => ?_)
  replace h := cond_t hb h
  refine SRun.ck tbokGC 10 ⟨117, [(0, vl eOp aALog), (1, vl (eI .i64) aAVector), (6, .own 6), (7, vi x4.2), (10, .own 10), (80, vb true)], [(6, .arr 2 1 x4.1.length (x4.1.map (eI .i64))), (10, .arr 2 1 x7.1.length (x7.1.map (eI .i64)))]⟩ ?_
  refine SRun.nil ?_
  replace h := Option.some.inj h
  subst h
  exact Le.sub0
  replace h := cond_f hb h
  refine SRun.ck tbokGC 2 ⟨117, [(0, vl eOp aALog), (1, vl (eI .i64) aAVector), (6, .own 6), (7, vi x4.2), (10, .own 10), (11, vi x7.2), (70, vb false), (71, .own 10), (72, .own 6)], [(6, .arr 2 1 x4.1.length (x4.1.map (eI .i64))), (10, .arr 2 1 x7.1.length (x7.1.map (eI .i64)))]⟩ ?_
  obtain ⟨x17, hx17, h⟩ := bind_some h
  refine SRun.ls (x_lstep_call (f := 21) (caps := []) (xs := [.own 10, .own 6]) (ys := [vl (eI .i64) x7.1, vl (eI .i64) x4.1]) (res := ⟨[.v (vb x17)], [], false⟩) (x := vb x17) (y := none) rfl ents21 (laws_eqInt64S_run x7.1 x4.1 _ hx17) rfl (by intro hc; cases hc)) ?_
  refine SRun.ck tbokGC 3 ⟨117, [(0, vl eOp aALog), (1, vl (eI .i64) aAVector), (6, .own 6), (7, vi x4.2), (10, .own 10), (11, vi x7.2), (76, vb (!x17))], [(6, .arr 2 1 x4.1.length (x4.1.map (eI .i64))), (10, .arr 2 1 x7.1.length (x7.1.map (eI .i64)))]⟩ ?_
  refine SRun.cut [(76, fun b => b)] (b := (!x17)) (by kernel_rfl) (fun hb => ?_) (fun hb => ?_)
  replace h := cond_t hb h
  refine SRun.ck tbokGC 4 ⟨117, [(0, vl eOp aALog), (1, vl (eI .i64) aAVector), (6, .own 6), (7, vi x4.2), (10, .own 10), (80, vb true)], [(6, .arr 2 1 x4.1.length (x4.1.map (eI .i64))), (10, .arr 2 1 x7.1.length (x7.1.map (eI .i64)))]⟩ ?_
  refine SRun.nil ?_
  replace h := Option.some.inj h
  subst h
  exact Le.sub0
  replace h := cond_f hb h
  refine SRun.ck tbokGC 4 ⟨117, [(0, vl eOp aALog), (1, vl (eI .i64) aAVector), (6, .own 6), (7, vi x4.2), (10, .own 10), (80, vb (x7.2 != x4.2))], [(6, .arr 2 1 x4.1.length (x4.1.map (eI .i64))), (10, .arr 2 1 x7.1.length (x7.1.map (eI .i64)))]⟩ ?_
  refine SRun.nil ?_
  replace h := Option.some.inj h
  subst h
  exact Le.sub0
  refine swp_cond (b := j18) (by kernel_rfl) (fun hb => ?_) (fun hb => ?_)
  replace h := cond_t hb h
  refine swp_seq ?_
  refine swp_reg ?_
  refine SRun.ck tbokGC 1 ⟨117, [(4, vb false)], []⟩ ?_
  refine SRun.nil ?_
  refine nx_n ?_
  refine swp_ret ?_
  replace h := Option.some.inj h
  subst h
  exact nx_r (q_fr (fin1 (by kernel_rfl) (finV rfl SV.flat_of (holds_t (by kernel_rfl)))))
  replace h := cond_f hb h
  refine swp_skip ?_
  refine nx_n ?_
  refine swp_seq ?_
  refine swp_reg ?_
  refine SRun.ck tbokGC 1 ⟨117, [(0, vl eOp aALog), (1, vl (eI .i64) aAVector), (6, .own 6), (7, vi x4.2), (10, .own 10), (13, vi 1)], [(6, .arr 2 1 x4.1.length (x4.1.map (eI .i64))), (10, .arr 2 1 x7.1.length (x7.1.map (eI .i64)))]⟩ ?_
  refine SRun.nil ?_
  refine nx_n ?_
  refine swp_seq ?_
  refine swp_reg ?_
  refine SRun.ck tbokGC 2 ⟨117, [(0, vl eOp aALog), (1, vl (eI .i64) aAVector), (6, .own 6), (7, vi x4.2), (10, .own 10), (81, .own 10), (82, vi 1)], [(6, .arr 2 1 x4.1.length (x4.1.map (eI .i64))), (10, .arr 2 1 x7.1.length (x7.1.map (eI .i64)))]⟩ ?_
  obtain ⟨x20, hx20, h⟩ := bind_some h
  refine SRun.estep (x_estep_call (f := 23) (caps := []) (xs := [.own 10, vi 1]) (pre := []) (post := [vi 1]) (qs := [vi 1]) (z := .own 10) (d := 10) (pl := 0) (y := .arr 2 1 x7.1.length (x7.1.map (eI .i64))) (y' := .arr 2 1 x20.2.length (x20.2.map (eI .i64))) (res := ⟨[.v (vi x20.1)], [(0, .arr 2 1 x20.2.length (x20.2.map (eI .i64)))], false⟩) (x := vi x20.1) (yo := none) rfl rfl rfl rfl rfl ents23 (laws_markInt64S_run x7.1 1 _ hx20) rfl rfl false (fun _ => rfl) (by intro hc; cases hc)) ?_
  refine SRun.ck tbokGC 1 ⟨117, [(0, vl eOp aALog), (1, vl (eI .i64) aAVector), (6, .own 6), (7, vi x4.2), (10, .own 10), (13, vi x20.1)], [(6, .arr 2 1 x4.1.length (x4.1.map (eI .i64))), (10, .arr 2 1 x20.2.length (x20.2.map (eI .i64)))]⟩ ?_
  refine SRun.nil ?_
  refine nx_n ?_
  refine swp_seq ?_
  refine swp_reg ?_
  refine SRun.ck tbokGC 1 ⟨117, [(0, vl eOp aALog), (1, vl (eI .i64) aAVector), (6, .own 6), (7, vi x4.2), (10, .own 10), (13, vi x20.1), (14, vi 1)], [(6, .arr 2 1 x4.1.length (x4.1.map (eI .i64))), (10, .arr 2 1 x20.2.length (x20.2.map (eI .i64)))]⟩ ?_
  refine SRun.nil ?_
  refine nx_n ?_
  refine swp_seq ?_
  refine swp_reg ?_
  refine SRun.ck tbokGC 2 ⟨117, [(0, vl eOp aALog), (1, vl (eI .i64) aAVector), (6, .own 6), (7, vi x4.2), (10, .own 10), (13, vi x20.1), (84, .own 10), (85, vi 1)], [(6, .arr 2 1 x4.1.length (x4.1.map (eI .i64))), (10, .arr 2 1 x20.2.length (x20.2.map (eI .i64)))]⟩ ?_
  obtain ⟨x21, hx21, h⟩ := bind_some h
  refine SRun.ls (x_lstep_call (f := 24) (caps := []) (xs := [.own 10, vi 1]) (ys := [vl (eI .i64) x20.2, vi 1]) (res := ⟨[.v (vi x21)], [], false⟩) (x := vi x21) (y := none) rfl ents24 (laws_heldInt64S_run x20.2 1 _ hx21) rfl (by intro hc; cases hc)) ?_
  refine SRun.ck tbokGC 1 ⟨117, [(0, vl eOp aALog), (1, vl (eI .i64) aAVector), (6, .own 6), (7, vi x4.2), (10, .own 10), (13, vi x20.1), (14, vi x21)], [(6, .arr 2 1 x4.1.length (x4.1.map (eI .i64))), (10, .arr 2 1 x20.2.length (x20.2.map (eI .i64)))]⟩ ?_
  refine SRun.nil ?_
  refine nx_n ?_
  refine swp_seq ?_
  refine swp_seq ?_
  refine swp_reg ?_
  refine SRun.ck tbokGC 2 ⟨117, [(0, vl eOp aALog), (1, vl (eI .i64) aAVector), (6, .own 6), (7, vi x4.2), (10, .own 10), (13, vi x20.1), (14, vi x21), (88, vb (decide (x21 < 0)))], [(6, .arr 2 1 x4.1.length (x4.1.map (eI .i64))), (10, .arr 2 1 x20.2.length (x20.2.map (eI .i64)))]⟩ ?_
  refine SRun.nil ?_
  refine nx_n ?_
  refine swp_cond (b := (decide (x21 < 0))) (by kernel_rfl) (fun hb => ?_) (fun hb => ?_)
  replace h := cond_t hb h
  refine swp_seq ?_
  refine swp_reg ?_
  refine SRun.ck tbokGC 1 ⟨117, [(4, vb false)], []⟩ ?_
  refine SRun.nil ?_
  refine nx_n ?_
  refine swp_ret ?_
  replace h := Option.some.inj h
  subst h
  exact nx_r (q_fr (fin1 (by kernel_rfl) (finV rfl SV.flat_of (holds_t (by kernel_rfl)))))
  replace h := cond_f hb h
  refine swp_skip ?_
  refine nx_n ?_
  refine swp_seq ?_
  refine swp_seq ?_
  refine swp_reg ?_
  refine SRun.ck tbokGC 3 ⟨117, [(0, vl eOp aALog), (1, vl (eI .i64) aAVector), (6, .own 6), (7, vi x4.2), (10, .own 10), (13, vi x20.1), (91, vb (x21 != x20.1))], [(6, .arr 2 1 x4.1.length (x4.1.map (eI .i64))), (10, .arr 2 1 x20.2.length (x20.2.map (eI .i64)))]⟩ ?_
  refine SRun.nil ?_
  refine nx_n ?_
  refine swp_cond (b := (x21 != x20.1)) (by kernel_rfl) (fun hb => ?_) (fun hb => ?_)
  replace h := cond_t hb h
  refine swp_seq ?_
  refine swp_reg ?_
  refine SRun.ck tbokGC 1 ⟨117, [(4, vb false)], []⟩ ?_
  refine SRun.nil ?_
  refine nx_n ?_
  refine swp_ret ?_
  replace h := Option.some.inj h
  subst h
  exact nx_r (q_fr (fin1 (by kernel_rfl) (finV rfl SV.flat_of (holds_t (by kernel_rfl)))))
  replace h := cond_f hb h
  refine swp_skip ?_
  refine nx_n ?_
  refine swp_seq ?_
  refine swp_reg ?_
  refine SRun.ck tbokGC 1 ⟨117, [(1, vl (eI .i64) aAVector), (6, .own 6), (7, vi x4.2), (10, .own 10), (13, vi x20.1), (93, vl eOp aALog)], [(6, .arr 2 1 x4.1.length (x4.1.map (eI .i64))), (10, .arr 2 1 x20.2.length (x20.2.map (eI .i64)))]⟩ ?_
  obtain ⟨x22, hx22, h⟩ := bind_some h
  refine SRun.ls (x_lstep_call (f := 14) (caps := []) (xs := [vl eOp aALog]) (ys := [vl eOp aALog]) (res := ⟨[.deep 61 5 x22.length [.flat, .flat, .flat, .flat, (.sl 2 1 [.flat])] (x22.map eOp)], [], false⟩) (x := .own 94) (y := some (.deep 61 5 x22.length [.flat, .flat, .flat, .flat, (.sl 2 1 [.flat])] (x22.map eOp))) rfl ents14 (laws_toOpS_run aALog _ hx22) rfl (by intro hc; cases hc)) ?_
  refine SRun.ck tbokGC 1 ⟨117, [(6, .own 6), (7, vi x4.2), (10, .own 10), (13, vi x20.1), (94, .own 94), (95, vl (eI .i64) aAVector)], [(6, .arr 2 1 x4.1.length (x4.1.map (eI .i64))), (10, .arr 2 1 x20.2.length (x20.2.map (eI .i64))), (94, .deep 61 5 x22.length [.flat, .flat, .flat, .flat, (.sl 2 1 [.flat])] (x22.map eOp))]⟩ ?_
  obtain ⟨x23, hx23, h⟩ := bind_some h
  refine SRun.ls (x_lstep_call (f := 26) (caps := []) (xs := [vl (eI .i64) aAVector]) (ys := [vl (eI .i64) aAVector]) (res := ⟨[.own 2 1 x23.length (x23.map (eI .i64))], [], false⟩) (x := .own 96) (y := some (.arr 2 1 x23.length (x23.map (eI .i64)))) rfl ents26 (laws_toInt64S_run aAVector _ hx23) rfl (by intro hc; cases hc)) ?_
  obtain ⟨x24, hx24, h⟩ := bind_some h
  refine SRun.ls (x_lstep_call (f := 27) (caps := []) (xs := [.own 94, .own 96]) (ys := [vl eOp x22, vl (eI .i64) x23]) (res := ⟨[.own 2 1 x24.1.length (x24.1.map (eI .i64)), .v (vi x24.2)], [], false⟩) (x := .tup [.own 97, vi x24.2]) (y := some (.arr 2 1 x24.1.length (x24.1.map (eI .i64)))) rfl ents27 (impl_MissingFor_run x22 x23 _ hx24) rfl (by intro hc; cases hc)) ?_
  refine SRun.ck tbokGC 5 ⟨117, [(6, .own 6), (7, vi x4.2), (10, .own 10), (13, vi x20.1), (15, .own 97), (16, vi x24.2)], [(6, .arr 2 1 x4.1.length (x4.1.map (eI .i64))), (10, .arr 2 1 x20.2.length (x20.2.map (eI .i64))), (97, .arr 2 1 x24.1.length (x24.1.map (eI .i64)))]⟩ ?_
  refine SRun.nil ?_
  refine nx_n ?_
  refine swp_seq ?_
  refine swp_seq ?_
  refine swp_regJ h (fun j26 => ⟨117, [(10, .own 10), (13, vi x20.1), (108, vb j26)], [(10, .arr 2 1 x20.2.length (x20.2.map (eI .i64)))]⟩) (fun v27 h => ?_) (fun j26 h => ?_)
  refine SRun.ck tbokGC 2 ⟨117, [(7, vi x4.2), (10, .own 10), (13, vi x20.1), (16, vi x24.2), (100, .own 97), (101, .own 6)], [(6, .arr 2 1 x4.1.length (x4.1.map (eI .i64))), (10, .arr 2 1 x20.2.length (x20.2.map (eI .i64))), (97, .arr 2 1 x24.1.length (x24.1.map (eI .i64)))]⟩ ?_
  obtain ⟨x25, hx25, h⟩ := bind_some h
  refine SRun.ls (x_lstep_call (f := 21) (caps := []) (xs := [.own 97, .own 6]) (ys := [vl (eI .i64) x24.1, vl (eI .i64) x4.1]) (res := ⟨[.v (vb x25)], [], false⟩) (x := vb x25) (y := none) rfl ents21 (laws_eqInt64S_run x24.1 x4.1 _ hx25) rfl (by intro hc; cases hc)) ?_
  refine SRun.ck tbokGC 2 ⟨117, [(7, vi x4.2), (10, .own 10), (13, vi x20.1), (16, vi x24.2), (104, vb (!x25))], [(10, .arr 2 1 x20.2.length (x20.2.map (eI .i64)))]⟩ ?_
  refine SRun.cut [(104, fun b => b)] (b := (!x25)) (by kernel_rfl) (fun hb => ?_) (fun hb => ?_)
  replace h := cond_t hb h
  refine SRun.ck tbokGC 4 ⟨117, [(10, .own 10), (13, vi x20.1), (108, vb true)], [(10, .arr 2 1 x20.2.length (x20.2.map (eI .i64)))]⟩ ?_
  refine SRun.nil ?_
  replace h := Option.some.inj h
  subst h
  exact Le.sub0
  replace h := cond_f hb h
  refine SRun.ck tbokGC 4 ⟨117, [(10, .own 10), (13, vi x20.1), (108, vb (x24.2 != x4.2))], [(10, .arr 2 1 x20.2.length (x20.2.map (eI .i64)))]⟩ ?_
  refine SRun.nil ?_
  replace h := Option.some.inj h
  subst h
  exact Le.sub0
  refine swp_cond (b := j26) (by kernel_rfl) (fun hb => ?_) (fun hb => ?_)
  replace h := cond_t hb h
  refine swp_seq ?_
  refine swp_reg ?_
  refine SRun.ck tbokGC 1 ⟨117, [(4, vb false)], []⟩ ?_
  refine SRun.nil ?_
  refine nx_n ?_
  refine swp_ret ?_
  replace h := Option.some.inj h
  subst h
  exact nx_r (q_fr (fin1 (by kernel_rfl) (finV rfl SV.flat_of (holds_t (by kernel_rfl)))))
  replace h := cond_f hb h
  refine swp_skip ?_
  refine nx_n ?_
  refine swp_seq ?_
  refine swp_reg ?_
  refine SRun.ck tbokGC 1 ⟨117, [(10, .own 10), (13, vi x20.1), (14, vi 1)], [(10, .arr 2 1 x20.2.length (x20.2.map (eI .i64)))]⟩ ?_
  refine SRun.nil ?_
  refine nx_n ?_
  refine swp_seq ?_
  refine swp_reg ?_
  refine SRun.ck tbokGC 2 ⟨117, [(13, vi x20.1), (109, .own 10), (110, vi 1)], [(10, .arr 2 1 x20.2.length (x20.2.map (eI .i64)))]⟩ ?_
  obtain ⟨x28, hx28, h⟩ := bind_some h
  refine SRun.ls (x_lstep_call (f := 24) (caps := []) (xs := [.own 10, vi 1]) (ys := [vl (eI .i64) x20.2, vi 1]) (res := ⟨[.v (vi x28)], [], false⟩) (x := vi x28) (y := none) rfl ents24 (laws_heldInt64S_run x20.2 1 _ hx28) rfl (by intro hc; cases hc)) ?_
  refine SRun.ck tbokGC 1 ⟨117, [(13, vi x20.1), (14, vi x28)], []⟩ ?_
  refine SRun.nil ?_
  refine nx_n ?_
  refine swp_seq ?_
  refine swp_seq ?_
  refine swp_reg ?_
  refine SRun.ck tbokGC 2 ⟨117, [(13, vi x20.1), (14, vi x28), (113, vb (decide (x28 < 0)))], []⟩ ?_
  refine SRun.nil ?_
  refine nx_n ?_
  refine swp_cond (b := (decide (x28 < 0))) (by kernel_rfl) (fun hb => ?_) (fun hb => ?_)
  replace h := cond_t hb h
  refine swp_seq ?_
  refine swp_reg ?_
  refine SRun.ck tbokGC 1 ⟨117, [(4, vb false)], []⟩ ?_
  refine SRun.nil ?_
  refine nx_n ?_
  refine swp_ret ?_
  replace h := Option.some.inj h
  subst h
  exact nx_r (q_fr (fin1 (by kernel_rfl) (finV rfl SV.flat_of (holds_t (by kernel_rfl)))))
  replace h := cond_f hb h
  refine swp_skip ?_
  refine nx_n ?_
  refine swp_seq ?_
  refine swp_seq ?_
  refine swp_reg ?_
  refine SRun.ck tbokGC 3 ⟨117, [(116, vb (x28 != x20.1))], []⟩ ?_
  refine SRun.nil ?_
  refine nx_n ?_
  refine swp_cond (b := (x28 != x20.1)) (by kernel_rfl) (fun hb => ?_) (fun hb => ?_)
  replace h := cond_t hb h
  refine swp_seq ?_
  refine swp_reg ?_
  refine SRun.ck tbokGC 1 ⟨117, [(4, vb false)], []⟩ ?_
  refine SRun.nil ?_
  refine nx_n ?_
  refine swp_ret ?_
  replace h := Option.some.inj h
  subst h
  exact nx_r (q_fr (fin1 (by kernel_rfl) (finV rfl SV.flat_of (holds_t (by kernel_rfl)))))
  replace h := cond_f hb h
  refine swp_skip ?_
  refine nx_n ?_
  refine swp_seq ?_
  refine swp_reg ?_
  refine SRun.ck tbokGC 1 ⟨117, [(4, vb true)], []⟩ ?_
  refine SRun.nil ?_
  refine nx_n ?_
  refine swp_ret ?_
  replace h := Option.some.inj h
  subst h
  exact q_fr (fin1 (by kernel_rfl) (finV rfl SV.flat_of (holds_t (by kernel_rfl))))
theorem ents6 : Ents Tryd.prog 6 := ents_of Tryd.func6 (by kernel_rfl) rfl
noncomputable def laws_FnExactRivalsOf (aALog : (List Op)) (aAKey : ByteArray) : Option (Bool) :=
  (bif (decide ((aAKey.size : Int) > 1048576)) then some true else ((laws_szOpS aALog 1048576).bind fun x1 => (bif (decide (x1 < 0)) then some true else ((laws_toOpS aALog).bind fun x2 => ((spec_RivalsOf x2 aAKey).bind fun x3 => ((laws_toOpS aALog).bind fun x4 => ((impl_RivalsOf x4 aAKey).bind fun x5 => ((((laws_eqInt64S x5.1 x3.1).bind fun x6 => (bif (!x6) then some true else some (x5.2 != x3.2)))).bind fun (j7 : Bool) => (bif j7 then some false else ((laws_toOpS aALog).bind fun x9 => ((laws_eqOpS x4 x9).bind fun x10 => (bif (!x10) then some false else ((laws_markOpS x4 1).bind fun x11 => (((bif (decide (x11.1 < 0)) then some true else ((laws_eqInt64S x5.1 x3.1).bind fun x12 => (bif (!x12) then some true else some (x5.2 != x3.2))))).bind fun (j13 : Bool) => (bif j13 then some false else ((laws_markInt64S x5.1 1).bind fun x15 => ((laws_heldInt64S x15.2 1).bind fun x16 => (bif (decide (x16 < 0)) then some false else (bif (x16 != x15.1) then some false else ((laws_toOpS aALog).bind fun x17 => ((impl_RivalsOf x17 aAKey).bind fun x18 => ((((laws_eqInt64S x18.1 x3.1).bind fun x19 => (bif (!x19) then some true else some (x18.2 != x3.2)))).bind fun (j20 : Bool) => (bif j20 then some false else ((laws_heldInt64S x15.2 1).bind fun x22 => (bif (decide (x22 < 0)) then some false else (bif (x22 != x15.1) then some false else some true))))))))))))))))))))))))))
set_option maxRecDepth 100000 in
set_option maxHeartbeats 4000000 in
theorem laws_FnExactRivalsOf_run (aALog : (List Op)) (aAKey : ByteArray) (r : Bool) (h : laws_FnExactRivalsOf aALog aAKey = some r) : SCall Tryd.prog 8 [.v (vl eOp aALog), .v (vs aAKey)] ⟨[.v (vb r)], [], false⟩ := by
  refine scall_in Tryd.func8 rfl [(.tmp 4)] rfl (fun r => ⟨[.v (vb r)], [], false⟩) (r := r) ?_
  unfold laws_FnExactRivalsOf at h
  refine swp_seq ?_
  refine swp_reg ?_
  refine SRun.ck tbokGC 1 ⟨104, [(0, vl eOp aALog), (1, vs aAKey)], []⟩ ?_
  refine SRun.nil ?_
  refine nx_n ?_
  refine swp_seq ?_
  refine swp_seq ?_
  refine swp_reg ?_
  refine SRun.ck tbokGC 3 ⟨104, [(0, vl eOp aALog), (1, vs aAKey), (18, vb (decide ((aAKey.size : Int) > 1048576)))], []⟩ ?_
  refine SRun.nil ?_
  refine nx_n ?_
  refine swp_cond (b := (decide ((aAKey.size : Int) > 1048576))) (by kernel_rfl) (fun hb => ?_) (fun hb => ?_)
  replace h := cond_t hb h
  refine swp_seq ?_
  refine swp_reg ?_
  refine SRun.ck tbokGC 1 ⟨104, [(4, vb true)], []⟩ ?_
  refine SRun.nil ?_
  refine nx_n ?_
  refine swp_ret ?_
  replace h := Option.some.inj h
  subst h
  exact nx_r (q_fr (fin1 (by kernel_rfl) (finV rfl SV.flat_of (holds_t (by kernel_rfl)))))
  replace h := cond_f hb h
  refine swp_skip ?_
  refine nx_n ?_
  refine swp_seq ?_
  refine swp_reg ?_
  refine SRun.ck tbokGC 1 ⟨104, [(0, vl eOp aALog), (1, vs aAKey), (5, vi 1048576)], []⟩ ?_
  refine SRun.nil ?_
  refine nx_n ?_
  refine swp_seq ?_
  refine swp_reg ?_
  refine SRun.ck tbokGC 2 ⟨104, [(0, vl eOp aALog), (1, vs aAKey), (19, vl eOp aALog), (20, vi 1048576)], []⟩ ?_
  obtain ⟨x1, hx1, h⟩ := bind_some h
  refine SRun.ls (x_lstep_call (f := 12) (caps := []) (xs := [vl eOp aALog, vi 1048576]) (ys := [vl eOp aALog, vi 1048576]) (res := ⟨[.v (vi x1)], [], false⟩) (x := vi x1) (y := none) rfl ents12 (laws_szOpS_run aALog 1048576 _ hx1) rfl (by intro hc; cases hc)) ?_
  refine SRun.ck tbokGC 1 ⟨104, [(0, vl eOp aALog), (1, vs aAKey), (5, vi x1)], []⟩ ?_
  refine SRun.nil ?_
  refine nx_n ?_
  refine swp_seq ?_
  refine swp_seq ?_
  refine swp_reg ?_
  refine SRun.ck tbokGC 2 ⟨104, [(0, vl eOp aALog), (1, vs aAKey), (23, vb (decide (x1 < 0)))], []⟩ ?_
  refine SRun.nil ?_
  refine nx_n ?_
  refine swp_cond (b := (decide (x1 < 0))) (by kernel_rfl) (fun hb => ?_) (fun hb => ?_)
  replace h := cond_t hb h
  refine swp_seq ?_
  refine swp_reg ?_
  refine SRun.ck tbokGC 1 ⟨104, [(4, vb true)], []⟩ ?_
  refine SRun.nil ?_
  refine nx_n ?_
  refine swp_ret ?_
  replace h := Option.some.inj h
  subst h
  exact nx_r (q_fr (fin1 (by kernel_rfl) (finV rfl SV.flat_of (holds_t (by kernel_rfl)))))
  replace h := cond_f hb h
  refine swp_skip ?_
  refine nx_n ?_
  refine swp_seq ?_
  refine swp_reg ?_
  refine SRun.ck tbokGC 1 ⟨104, [(0, vl eOp aALog), (1, vs aAKey), (25, vl eOp aALog)], []⟩ ?_
  obtain ⟨x2, hx2, h⟩ := bind_some h
  refine SRun.ls (x_lstep_call (f := 14) (caps := []) (xs := [vl eOp aALog]) (ys := [vl eOp aALog]) (res := ⟨[.deep 61 5 x2.length [.flat, .flat, .flat, .flat, (.sl 2 1 [.flat])] (x2.map eOp)], [], false⟩) (x := .own 26) (y := some (.deep 61 5 x2.length [.flat, .flat, .flat, .flat, (.sl 2 1 [.flat])] (x2.map eOp))) rfl ents14 (laws_toOpS_run aALog _ hx2) rfl (by intro hc; cases hc)) ?_
  refine SRun.ck tbokGC 1 ⟨104, [(0, vl eOp aALog), (1, vs aAKey), (26, .own 26), (27, vs aAKey)], [(26, .deep 61 5 x2.length [.flat, .flat, .flat, .flat, (.sl 2 1 [.flat])] (x2.map eOp))]⟩ ?_
  obtain ⟨x3, hx3, h⟩ := bind_some h
  refine SRun.ls (x_lstep_call (f := 30) (caps := []) (xs := [.own 26, vs aAKey]) (ys := [vl eOp x2, vs aAKey]) (res := ⟨[.own 2 1 x3.1.length (x3.1.map (eI .i64)), .v (vi x3.2)], [], false⟩) (x := .tup [.own 28, vi x3.2]) (y := some (.arr 2 1 x3.1.length (x3.1.map (eI .i64)))) rfl ents30 (spec_RivalsOf_run x2 aAKey _ hx3) rfl (by intro hc; cases hc)) ?_
  refine SRun.ck tbokGC 5 ⟨104, [(0, vl eOp aALog), (1, vs aAKey), (6, .own 28), (7, vi x3.2)], [(28, .arr 2 1 x3.1.length (x3.1.map (eI .i64)))]⟩ ?_
  refine SRun.nil ?_
  refine nx_n ?_
  refine swp_seq ?_
  refine swp_reg ?_
  refine SRun.ck tbokGC 1 ⟨104, [(0, vl eOp aALog), (1, vs aAKey), (6, .own 28), (7, vi x3.2), (31, vl eOp aALog)], [(28, .arr 2 1 x3.1.length (x3.1.map (eI .i64)))]⟩ ?_
  obtain ⟨x4, hx4, h⟩ := bind_some h
  refine SRun.ls (x_lstep_call (f := 14) (caps := []) (xs := [vl eOp aALog]) (ys := [vl eOp aALog]) (res := ⟨[.deep 61 5 x4.length [.flat, .flat, .flat, .flat, (.sl 2 1 [.flat])] (x4.map eOp)], [], false⟩) (x := .own 32) (y := some (.deep 61 5 x4.length [.flat, .flat, .flat, .flat, (.sl 2 1 [.flat])] (x4.map eOp))) rfl ents14 (laws_toOpS_run aALog _ hx4) rfl (by intro hc; cases hc)) ?_
  refine SRun.ck tbokGC 1 ⟨104, [(0, vl eOp aALog), (1, vs aAKey), (6, .own 28), (7, vi x3.2), (8, .own 32)], [(28, .arr 2 1 x3.1.length (x3.1.map (eI .i64))), (32, .deep 61 5 x4.length [.flat, .flat, .flat, .flat, (.sl 2 1 [.flat])] (x4.map eOp))]⟩ ?_
  refine SRun.nil ?_
  refine nx_n ?_
  refine swp_seq ?_
  refine swp_reg ?_
  refine SRun.ck tbokGC 2 ⟨104, [(0, vl eOp aALog), (1, vs aAKey), (6, .own 28), (7, vi x3.2), (8, .own 32), (34, .own 32), (35, vs aAKey)], [(28, .arr 2 1 x3.1.length (x3.1.map (eI .i64))), (32, .deep 61 5 x4.length [.flat, .flat, .flat, .flat, (.sl 2 1 [.flat])] (x4.map eOp))]⟩ ?_
  obtain ⟨x5, hx5, h⟩ := bind_some h
  refine SRun.ls (x_lstep_call (f := 31) (caps := []) (xs := [.own 32, vs aAKey]) (ys := [vl eOp x4, vs aAKey]) (res := ⟨[.own 2 1 x5.1.length (x5.1.map (eI .i64)), .v (vi x5.2)], [], false⟩) (x := .tup [.own 36, vi x5.2]) (y := some (.arr 2 1 x5.1.length (x5.1.map (eI .i64)))) rfl ents31 (impl_RivalsOf_run x4 aAKey _ hx5) rfl (by intro hc; cases hc)) ?_
  refine SRun.ck tbokGC 5 ⟨104, [(0, vl eOp aALog), (1, vs aAKey), (6, .own 28), (7, vi x3.2), (8, .own 32), (9, .own 36), (10, vi x5.2)], [(28, .arr 2 1 x3.1.length (x3.1.map (eI .i64))), (32, .deep 61 5 x4.length [.flat, .flat, .flat, .flat, (.sl 2 1 [.flat])] (x4.map eOp)), (36, .arr 2 1 x5.1.length (x5.1.map (eI .i64)))]⟩ ?_
  refine SRun.nil ?_
  refine nx_n ?_
  refine swp_seq ?_
  refine swp_seq ?_
  refine swp_regJ h (fun j7 => ⟨104, [(0, vl eOp aALog), (1, vs aAKey), (6, .own 6), (7, vi x3.2), (8, .own 8), (9, .own 9), (10, vi x5.2), (47, vb j7)], [(6, .arr 2 1 x3.1.length (x3.1.map (eI .i64))), (8, .deep 61 5 x4.length [.flat, .flat, .flat, .flat, (.sl 2 1 [.flat])] (x4.map eOp)), (9, .arr 2 1 x5.1.length (x5.1.map (eI .i64)))]⟩) (fun v8 h => ?_) (fun j7 h => ?_)
  refine SRun.ck tbokGC 2 ⟨104, [(0, vl eOp aALog), (1, vs aAKey), (6, .own 28), (7, vi x3.2), (8, .own 32), (9, .own 36), (10, vi x5.2), (39, .own 36), (40, .own 28)], [(28, .arr 2 1 x3.1.length (x3.1.map (eI .i64))), (32, .deep 61 5 x4.length [.flat, .flat, .flat, .flat, (.sl 2 1 [.flat])] (x4.map eOp)), (36, .arr 2 1 x5.1.length (x5.1.map (eI .i64)))]⟩ ?_
  obtain ⟨x6, hx6, h⟩ := bind_some h
  refine SRun.ls (x_lstep_call (f := 21) (caps := []) (xs := [.own 36, .own 28]) (ys := [vl (eI .i64) x5.1, vl (eI .i64) x3.1]) (res := ⟨[.v (vb x6)], [], false⟩) (x := vb x6) (y := none) rfl ents21 (laws_eqInt64S_run x5.1 x3.1 _ hx6) rfl (by intro hc; cases hc)) ?_
  refine SRun.ck tbokGC 2 ⟨104, [(0, vl eOp aALog), (1, vs aAKey), (6, .own 28), (7, vi x3.2), (8, .own 32), (9, .own 36), (10, vi x5.2), (43, vb (!x6))], [(28, .arr 2 1 x3.1.length (x3.1.map (eI .i64))), (32, .deep 61 5 x4.length [.flat, .flat, .flat, .flat, (.sl 2 1 [.flat])] (x4.map eOp)), (36, .arr 2 1 x5.1.length (x5.1.map (eI .i64)))]⟩ ?_
  refine SRun.cut [(43, fun b => b)] (b := (!x6)) (by kernel_rfl) (fun hb => ?_) (fun hb => ?_)
  replace h := cond_t hb h
  refine SRun.ck tbokGC 4 ⟨104, [(0, vl eOp aALog), (1, vs aAKey), (6, .own 28), (7, vi x3.2), (8, .own 32), (9, .own 36), (10, vi x5.2), (47, vb true)], [(28, .arr 2 1 x3.1.length (x3.1.map (eI .i64))), (32, .deep 61 5 x4.length [.flat, .flat, .flat, .flat, (.sl 2 1 [.flat])] (x4.map eOp)), (36, .arr 2 1 x5.1.length (x5.1.map (eI .i64)))]⟩ ?_
  refine SRun.nil ?_
  replace h := Option.some.inj h
  subst h
  exact (Le.sub' ([(0, vl eOp aALog), (1, vs aAKey), (6, .own 28), (7, vi x3.2), (8, .own 32), (9, .own 36), (10, vi x5.2), (47, vb true)] : List (Nat × SV)) ([(28, .arr 2 1 x3.1.length (x3.1.map (eI .i64))), (32, .deep 61 5 x4.length [.flat, .flat, .flat, .flat, (.sl 2 1 [.flat])] (x4.map eOp)), (36, .arr 2 1 x5.1.length (x5.1.map (eI .i64)))] : List (Nat × SO)) (by kernel_rfl) (by kernel_rfl)).trans ((Le.ren' (d := 28) (e := 6) (by kernel_rfl) (by kernel_rfl) (by kernel_rfl)).trans ((Le.ren' (d := 32) (e := 8) (by kernel_rfl) (by kernel_rfl) (by kernel_rfl)).trans ((Le.ren' (d := 36) (e := 9) (by kernel_rfl) (by kernel_rfl) (by kernel_rfl)).trans (Le.sub0))))
  replace h := cond_f hb h
  refine SRun.ck tbokGC 4 ⟨104, [(0, vl eOp aALog), (1, vs aAKey), (6, .own 28), (7, vi x3.2), (8, .own 32), (9, .own 36), (10, vi x5.2), (47, vb (x5.2 != x3.2))], [(28, .arr 2 1 x3.1.length (x3.1.map (eI .i64))), (32, .deep 61 5 x4.length [.flat, .flat, .flat, .flat, (.sl 2 1 [.flat])] (x4.map eOp)), (36, .arr 2 1 x5.1.length (x5.1.map (eI .i64)))]⟩ ?_
  refine SRun.nil ?_
  replace h := Option.some.inj h
  subst h
  exact (Le.sub' ([(0, vl eOp aALog), (1, vs aAKey), (6, .own 28), (7, vi x3.2), (8, .own 32), (9, .own 36), (10, vi x5.2), (47, vb (x5.2 != x3.2))] : List (Nat × SV)) ([(28, .arr 2 1 x3.1.length (x3.1.map (eI .i64))), (32, .deep 61 5 x4.length [.flat, .flat, .flat, .flat, (.sl 2 1 [.flat])] (x4.map eOp)), (36, .arr 2 1 x5.1.length (x5.1.map (eI .i64)))] : List (Nat × SO)) (by kernel_rfl) (by kernel_rfl)).trans ((Le.ren' (d := 28) (e := 6) (by kernel_rfl) (by kernel_rfl) (by kernel_rfl)).trans ((Le.ren' (d := 32) (e := 8) (by kernel_rfl) (by kernel_rfl) (by kernel_rfl)).trans ((Le.ren' (d := 36) (e := 9) (by kernel_rfl) (by kernel_rfl) (by kernel_rfl)).trans (Le.sub0))))
  refine swp_cond (b := j7) (by kernel_rfl) (fun hb => ?_) (fun hb => ?_)
  replace h := cond_t hb h
  refine swp_seq ?_
  refine swp_reg ?_
  refine SRun.ck tbokGC 1 ⟨104, [(4, vb false)], []⟩ ?_
  refine SRun.nil ?_
  refine nx_n ?_
  refine swp_ret ?_
  replace h := Option.some.inj h
  subst h
  exact nx_r (q_fr (fin1 (by kernel_rfl) (finV rfl SV.flat_of (holds_t (by kernel_rfl)))))
  replace h := cond_f hb h
  refine swp_skip ?_
  refine nx_n ?_
  refine swp_seq ?_
  refine swp_seq ?_
  refine swp_reg ?_
  refine SRun.ck tbokGC 2 ⟨104, [(0, vl eOp aALog), (1, vs aAKey), (6, .own 6), (7, vi x3.2), (8, .own 8), (9, .own 9), (10, vi x5.2), (48, .own 8), (49, vl eOp aALog)], [(6, .arr 2 1 x3.1.length (x3.1.map (eI .i64))), (8, .deep 61 5 x4.length [.flat, .flat, .flat, .flat, (.sl 2 1 [.flat])] (x4.map eOp)), (9, .arr 2 1 x5.1.length (x5.1.map (eI .i64)))]⟩ ?_
  obtain ⟨x9, hx9, h⟩ := bind_some h
  refine SRun.ls (x_lstep_call (f := 14) (caps := []) (xs := [vl eOp aALog]) (ys := [vl eOp aALog]) (res := ⟨[.deep 61 5 x9.length [.flat, .flat, .flat, .flat, (.sl 2 1 [.flat])] (x9.map eOp)], [], false⟩) (x := .own 50) (y := some (.deep 61 5 x9.length [.flat, .flat, .flat, .flat, (.sl 2 1 [.flat])] (x9.map eOp))) rfl ents14 (laws_toOpS_run aALog _ hx9) rfl (by intro hc; cases hc)) ?_
  obtain ⟨x10, hx10, h⟩ := bind_some h
  refine SRun.ls (x_lstep_call (f := 16) (caps := []) (xs := [.own 8, .own 50]) (ys := [vl eOp x4, vl eOp x9]) (res := ⟨[.v (vb x10)], [], false⟩) (x := vb x10) (y := none) rfl ents16 (laws_eqOpS_run x4 x9 _ hx10) rfl (by intro hc; cases hc)) ?_
  refine SRun.ck tbokGC 1 ⟨104, [(0, vl eOp aALog), (1, vs aAKey), (6, .own 6), (7, vi x3.2), (8, .own 8), (9, .own 9), (10, vi x5.2), (52, vb (!x10))], [(6, .arr 2 1 x3.1.length (x3.1.map (eI .i64))), (8, .deep 61 5 x4.length [.flat, .flat, .flat, .flat, (.sl 2 1 [.flat])] (x4.map eOp)), (9, .arr 2 1 x5.1.length (x5.1.map (eI .i64)))]⟩ ?_
  refine SRun.nil ?_
  refine nx_n ?_
  refine swp_cond (b := (!x10)) (by kernel_rfl) (fun hb => ?_) (fun hb => ?_)
  replace h := cond_t hb h
  refine swp_seq ?_
  refine swp_reg ?_
  refine SRun.ck tbokGC 1 ⟨104, [(4, vb false)], []⟩ ?_
  refine SRun.nil ?_
  refine nx_n ?_
  refine swp_ret ?_
  replace h := Option.some.inj h
  subst h
  exact nx_r (q_fr (fin1 (by kernel_rfl) (finV rfl SV.flat_of (holds_t (by kernel_rfl)))))
  replace h := cond_f hb h
  refine swp_skip ?_
  refine nx_n ?_
  refine swp_seq ?_
  refine swp_reg ?_
  refine SRun.ck tbokGC 1 ⟨104, [(0, vl eOp aALog), (1, vs aAKey), (6, .own 6), (7, vi x3.2), (8, .own 8), (9, .own 9), (10, vi x5.2), (11, vi 1)], [(6, .arr 2 1 x3.1.length (x3.1.map (eI .i64))), (8, .deep 61 5 x4.length [.flat, .flat, .flat, .flat, (.sl 2 1 [.flat])] (x4.map eOp)), (9, .arr 2 1 x5.1.length (x5.1.map (eI .i64)))]⟩ ?_
  refine SRun.nil ?_
  refine nx_n ?_
  refine swp_seq ?_
  refine swp_reg ?_
  refine SRun.ck tbokGC 2 ⟨104, [(0, vl eOp aALog), (1, vs aAKey), (6, .own 6), (7, vi x3.2), (9, .own 9), (10, vi x5.2), (53, .own 8), (54, vi 1)], [(6, .arr 2 1 x3.1.length (x3.1.map (eI .i64))), (8, .deep 61 5 x4.length [.flat, .flat, .flat, .flat, (.sl 2 1 [.flat])] (x4.map eOp)), (9, .arr 2 1 x5.1.length (x5.1.map (eI .i64)))]⟩ ?_
  obtain ⟨x11, hx11, h⟩ := bind_some h
  refine SRun.estep (x_estep_call (f := 22) (caps := []) (xs := [.own 8, vi 1]) (pre := []) (post := [vi 1]) (qs := [vi 1]) (z := .own 8) (d := 8) (pl := 0) (y := .deep 61 5 x4.length [.flat, .flat, .flat, .flat, (.sl 2 1 [.flat])] (x4.map eOp)) (y' := .deep 61 5 x11.2.length [.flat, .flat, .flat, .flat, (.sl 2 1 [.flat])] (x11.2.map eOp)) (res := ⟨[.v (vi x11.1)], [(0, .deep 61 5 x11.2.length [.flat, .flat, .flat, .flat, (.sl 2 1 [.flat])] (x11.2.map eOp))], false⟩) (x := vi x11.1) (yo := none) rfl rfl rfl rfl rfl ents22 (laws_markOpS_run x4 1 _ hx11) rfl rfl false (fun _ => rfl) (by intro hc; cases hc)) ?_
  refine SRun.ck tbokGC 1 ⟨104, [(0, vl eOp aALog), (1, vs aAKey), (6, .own 6), (7, vi x3.2), (9, .own 9), (10, vi x5.2), (11, vi x11.1)], [(6, .arr 2 1 x3.1.length (x3.1.map (eI .i64))), (9, .arr 2 1 x5.1.length (x5.1.map (eI .i64)))]⟩ ?_
  refine SRun.nil ?_
  refine nx_n ?_
  refine swp_seq ?_
  refine swp_seq ?_
  refine swp_regJ h (fun j13 => ⟨104, [(0, vl eOp aALog), (1, vs aAKey), (6, .own 6), (7, vi x3.2), (9, .own 9), (68, vb j13)], [(6, .arr 2 1 x3.1.length (x3.1.map (eI .i64))), (9, .arr 2 1 x5.1.length (x5.1.map (eI .i64)))]⟩) (fun v14 h => ?_) (fun j13 h => ?_)
  refine SRun.ck tbokGC 3 ⟨104, [(0, vl eOp aALog), (1, vs aAKey), (6, .own 6), (7, vi x3.2), (9, .own 9), (10, vi x5.2), (58, vb (decide (x11.1 < 0)))], [(6, .arr 2 1 x3.1.length (x3.1.map (eI .i64))), (9, .arr 2 1 x5.1.length (x5.1.map (eI .i64)))]⟩ ?_
  refine SRun.cut [(58, fun b => b)] (b := (decide (x11.1 < 0))) (by kernel_rfl) (fun hb => ?_) (fun hb => ?_)
  replace h := cond_t hb h
  refine SRun.ck tbokGC 10 ⟨104, [(0, vl eOp aALog), (1, vs aAKey), (6, .own 6), (7, vi x3.2), (9, .own 9), (68, vb true)], [(6, .arr 2 1 x3.1.length (x3.1.map (eI .i64))), (9, .arr 2 1 x5.1.length (x5.1.map (eI .i64)))]⟩ ?_
  refine SRun.nil ?_
  replace h := Option.some.inj h
  subst h
  exact Le.sub0
  replace h := cond_f hb h
  refine SRun.ck tbokGC 2 ⟨104, [(0, vl eOp aALog), (1, vs aAKey), (6, .own 6), (7, vi x3.2), (9, .own 9), (10, vi x5.2), (58, vb false), (59, .own 9), (60, .own 6)], [(6, .arr 2 1 x3.1.length (x3.1.map (eI .i64))), (9, .arr 2 1 x5.1.length (x5.1.map (eI .i64)))]⟩ ?_
  obtain ⟨x12, hx12, h⟩ := bind_some h
  refine SRun.ls (x_lstep_call (f := 21) (caps := []) (xs := [.own 9, .own 6]) (ys := [vl (eI .i64) x5.1, vl (eI .i64) x3.1]) (res := ⟨[.v (vb x12)], [], false⟩) (x := vb x12) (y := none) rfl ents21 (laws_eqInt64S_run x5.1 x3.1 _ hx12) rfl (by intro hc; cases hc)) ?_
  refine SRun.ck tbokGC 3 ⟨104, [(0, vl eOp aALog), (1, vs aAKey), (6, .own 6), (7, vi x3.2), (9, .own 9), (10, vi x5.2), (64, vb (!x12))], [(6, .arr 2 1 x3.1.length (x3.1.map (eI .i64))), (9, .arr 2 1 x5.1.length (x5.1.map (eI .i64)))]⟩ ?_
  refine SRun.cut [(64, fun b => b)] (b := (!x12)) (by kernel_rfl) (fun hb => ?_) (fun hb => ?_)
  replace h := cond_t hb h
  refine SRun.ck tbokGC 4 ⟨104, [(0, vl eOp aALog), (1, vs aAKey), (6, .own 6), (7, vi x3.2), (9, .own 9), (68, vb true)], [(6, .arr 2 1 x3.1.length (x3.1.map (eI .i64))), (9, .arr 2 1 x5.1.length (x5.1.map (eI .i64)))]⟩ ?_
  refine SRun.nil ?_
  replace h := Option.some.inj h
  subst h
  exact Le.sub0
  replace h := cond_f hb h
  refine SRun.ck tbokGC 4 ⟨104, [(0, vl eOp aALog), (1, vs aAKey), (6, .own 6), (7, vi x3.2), (9, .own 9), (68, vb (x5.2 != x3.2))], [(6, .arr 2 1 x3.1.length (x3.1.map (eI .i64))), (9, .arr 2 1 x5.1.length (x5.1.map (eI .i64)))]⟩ ?_
  refine SRun.nil ?_
  replace h := Option.some.inj h
  subst h
  exact Le.sub0
  refine swp_cond (b := j13) (by kernel_rfl) (fun hb => ?_) (fun hb => ?_)
  replace h := cond_t hb h
  refine swp_seq ?_
  refine swp_reg ?_
  refine SRun.ck tbokGC 1 ⟨104, [(4, vb false)], []⟩ ?_
  refine SRun.nil ?_
  refine nx_n ?_
  refine swp_ret ?_
  replace h := Option.some.inj h
  subst h
  exact nx_r (q_fr (fin1 (by kernel_rfl) (finV rfl SV.flat_of (holds_t (by kernel_rfl)))))
  replace h := cond_f hb h
  refine swp_skip ?_
  refine nx_n ?_
  refine swp_seq ?_
  refine swp_reg ?_
  refine SRun.ck tbokGC 1 ⟨104, [(0, vl eOp aALog), (1, vs aAKey), (6, .own 6), (7, vi x3.2), (9, .own 9), (12, vi 1)], [(6, .arr 2 1 x3.1.length (x3.1.map (eI .i64))), (9, .arr 2 1 x5.1.length (x5.1.map (eI .i64)))]⟩ ?_
  refine SRun.nil ?_
  refine nx_n ?_
  refine swp_seq ?_
  refine swp_reg ?_
  refine SRun.ck tbokGC 2 ⟨104, [(0, vl eOp aALog), (1, vs aAKey), (6, .own 6), (7, vi x3.2), (9, .own 9), (69, .own 9), (70, vi 1)], [(6, .arr 2 1 x3.1.length (x3.1.map (eI .i64))), (9, .arr 2 1 x5.1.length (x5.1.map (eI .i64)))]⟩ ?_
  obtain ⟨x15, hx15, h⟩ := bind_some h
  refine SRun.estep (x_estep_call (f := 23) (caps := []) (xs := [.own 9, vi 1]) (pre := []) (post := [vi 1]) (qs := [vi 1]) (z := .own 9) (d := 9) (pl := 0) (y := .arr 2 1 x5.1.length (x5.1.map (eI .i64))) (y' := .arr 2 1 x15.2.length (x15.2.map (eI .i64))) (res := ⟨[.v (vi x15.1)], [(0, .arr 2 1 x15.2.length (x15.2.map (eI .i64)))], false⟩) (x := vi x15.1) (yo := none) rfl rfl rfl rfl rfl ents23 (laws_markInt64S_run x5.1 1 _ hx15) rfl rfl false (fun _ => rfl) (by intro hc; cases hc)) ?_
  refine SRun.ck tbokGC 1 ⟨104, [(0, vl eOp aALog), (1, vs aAKey), (6, .own 6), (7, vi x3.2), (9, .own 9), (12, vi x15.1)], [(6, .arr 2 1 x3.1.length (x3.1.map (eI .i64))), (9, .arr 2 1 x15.2.length (x15.2.map (eI .i64)))]⟩ ?_
  refine SRun.nil ?_
  refine nx_n ?_
  refine swp_seq ?_
  refine swp_reg ?_
  refine SRun.ck tbokGC 1 ⟨104, [(0, vl eOp aALog), (1, vs aAKey), (6, .own 6), (7, vi x3.2), (9, .own 9), (12, vi x15.1), (13, vi 1)], [(6, .arr 2 1 x3.1.length (x3.1.map (eI .i64))), (9, .arr 2 1 x15.2.length (x15.2.map (eI .i64)))]⟩ ?_
  refine SRun.nil ?_
  refine nx_n ?_
  refine swp_seq ?_
  refine swp_reg ?_
  refine SRun.ck tbokGC 2 ⟨104, [(0, vl eOp aALog), (1, vs aAKey), (6, .own 6), (7, vi x3.2), (9, .own 9), (12, vi x15.1), (72, .own 9), (73, vi 1)], [(6, .arr 2 1 x3.1.length (x3.1.map (eI .i64))), (9, .arr 2 1 x15.2.length (x15.2.map (eI .i64)))]⟩ ?_
  obtain ⟨x16, hx16, h⟩ := bind_some h
  refine SRun.ls (x_lstep_call (f := 24) (caps := []) (xs := [.own 9, vi 1]) (ys := [vl (eI .i64) x15.2, vi 1]) (res := ⟨[.v (vi x16)], [], false⟩) (x := vi x16) (y := none) rfl ents24 (laws_heldInt64S_run x15.2 1 _ hx16) rfl (by intro hc; cases hc)) ?_
  refine SRun.ck tbokGC 1 ⟨104, [(0, vl eOp aALog), (1, vs aAKey), (6, .own 6), (7, vi x3.2), (9, .own 9), (12, vi x15.1), (13, vi x16)], [(6, .arr 2 1 x3.1.length (x3.1.map (eI .i64))), (9, .arr 2 1 x15.2.length (x15.2.map (eI .i64)))]⟩ ?_
  refine SRun.nil ?_
  refine nx_n ?_
  refine swp_seq ?_
  refine swp_seq ?_
  refine swp_reg ?_
  refine SRun.ck tbokGC 2 ⟨104, [(0, vl eOp aALog), (1, vs aAKey), (6, .own 6), (7, vi x3.2), (9, .own 9), (12, vi x15.1), (13, vi x16), (76, vb (decide (x16 < 0)))], [(6, .arr 2 1 x3.1.length (x3.1.map (eI .i64))), (9, .arr 2 1 x15.2.length (x15.2.map (eI .i64)))]⟩ ?_
  refine SRun.nil ?_
  refine nx_n ?_
  refine swp_cond (b := (decide (x16 < 0))) (by kernel_rfl) (fun hb => ?_) (fun hb => ?_)
  replace h := cond_t hb h
  refine swp_seq ?_
  refine swp_reg ?_
  refine SRun.ck tbokGC 1 ⟨104, [(4, vb false)], []⟩ ?_
  refine SRun.nil ?_
  refine nx_n ?_
  refine swp_ret ?_
  replace h := Option.some.inj h
  subst h
  exact nx_r (q_fr (fin1 (by kernel_rfl) (finV rfl SV.flat_of (holds_t (by kernel_rfl)))))
  replace h := cond_f hb h
  refine swp_skip ?_
  refine nx_n ?_
  refine swp_seq ?_
  refine swp_seq ?_
  refine swp_reg ?_
  refine SRun.ck tbokGC 3 ⟨104, [(0, vl eOp aALog), (1, vs aAKey), (6, .own 6), (7, vi x3.2), (9, .own 9), (12, vi x15.1), (79, vb (x16 != x15.1))], [(6, .arr 2 1 x3.1.length (x3.1.map (eI .i64))), (9, .arr 2 1 x15.2.length (x15.2.map (eI .i64)))]⟩ ?_
  refine SRun.nil ?_
  refine nx_n ?_
  refine swp_cond (b := (x16 != x15.1)) (by kernel_rfl) (fun hb => ?_) (fun hb => ?_)
  replace h := cond_t hb h
  refine swp_seq ?_
  refine swp_reg ?_
  refine SRun.ck tbokGC 1 ⟨104, [(4, vb false)], []⟩ ?_
  refine SRun.nil ?_
  refine nx_n ?_
  refine swp_ret ?_
  replace h := Option.some.inj h
  subst h
  exact nx_r (q_fr (fin1 (by kernel_rfl) (finV rfl SV.flat_of (holds_t (by kernel_rfl)))))
  replace h := cond_f hb h
  refine swp_skip ?_
  refine nx_n ?_
  refine swp_seq ?_
  refine swp_reg ?_
  refine SRun.ck tbokGC 1 ⟨104, [(1, vs aAKey), (6, .own 6), (7, vi x3.2), (9, .own 9), (12, vi x15.1), (81, vl eOp aALog)], [(6, .arr 2 1 x3.1.length (x3.1.map (eI .i64))), (9, .arr 2 1 x15.2.length (x15.2.map (eI .i64)))]⟩ ?_
  obtain ⟨x17, hx17, h⟩ := bind_some h
  refine SRun.ls (x_lstep_call (f := 14) (caps := []) (xs := [vl eOp aALog]) (ys := [vl eOp aALog]) (res := ⟨[.deep 61 5 x17.length [.flat, .flat, .flat, .flat, (.sl 2 1 [.flat])] (x17.map eOp)], [], false⟩) (x := .own 82) (y := some (.deep 61 5 x17.length [.flat, .flat, .flat, .flat, (.sl 2 1 [.flat])] (x17.map eOp))) rfl ents14 (laws_toOpS_run aALog _ hx17) rfl (by intro hc; cases hc)) ?_
  refine SRun.ck tbokGC 1 ⟨104, [(6, .own 6), (7, vi x3.2), (9, .own 9), (12, vi x15.1), (82, .own 82), (83, vs aAKey)], [(6, .arr 2 1 x3.1.length (x3.1.map (eI .i64))), (9, .arr 2 1 x15.2.length (x15.2.map (eI .i64))), (82, .deep 61 5 x17.length [.flat, .flat, .flat, .flat, (.sl 2 1 [.flat])] (x17.map eOp))]⟩ ?_
  obtain ⟨x18, hx18, h⟩ := bind_some h
  refine SRun.ls (x_lstep_call (f := 31) (caps := []) (xs := [.own 82, vs aAKey]) (ys := [vl eOp x17, vs aAKey]) (res := ⟨[.own 2 1 x18.1.length (x18.1.map (eI .i64)), .v (vi x18.2)], [], false⟩) (x := .tup [.own 84, vi x18.2]) (y := some (.arr 2 1 x18.1.length (x18.1.map (eI .i64)))) rfl ents31 (impl_RivalsOf_run x17 aAKey _ hx18) rfl (by intro hc; cases hc)) ?_
  refine SRun.ck tbokGC 5 ⟨104, [(6, .own 6), (7, vi x3.2), (9, .own 9), (12, vi x15.1), (14, .own 84), (15, vi x18.2)], [(6, .arr 2 1 x3.1.length (x3.1.map (eI .i64))), (9, .arr 2 1 x15.2.length (x15.2.map (eI .i64))), (84, .arr 2 1 x18.1.length (x18.1.map (eI .i64)))]⟩ ?_
  refine SRun.nil ?_
  refine nx_n ?_
  refine swp_seq ?_
  refine swp_seq ?_
  refine swp_regJ h (fun j20 => ⟨104, [(9, .own 9), (12, vi x15.1), (95, vb j20)], [(9, .arr 2 1 x15.2.length (x15.2.map (eI .i64)))]⟩) (fun v21 h => ?_) (fun j20 h => ?_)
  refine SRun.ck tbokGC 2 ⟨104, [(7, vi x3.2), (9, .own 9), (12, vi x15.1), (15, vi x18.2), (87, .own 84), (88, .own 6)], [(6, .arr 2 1 x3.1.length (x3.1.map (eI .i64))), (9, .arr 2 1 x15.2.length (x15.2.map (eI .i64))), (84, .arr 2 1 x18.1.length (x18.1.map (eI .i64)))]⟩ ?_
  obtain ⟨x19, hx19, h⟩ := bind_some h
  refine SRun.ls (x_lstep_call (f := 21) (caps := []) (xs := [.own 84, .own 6]) (ys := [vl (eI .i64) x18.1, vl (eI .i64) x3.1]) (res := ⟨[.v (vb x19)], [], false⟩) (x := vb x19) (y := none) rfl ents21 (laws_eqInt64S_run x18.1 x3.1 _ hx19) rfl (by intro hc; cases hc)) ?_
  refine SRun.ck tbokGC 2 ⟨104, [(7, vi x3.2), (9, .own 9), (12, vi x15.1), (15, vi x18.2), (91, vb (!x19))], [(9, .arr 2 1 x15.2.length (x15.2.map (eI .i64)))]⟩ ?_
  refine SRun.cut [(91, fun b => b)] (b := (!x19)) (by kernel_rfl) (fun hb => ?_) (fun hb => ?_)
  replace h := cond_t hb h
  refine SRun.ck tbokGC 4 ⟨104, [(9, .own 9), (12, vi x15.1), (95, vb true)], [(9, .arr 2 1 x15.2.length (x15.2.map (eI .i64)))]⟩ ?_
  refine SRun.nil ?_
  replace h := Option.some.inj h
  subst h
  exact Le.sub0
  replace h := cond_f hb h
  refine SRun.ck tbokGC 4 ⟨104, [(9, .own 9), (12, vi x15.1), (95, vb (x18.2 != x3.2))], [(9, .arr 2 1 x15.2.length (x15.2.map (eI .i64)))]⟩ ?_
  refine SRun.nil ?_
  replace h := Option.some.inj h
  subst h
  exact Le.sub0
  refine swp_cond (b := j20) (by kernel_rfl) (fun hb => ?_) (fun hb => ?_)
  replace h := cond_t hb h
  refine swp_seq ?_
  refine swp_reg ?_
  refine SRun.ck tbokGC 1 ⟨104, [(4, vb false)], []⟩ ?_
  refine SRun.nil ?_
  refine nx_n ?_
  refine swp_ret ?_
  replace h := Option.some.inj h
  subst h
  exact nx_r (q_fr (fin1 (by kernel_rfl) (finV rfl SV.flat_of (holds_t (by kernel_rfl)))))
  replace h := cond_f hb h
  refine swp_skip ?_
  refine nx_n ?_
  refine swp_seq ?_
  refine swp_reg ?_
  refine SRun.ck tbokGC 1 ⟨104, [(9, .own 9), (12, vi x15.1), (13, vi 1)], [(9, .arr 2 1 x15.2.length (x15.2.map (eI .i64)))]⟩ ?_
  refine SRun.nil ?_
  refine nx_n ?_
  refine swp_seq ?_
  refine swp_reg ?_
  refine SRun.ck tbokGC 2 ⟨104, [(12, vi x15.1), (96, .own 9), (97, vi 1)], [(9, .arr 2 1 x15.2.length (x15.2.map (eI .i64)))]⟩ ?_
  obtain ⟨x22, hx22, h⟩ := bind_some h
  refine SRun.ls (x_lstep_call (f := 24) (caps := []) (xs := [.own 9, vi 1]) (ys := [vl (eI .i64) x15.2, vi 1]) (res := ⟨[.v (vi x22)], [], false⟩) (x := vi x22) (y := none) rfl ents24 (laws_heldInt64S_run x15.2 1 _ hx22) rfl (by intro hc; cases hc)) ?_
  refine SRun.ck tbokGC 1 ⟨104, [(12, vi x15.1), (13, vi x22)], []⟩ ?_
  refine SRun.nil ?_
  refine nx_n ?_
  refine swp_seq ?_
  refine swp_seq ?_
  refine swp_reg ?_
  refine SRun.ck tbokGC 2 ⟨104, [(12, vi x15.1), (13, vi x22), (100, vb (decide (x22 < 0)))], []⟩ ?_
  refine SRun.nil ?_
  refine nx_n ?_
  refine swp_cond (b := (decide (x22 < 0))) (by kernel_rfl) (fun hb => ?_) (fun hb => ?_)
  replace h := cond_t hb h
  refine swp_seq ?_
  refine swp_reg ?_
  refine SRun.ck tbokGC 1 ⟨104, [(4, vb false)], []⟩ ?_
  refine SRun.nil ?_
  refine nx_n ?_
  refine swp_ret ?_
  replace h := Option.some.inj h
  subst h
  exact nx_r (q_fr (fin1 (by kernel_rfl) (finV rfl SV.flat_of (holds_t (by kernel_rfl)))))
  replace h := cond_f hb h
  refine swp_skip ?_
  refine nx_n ?_
  refine swp_seq ?_
  refine swp_seq ?_
  refine swp_reg ?_
  refine SRun.ck tbokGC 3 ⟨104, [(103, vb (x22 != x15.1))], []⟩ ?_
  refine SRun.nil ?_
  refine nx_n ?_
  refine swp_cond (b := (x22 != x15.1)) (by kernel_rfl) (fun hb => ?_) (fun hb => ?_)
  replace h := cond_t hb h
  refine swp_seq ?_
  refine swp_reg ?_
  refine SRun.ck tbokGC 1 ⟨104, [(4, vb false)], []⟩ ?_
  refine SRun.nil ?_
  refine nx_n ?_
  refine swp_ret ?_
  replace h := Option.some.inj h
  subst h
  exact nx_r (q_fr (fin1 (by kernel_rfl) (finV rfl SV.flat_of (holds_t (by kernel_rfl)))))
  replace h := cond_f hb h
  refine swp_skip ?_
  refine nx_n ?_
  refine swp_seq ?_
  refine swp_reg ?_
  refine SRun.ck tbokGC 1 ⟨104, [(4, vb true)], []⟩ ?_
  refine SRun.nil ?_
  refine nx_n ?_
  refine swp_ret ?_
  replace h := Option.some.inj h
  subst h
  exact q_fr (fin1 (by kernel_rfl) (finV rfl SV.flat_of (holds_t (by kernel_rfl))))
theorem ents8 : Ents Tryd.prog 8 := ents_of Tryd.func8 (by kernel_rfl) rfl
noncomputable def laws_heldOpS (aA : (List Op)) (aK : Int) : Option (Int) :=
  (((forN (aA.length : Int) (fun (i3 : Int) (s3 : Int) => ((at' aA i3).bind fun x7 => (bif (x7.Office != s3) then some (.inr (.inr (-1))) else ((at' aA i3).bind fun x8 => (bif (x8.Number != (w64 (s3 + 1))) then some (.inr (.inr (-1))) else ((at' aA i3).bind fun x9 => ((laws_markText (w64 ((w64 (s3 + 1)) + 1))).bind fun x10 => (bif (!(x9.Key.toList == x10.toList)) then some (.inr (.inr (-1))) else ((at' aA i3).bind fun x11 => ((laws_markText (w64 ((w64 ((w64 (s3 + 1)) + 1)) + 1))).bind fun x12 => (bif (!(x11.Text.toList == x12.toList)) then some (.inr (.inr (-1))) else ((at' aA i3).bind fun x13 => ((laws_heldInt64S x13.Seen (w64 ((w64 ((w64 ((w64 (s3 + 1)) + 1)) + 1)) + 1))).bind fun x14 => (bif (decide (x14 < 0)) then some (.inr (.inr (-1))) else some (.inl x14))))))))))))))) (fun (s3 : Int) => .inl s3) 0 aK)).bind (Sum.elim (fun (j1 : Int) => some j1) some))
set_option maxRecDepth 100000 in
set_option maxHeartbeats 4000000 in
theorem laws_heldOpS_run (aA : (List Op)) (aK : Int) (r : Int) (h : laws_heldOpS aA aK = some r) : SCall Tryd.prog 34 [.v (vl eOp aA), .v (vi aK)] ⟨[.v (vi r)], [], false⟩ := by
  refine scall_in Tryd.func34 rfl [(.tmp 4)] rfl (fun r => ⟨[.v (vi r)], [], false⟩) (r := r) ?_
  unfold laws_heldOpS at h
  refine swp_seq ?_
  refine swp_reg ?_
  refine SRun.ck tbokGC 1 ⟨60, [(0, vl eOp aA), (1, vi aK)], []⟩ ?_
  refine SRun.nil ?_
  refine nx_n ?_
  refine swp_seq ?_
  refine swp_seq ?_
  refine swp_reg ?_
  refine SRun.ck tbokGC 1 ⟨60, [(0, vl eOp aA), (1, vi aK), (5, vi 0)], []⟩ ?_
  refine SRun.nil ?_
  refine nx_n ?_
  refine swp_seqE (r := r) h (fun j1 => ⟨60, [(1, vi j1)], []⟩) (fun v2 h => ?_) (fun j1 h => ?_)
  refine swp_blk (a := v2) ?_
  refine swp_lpL (r := v2) (s := (0, aK)) _ (fun s3 => ⟨60, [(0, vl eOp aA), (1, vi s3.2), (5, vi s3.1)], []⟩) _ (Le.sub0) h (fun s3 v4 h => ?_)
  refine swp_seq ?_
  refine swp_seq ?_
  refine swp_reg ?_
  refine SRun.ck tbokGC 4 ⟨60, [(0, vl eOp aA), (1, vi s3.2), (5, vi s3.1), (9, vb (decide (s3.1 < (aA.length : Int))))], []⟩ ?_
  refine SRun.nil ?_
  refine nx_n ?_
  refine swp_cond (b := (decide (s3.1 < (aA.length : Int)))) (by kernel_rfl) (fun hb => ?_) (fun hb => ?_)
  replace h := cond_t hb h
  refine swp_skip ?_
  refine nx_n ?_
  refine swp_seq ?_
  refine swp_seqL (r := v4) h (fun j5 => ⟨60, [(0, vl eOp aA), (1, vi j5), (5, vi s3.1)], []⟩) (fun v6 h => ?_) (fun j5 h => ?_)
  refine swp_blk (a := v6) ?_
  refine swp_seq ?_
  refine swp_seq ?_
  refine swp_reg ?_
  refine SRun.ck tbokGC 2 ⟨60, [(0, vl eOp aA), (1, vi s3.2), (5, vi s3.1), (12, vl eOp aA), (13, vi s3.1)], []⟩ ?_
  obtain ⟨x7, hx7, h⟩ := bind_some h
  refine SRun.ls (x_index (L := aA) (f := eOp) (ti := ti25) (tj := ti61) (e := 61) (k := .i64) tbokGC rfl hx7) ?_
  refine SRun.ck tbokGC 4 ⟨60, [(0, vl eOp aA), (1, vi s3.2), (5, vi s3.1), (18, vb (x7.Office != s3.2))], []⟩ ?_
  refine SRun.nil ?_
  refine nx_n ?_
  refine swp_cond (b := (x7.Office != s3.2)) (by kernel_rfl) (fun hb => ?_) (fun hb => ?_)
  replace h := cond_t hb h
  refine swp_seq ?_
  refine swp_reg ?_
  refine SRun.ck tbokGC 1 ⟨60, [(4, vi (-1))], []⟩ ?_
  refine SRun.nil ?_
  refine nx_n ?_
  refine swp_ret ?_
  replace h := Option.some.inj h
  subst h
  exact nx_r (q_br (q_rr (q_rr (q_br (q_rr (q_fr (fin1 (by kernel_rfl) (finV rfl SV.flat_of (holds_t (by kernel_rfl))))))))))
  replace h := cond_f hb h
  refine swp_skip ?_
  refine nx_n ?_
  refine swp_seq ?_
  refine swp_reg ?_
  refine SRun.ck tbokGC 3 ⟨60, [(0, vl eOp aA), (1, vi (w64 (s3.2 + 1))), (5, vi s3.1)], []⟩ ?_
  refine SRun.nil ?_
  refine nx_n ?_
  refine swp_seq ?_
  refine swp_seq ?_
  refine swp_reg ?_
  refine SRun.ck tbokGC 2 ⟨60, [(0, vl eOp aA), (1, vi (w64 (s3.2 + 1))), (5, vi s3.1), (21, vl eOp aA), (22, vi s3.1)], []⟩ ?_
  obtain ⟨x8, hx8, h⟩ := bind_some h
  refine SRun.ls (x_index (L := aA) (f := eOp) (ti := ti25) (tj := ti61) (e := 61) (k := .i64) tbokGC rfl hx8) ?_
  refine SRun.ck tbokGC 4 ⟨60, [(0, vl eOp aA), (1, vi (w64 (s3.2 + 1))), (5, vi s3.1), (27, vb (x8.Number != (w64 (s3.2 + 1))))], []⟩ ?_
  refine SRun.nil ?_
  refine nx_n ?_
  refine swp_cond (b := (x8.Number != (w64 (s3.2 + 1)))) (by kernel_rfl) (fun hb => ?_) (fun hb => ?_)
  replace h := cond_t hb h
  refine swp_seq ?_
  refine swp_reg ?_
  refine SRun.ck tbokGC 1 ⟨60, [(4, vi (-1))], []⟩ ?_
  refine SRun.nil ?_
  refine nx_n ?_
  refine swp_ret ?_
  replace h := Option.some.inj h
  subst h
  exact nx_r (q_br (q_rr (q_rr (q_br (q_rr (q_fr (fin1 (by kernel_rfl) (finV rfl SV.flat_of (holds_t (by kernel_rfl))))))))))
  replace h := cond_f hb h
  refine swp_skip ?_
  refine nx_n ?_
  refine swp_seq ?_
  refine swp_reg ?_
  refine SRun.ck tbokGC 3 ⟨60, [(0, vl eOp aA), (1, vi (w64 ((w64 (s3.2 + 1)) + 1))), (5, vi s3.1)], []⟩ ?_
  refine SRun.nil ?_
  refine nx_n ?_
  refine swp_seq ?_
  refine swp_seq ?_
  refine swp_dr mixed ?_
  refine DGo.chunk' tbokGC 2 (σ' := ⟨60, [(31, vi s3.1), (30, vl eOp aA), (0, vl eOp aA), (1, vi (w64 ((w64 (s3.2 + 1)) + 1))), (5, vi s3.1)], []⟩) (by kernel_rfl) ?_
  obtain ⟨x9, hx9, h⟩ := bind_some h
  refine DGo.step (x_index (L := aA) (f := eOp) (ti := ti25) (tj := ti61) (e := 61) (k := .i64) tbokGC rfl hx9) ?_
  refine DGo.chunk' tbokGC 3 (σ' := ⟨60, [(35, vi (w64 ((w64 (s3.2 + 1)) + 1))), (34, vs x9.Key), (33, .ptr ((eOp x9).map .tr) 2), (32, .ptr ((eOp x9).map .tr) 0), (31, vi s3.1), (30, vl eOp aA), (0, vl eOp aA), (1, vi (w64 ((w64 (s3.2 + 1)) + 1))), (5, vi s3.1)], []⟩) (by kernel_rfl) ?_
  obtain ⟨x10, hx10, h⟩ := bind_some h
  refine DGo.step (x_lstep_call (f := 57) (caps := []) (xs := [vi (w64 ((w64 (s3.2 + 1)) + 1))]) (ys := [vi (w64 ((w64 (s3.2 + 1)) + 1))]) (res := ⟨[.v (vs x10)], [], false⟩) (x := vs x10) (y := none) rfl ents57 (laws_markText_run (w64 ((w64 (s3.2 + 1)) + 1)) _ hx10) rfl (by intro hc; cases hc)) ?_
  refine DGo.chunk' tbokGC 1 (σ' := ⟨60, [(37, vb (!(x9.Key.toList == x10.toList))), (36, vs x10), (35, vi (w64 ((w64 (s3.2 + 1)) + 1))), (34, vs x9.Key), (33, .ptr ((eOp x9).map .tr) 2), (32, .ptr ((eOp x9).map .tr) 0), (31, vi s3.1), (30, vl eOp aA), (0, vl eOp aA), (1, vi (w64 ((w64 (s3.2 + 1)) + 1))), (5, vi s3.1)], []⟩) (by kernel_rfl) ?_
  refine DGo.nil (by kernel_rfl) ?_
  refine nx_n ?_
  refine swp_cond (b := (!(x9.Key.toList == x10.toList))) (by kernel_rfl) (fun hb => ?_) (fun hb => ?_)
  replace h := cond_t hb h
  refine swp_seq ?_
  refine swp_reg ?_
  refine SRun.ck tbokGC 1 ⟨60, [(4, vi (-1))], []⟩ ?_
  refine SRun.nil ?_
  refine nx_n ?_
  refine swp_ret ?_
  replace h := Option.some.inj h
  subst h
  exact nx_r (q_br (q_rr (q_rr (q_br (q_rr (q_fr (fin1 (by kernel_rfl) (finV rfl SV.flat_of (holds_t (by kernel_rfl))))))))))
  replace h := cond_f hb h
  refine swp_skip ?_
  refine nx_n ?_
  refine swp_seq ?_
  refine swp_reg ?_
  refine SRun.ck tbokGC 3 ⟨60, [(0, vl eOp aA), (1, vi (w64 ((w64 ((w64 (s3.2 + 1)) + 1)) + 1))), (5, vi s3.1)], []⟩ ?_
  refine SRun.nil ?_
  refine nx_n ?_
  refine swp_seq ?_
  refine swp_seq ?_
  refine swp_dr mixed ?_
  refine DGo.chunk' tbokGC 2 (σ' := ⟨60, [(41, vi s3.1), (40, vl eOp aA), (0, vl eOp aA), (1, vi (w64 ((w64 ((w64 (s3.2 + 1)) + 1)) + 1))), (5, vi s3.1)], []⟩) (by kernel_rfl) ?_
  obtain ⟨x11, hx11, h⟩ := bind_some h
  refine DGo.step (x_index (L := aA) (f := eOp) (ti := ti25) (tj := ti61) (e := 61) (k := .i64) tbokGC rfl hx11) ?_
  refine DGo.chunk' tbokGC 3 (σ' := ⟨60, [(45, vi (w64 ((w64 ((w64 (s3.2 + 1)) + 1)) + 1))), (44, vs x11.Text), (43, .ptr ((eOp x11).map .tr) 3), (42, .ptr ((eOp x11).map .tr) 0), (41, vi s3.1), (40, vl eOp aA), (0, vl eOp aA), (1, vi (w64 ((w64 ((w64 (s3.2 + 1)) + 1)) + 1))), (5, vi s3.1)], []⟩) (by kernel_rfl) ?_
  obtain ⟨x12, hx12, h⟩ := bind_some h
  refine DGo.step (x_lstep_call (f := 57) (caps := []) (xs := [vi (w64 ((w64 ((w64 (s3.2 + 1)) + 1)) + 1))]) (ys := [vi (w64 ((w64 ((w64 (s3.2 + 1)) + 1)) + 1))]) (res := ⟨[.v (vs x12)], [], false⟩) (x := vs x12) (y := none) rfl ents57 (laws_markText_run (w64 ((w64 ((w64 (s3.2 + 1)) + 1)) + 1)) _ hx12) rfl (by intro hc; cases hc)) ?_
  refine DGo.chunk' tbokGC 1 (σ' := ⟨60, [(47, vb (!(x11.Text.toList == x12.toList))), (46, vs x12), (45, vi (w64 ((w64 ((w64 (s3.2 + 1)) + 1)) + 1))), (44, vs x11.Text), (43, .ptr ((eOp x11).map .tr) 3), (42, .ptr ((eOp x11).map .tr) 0), (41, vi s3.1), (40, vl eOp aA), (0, vl eOp aA), (1, vi (w64 ((w64 ((w64 (s3.2 + 1)) + 1)) + 1))), (5, vi s3.1)], []⟩) (by kernel_rfl) ?_
  refine DGo.nil (by kernel_rfl) ?_
  refine nx_n ?_
  refine swp_cond (b := (!(x11.Text.toList == x12.toList))) (by kernel_rfl) (fun hb => ?_) (fun hb => ?_)
  replace h := cond_t hb h
  refine swp_seq ?_
  refine swp_reg ?_
  refine SRun.ck tbokGC 1 ⟨60, [(4, vi (-1))], []⟩ ?_
  refine SRun.nil ?_
  refine nx_n ?_
  refine swp_ret ?_
  replace h := Option.some.inj h
  subst h
  exact nx_r (q_br (q_rr (q_rr (q_br (q_rr (q_fr (fin1 (by kernel_rfl) (finV rfl SV.flat_of (holds_t (by kernel_rfl))))))))))
  replace h := cond_f hb h
  refine swp_skip ?_
  refine nx_n ?_
  refine swp_seq ?_
  refine swp_reg ?_
  refine SRun.ck tbokGC 3 ⟨60, [(0, vl eOp aA), (1, vi (w64 ((w64 ((w64 ((w64 (s3.2 + 1)) + 1)) + 1)) + 1))), (5, vi s3.1)], []⟩ ?_
  refine SRun.nil ?_
  refine nx_n ?_
  refine swp_seq ?_
  refine swp_reg ?_
  refine SRun.ck tbokGC 2 ⟨60, [(0, vl eOp aA), (1, vi (w64 ((w64 ((w64 ((w64 (s3.2 + 1)) + 1)) + 1)) + 1))), (5, vi s3.1), (50, vl eOp aA), (51, vi s3.1)], []⟩ ?_
  obtain ⟨x13, hx13, h⟩ := bind_some h
  refine SRun.ls (x_index (L := aA) (f := eOp) (ti := ti25) (tj := ti61) (e := 61) (k := .i64) tbokGC rfl hx13) ?_
  refine SRun.ck tbokGC 3 ⟨60, [(0, vl eOp aA), (5, vi s3.1), (54, vl (eI .i64) x13.Seen), (55, vi (w64 ((w64 ((w64 ((w64 (s3.2 + 1)) + 1)) + 1)) + 1)))], []⟩ ?_
  obtain ⟨x14, hx14, h⟩ := bind_some h
  refine SRun.ls (x_lstep_call (f := 24) (caps := []) (xs := [vl (eI .i64) x13.Seen, vi (w64 ((w64 ((w64 ((w64 (s3.2 + 1)) + 1)) + 1)) + 1))]) (ys := [vl (eI .i64) x13.Seen, vi (w64 ((w64 ((w64 ((w64 (s3.2 + 1)) + 1)) + 1)) + 1))]) (res := ⟨[.v (vi x14)], [], false⟩) (x := vi x14) (y := none) rfl ents24 (laws_heldInt64S_run x13.Seen (w64 ((w64 ((w64 ((w64 (s3.2 + 1)) + 1)) + 1)) + 1)) _ hx14) rfl (by intro hc; cases hc)) ?_
  refine SRun.ck tbokGC 1 ⟨60, [(0, vl eOp aA), (1, vi x14), (5, vi s3.1)], []⟩ ?_
  refine SRun.nil ?_
  refine nx_n ?_
  refine swp_seq ?_
  refine swp_reg ?_
  refine SRun.ck tbokGC 2 ⟨60, [(0, vl eOp aA), (1, vi x14), (5, vi s3.1), (58, vb (decide (x14 < 0)))], []⟩ ?_
  refine SRun.nil ?_
  refine nx_n ?_
  refine swp_cond (b := (decide (x14 < 0))) (by kernel_rfl) (fun hb => ?_) (fun hb => ?_)
  replace h := cond_t hb h
  refine swp_seq ?_
  refine swp_reg ?_
  refine SRun.ck tbokGC 1 ⟨60, [(4, vi (-1))], []⟩ ?_
  refine SRun.nil ?_
  refine nx_n ?_
  refine swp_ret ?_
  replace h := Option.some.inj h
  subst h
  exact q_br (q_rr (q_rr (q_br (q_rr (q_fr (fin1 (by kernel_rfl) (finV rfl SV.flat_of (holds_t (by kernel_rfl)))))))))
  replace h := cond_f hb h
  refine swp_skip ?_
  replace h := Option.some.inj h
  subst h
  exact q_bn (q_l (Le.sub0))
  refine swp_reg ?_
  refine SRun.ck tbokGC 3 ⟨60, [(0, vl eOp aA), (1, vi j5), (5, vi (w64 (s3.1 + 1)))], []⟩ ?_
  refine SRun.nil ?_
  replace h := Option.some.inj h
  subst h
  exact q_l (Le.sub0)
  replace h := cond_f hb h
  refine swp_exit ?_
  replace h := Option.some.inj h
  subst h
  exact nx_e (q_re (q_bh (q_l (Le.sub0))))
  refine swp_seq ?_
  refine swp_reg ?_
  refine SRun.ck tbokGC 2 ⟨60, [(4, vi j1)], []⟩ ?_
  refine SRun.nil ?_
  refine nx_n ?_
  refine swp_ret ?_
  replace h := Option.some.inj h
  subst h
  exact q_fr (fin1 (by kernel_rfl) (finV rfl SV.flat_of (holds_t (by kernel_rfl))))
theorem ents34 : Ents Tryd.prog 34 := ents_of Tryd.func34 (by kernel_rfl) rfl
noncomputable def laws_FnExactMakeOp (aALog : (List Op)) (aAOffice : Int) (aAKey : ByteArray) (aAText : ByteArray) : Option (Bool) :=
  (bif (decide ((aAKey.size : Int) > 1048576)) then some true else (bif (decide ((aAText.size : Int) > 1048576)) then some true else ((laws_szOpS aALog 1048576).bind fun x1 => (bif (decide (x1 < 0)) then some true else ((laws_toOpS aALog).bind fun x2 => ((spec_MakeOp x2 aAOffice aAKey aAText).bind fun x3 => ((laws_toOpS aALog).bind fun x4 => ((impl_MakeOp x4 aAOffice aAKey aAText).bind fun x5 => ((((laws_eqOpS x5.1 x3.1).bind fun x6 => (bif (!x6) then some true else some (x5.2 != x3.2)))).bind fun (j7 : Bool) => (bif j7 then some false else ((laws_toOpS aALog).bind fun x9 => ((laws_eqOpS x4 x9).bind fun x10 => (bif (!x10) then some false else ((laws_markOpS x4 1).bind fun x11 => (((bif (decide (x11.1 < 0)) then some true else ((laws_eqOpS x5.1 x3.1).bind fun x12 => (bif (!x12) then some true else some (x5.2 != x3.2))))).bind fun (j13 : Bool) => (bif j13 then some false else ((laws_markOpS x5.1 1).bind fun x15 => ((laws_heldOpS x15.2 1).bind fun x16 => (bif (decide (x16 < 0)) then some false else (bif (x16 != x15.1) then some false else ((laws_toOpS aALog).bind fun x17 => ((impl_MakeOp x17 aAOffice aAKey aAText).bind fun x18 => ((((laws_eqOpS x18.1 x3.1).bind fun x19 => (bif (!x19) then some true else some (x18.2 != x3.2)))).bind fun (j20 : Bool) => (bif j20 then some false else ((laws_heldOpS x15.2 1).bind fun x22 => (bif (decide (x22 < 0)) then some false else (bif (x22 != x15.1) then some false else some true)))))))))))))))))))))))))))
set_option maxRecDepth 100000 in
set_option maxHeartbeats 4000000 in
theorem laws_FnExactMakeOp_run (aALog : (List Op)) (aAOffice : Int) (aAKey : ByteArray) (aAText : ByteArray) (r : Bool) (h : laws_FnExactMakeOp aALog aAOffice aAKey aAText = some r) : SCall Tryd.prog 9 [.v (vl eOp aALog), .v (vi aAOffice), .v (vs aAKey), .v (vs aAText)] ⟨[.v (vb r)], [], false⟩ := by
  refine scall_in Tryd.func9 rfl [(.tmp 8)] rfl (fun r => ⟨[.v (vb r)], [], false⟩) (r := r) ?_
  unfold laws_FnExactMakeOp at h
  refine swp_seq ?_
  refine swp_reg ?_
  refine SRun.ck tbokGC 1 ⟨117, [(0, vl eOp aALog), (1, vi aAOffice), (2, vs aAKey), (3, vs aAText)], []⟩ ?_
  refine SRun.nil ?_
  refine nx_n ?_
  refine swp_seq ?_
  refine swp_seq ?_
  refine swp_reg ?_
  refine SRun.ck tbokGC 3 ⟨117, [(0, vl eOp aALog), (1, vi aAOffice), (2, vs aAKey), (3, vs aAText), (22, vb (decide ((aAKey.size : Int) > 1048576)))], []⟩ ?_
  refine SRun.nil ?_
  refine nx_n ?_
  refine swp_cond (b := (decide ((aAKey.size : Int) > 1048576))) (by kernel_rfl) (fun hb => ?_) (fun hb => ?_)
  replace h := cond_t hb h
  refine swp_seq ?_
  refine swp_reg ?_
  refine SRun.ck tbokGC 1 ⟨117, [(8, vb true)], []⟩ ?_
  refine SRun.nil ?_
  refine nx_n ?_
  refine swp_ret ?_
  replace h := Option.some.inj h
  subst h
  exact nx_r (q_fr (fin1 (by kernel_rfl) (finV rfl SV.flat_of (holds_t (by kernel_rfl)))))
  replace h := cond_f hb h
  refine swp_skip ?_
  refine nx_n ?_
  refine swp_seq ?_
  refine swp_seq ?_
  refine swp_reg ?_
  refine SRun.ck tbokGC 3 ⟨117, [(0, vl eOp aALog), (1, vi aAOffice), (2, vs aAKey), (3, vs aAText), (25, vb (decide ((aAText.size : Int) > 1048576)))], []⟩ ?_
  refine SRun.nil ?_
  refine nx_n ?_
  refine swp_cond (b := (decide ((aAText.size : Int) > 1048576))) (by kernel_rfl) (fun hb => ?_) (fun hb => ?_)
  replace h := cond_t hb h
  refine swp_seq ?_
  refine swp_reg ?_
  refine SRun.ck tbokGC 1 ⟨117, [(8, vb true)], []⟩ ?_
  refine SRun.nil ?_
  refine nx_n ?_
  refine swp_ret ?_
  replace h := Option.some.inj h
  subst h
  exact nx_r (q_fr (fin1 (by kernel_rfl) (finV rfl SV.flat_of (holds_t (by kernel_rfl)))))
  replace h := cond_f hb h
  refine swp_skip ?_
  refine nx_n ?_
  refine swp_seq ?_
  refine swp_reg ?_
  refine SRun.ck tbokGC 1 ⟨117, [(0, vl eOp aALog), (1, vi aAOffice), (2, vs aAKey), (3, vs aAText), (9, vi 1048576)], []⟩ ?_
  refine SRun.nil ?_
  refine nx_n ?_
  refine swp_seq ?_
  refine swp_reg ?_
  refine SRun.ck tbokGC 2 ⟨117, [(0, vl eOp aALog), (1, vi aAOffice), (2, vs aAKey), (3, vs aAText), (26, vl eOp aALog), (27, vi 1048576)], []⟩ ?_
  obtain ⟨x1, hx1, h⟩ := bind_some h
  refine SRun.ls (x_lstep_call (f := 12) (caps := []) (xs := [vl eOp aALog, vi 1048576]) (ys := [vl eOp aALog, vi 1048576]) (res := ⟨[.v (vi x1)], [], false⟩) (x := vi x1) (y := none) rfl ents12 (laws_szOpS_run aALog 1048576 _ hx1) rfl (by intro hc; cases hc)) ?_
  refine SRun.ck tbokGC 1 ⟨117, [(0, vl eOp aALog), (1, vi aAOffice), (2, vs aAKey), (3, vs aAText), (9, vi x1)], []⟩ ?_
  refine SRun.nil ?_
  refine nx_n ?_
  refine swp_seq ?_
  refine swp_seq ?_
  refine swp_reg ?_
  refine SRun.ck tbokGC 2 ⟨117, [(0, vl eOp aALog), (1, vi aAOffice), (2, vs aAKey), (3, vs aAText), (30, vb (decide (x1 < 0)))], []⟩ ?_
  refine SRun.nil ?_
  refine nx_n ?_
  refine swp_cond (b := (decide (x1 < 0))) (by kernel_rfl) (fun hb => ?_) (fun hb => ?_)
  replace h := cond_t hb h
  refine swp_seq ?_
  refine swp_reg ?_
  refine SRun.ck tbokGC 1 ⟨117, [(8, vb true)], []⟩ ?_
  refine SRun.nil ?_
  refine nx_n ?_
  refine swp_ret ?_
  replace h := Option.some.inj h
  subst h
  exact nx_r (q_fr (fin1 (by kernel_rfl) (finV rfl SV.flat_of (holds_t (by kernel_rfl)))))
  replace h := cond_f hb h
  refine swp_skip ?_
  refine nx_n ?_
  refine swp_seq ?_
  refine swp_reg ?_
  refine SRun.ck tbokGC 1 ⟨117, [(0, vl eOp aALog), (1, vi aAOffice), (2, vs aAKey), (3, vs aAText), (32, vl eOp aALog)], []⟩ ?_
  obtain ⟨x2, hx2, h⟩ := bind_some h
  refine SRun.ls (x_lstep_call (f := 14) (caps := []) (xs := [vl eOp aALog]) (ys := [vl eOp aALog]) (res := ⟨[.deep 61 5 x2.length [.flat, .flat, .flat, .flat, (.sl 2 1 [.flat])] (x2.map eOp)], [], false⟩) (x := .own 33) (y := some (.deep 61 5 x2.length [.flat, .flat, .flat, .flat, (.sl 2 1 [.flat])] (x2.map eOp))) rfl ents14 (laws_toOpS_run aALog _ hx2) rfl (by intro hc; cases hc)) ?_
  refine SRun.ck tbokGC 3 ⟨117, [(0, vl eOp aALog), (1, vi aAOffice), (2, vs aAKey), (3, vs aAText), (33, .own 33), (34, vi aAOffice), (35, vs aAKey), (36, vs aAText)], [(33, .deep 61 5 x2.length [.flat, .flat, .flat, .flat, (.sl 2 1 [.flat])] (x2.map eOp))]⟩ ?_
  obtain ⟨x3, hx3, h⟩ := bind_some h
  refine SRun.ls (x_lstep_call (f := 32) (caps := []) (xs := [.own 33, vi aAOffice, vs aAKey, vs aAText]) (ys := [vl eOp x2, vi aAOffice, vs aAKey, vs aAText]) (res := ⟨[.deep 61 5 x3.1.length [.flat, .flat, .flat, .flat, (.sl 2 1 [.flat])] (x3.1.map eOp), .v (vi x3.2)], [], false⟩) (x := .tup [.own 37, vi x3.2]) (y := some (.deep 61 5 x3.1.length [.flat, .flat, .flat, .flat, (.sl 2 1 [.flat])] (x3.1.map eOp))) rfl ents32 (spec_MakeOp_run x2 aAOffice aAKey aAText _ hx3) rfl (by intro hc; cases hc)) ?_
  refine SRun.ck tbokGC 5 ⟨117, [(0, vl eOp aALog), (1, vi aAOffice), (2, vs aAKey), (3, vs aAText), (10, .own 37), (11, vi x3.2)], [(37, .deep 61 5 x3.1.length [.flat, .flat, .flat, .flat, (.sl 2 1 [.flat])] (x3.1.map eOp))]⟩ ?_
  refine SRun.nil ?_
  refine nx_n ?_
  refine swp_seq ?_
  refine swp_reg ?_
  refine SRun.ck tbokGC 1 ⟨117, [(0, vl eOp aALog), (1, vi aAOffice), (2, vs aAKey), (3, vs aAText), (10, .own 37), (11, vi x3.2), (40, vl eOp aALog)], [(37, .deep 61 5 x3.1.length [.flat, .flat, .flat, .flat, (.sl 2 1 [.flat])] (x3.1.map eOp))]⟩ ?_
  obtain ⟨x4, hx4, h⟩ := bind_some h
  refine SRun.ls (x_lstep_call (f := 14) (caps := []) (xs := [vl eOp aALog]) (ys := [vl eOp aALog]) (res := ⟨[.deep 61 5 x4.length [.flat, .flat, .flat, .flat, (.sl 2 1 [.flat])] (x4.map eOp)], [], false⟩) (x := .own 41) (y := some (.deep 61 5 x4.length [.flat, .flat, .flat, .flat, (.sl 2 1 [.flat])] (x4.map eOp))) rfl ents14 (laws_toOpS_run aALog _ hx4) rfl (by intro hc; cases hc)) ?_
  refine SRun.ck tbokGC 1 ⟨117, [(0, vl eOp aALog), (1, vi aAOffice), (2, vs aAKey), (3, vs aAText), (10, .own 37), (11, vi x3.2), (12, .own 41)], [(37, .deep 61 5 x3.1.length [.flat, .flat, .flat, .flat, (.sl 2 1 [.flat])] (x3.1.map eOp)), (41, .deep 61 5 x4.length [.flat, .flat, .flat, .flat, (.sl 2 1 [.flat])] (x4.map eOp))]⟩ ?_
  refine SRun.nil ?_
  refine nx_n ?_
  refine swp_seq ?_
  refine swp_reg ?_
  refine SRun.ck tbokGC 4 ⟨117, [(0, vl eOp aALog), (1, vi aAOffice), (2, vs aAKey), (3, vs aAText), (10, .own 37), (11, vi x3.2), (12, .own 41), (43, .own 41), (44, vi aAOffice), (45, vs aAKey), (46, vs aAText)], [(37, .deep 61 5 x3.1.length [.flat, .flat, .flat, .flat, (.sl 2 1 [.flat])] (x3.1.map eOp)), (41, .deep 61 5 x4.length [.flat, .flat, .flat, .flat, (.sl 2 1 [.flat])] (x4.map eOp))]⟩ ?_
  obtain ⟨x5, hx5, h⟩ := bind_some h
  refine SRun.ls (x_lstep_call (f := 33) (caps := []) (xs := [.own 41, vi aAOffice, vs aAKey, vs aAText]) (ys := [vl eOp x4, vi aAOffice, vs aAKey, vs aAText]) (res := ⟨[.deep 61 5 x5.1.length [.flat, .flat, .flat, .flat, (.sl 2 1 [.flat])] (x5.1.map eOp), .v (vi x5.2)], [], false⟩) (x := .tup [.own 47, vi x5.2]) (y := some (.deep 61 5 x5.1.length [.flat, .flat, .flat, .flat, (.sl 2 1 [.flat])] (x5.1.map eOp))) rfl ents33 (impl_MakeOp_run x4 aAOffice aAKey aAText _ hx5) rfl (by intro hc; cases hc)) ?_
  refine SRun.ck tbokGC 5 ⟨117, [(0, vl eOp aALog), (1, vi aAOffice), (2, vs aAKey), (3, vs aAText), (10, .own 37), (11, vi x3.2), (12, .own 41), (13, .own 47), (14, vi x5.2)], [(37, .deep 61 5 x3.1.length [.flat, .flat, .flat, .flat, (.sl 2 1 [.flat])] (x3.1.map eOp)), (41, .deep 61 5 x4.length [.flat, .flat, .flat, .flat, (.sl 2 1 [.flat])] (x4.map eOp)), (47, .deep 61 5 x5.1.length [.flat, .flat, .flat, .flat, (.sl 2 1 [.flat])] (x5.1.map eOp))]⟩ ?_
  refine SRun.nil ?_
  refine nx_n ?_
  refine swp_seq ?_
  refine swp_seq ?_
  refine swp_regJ h (fun j7 => ⟨117, [(0, vl eOp aALog), (1, vi aAOffice), (2, vs aAKey), (3, vs aAText), (10, .own 10), (11, vi x3.2), (12, .own 12), (13, .own 13), (14, vi x5.2), (58, vb j7)], [(10, .deep 61 5 x3.1.length [.flat, .flat, .flat, .flat, (.sl 2 1 [.flat])] (x3.1.map eOp)), (12, .deep 61 5 x4.length [.flat, .flat, .flat, .flat, (.sl 2 1 [.flat])] (x4.map eOp)), (13, .deep 61 5 x5.1.length [.flat, .flat, .flat, .flat, (.sl 2 1 [.flat])] (x5.1.map eOp))]⟩) (fun v8 h => ?_) (fun j7 h => ?_)
  refine SRun.ck tbokGC 2 ⟨117, [(0, vl eOp aALog), (1, vi aAOffice), (2, vs aAKey), (3, vs aAText), (10, .own 37), (11, vi x3.2), (12, .own 41), (13, .own 47), (14, vi x5.2), (50, .own 47), (51, .own 37)], [(37, .deep 61 5 x3.1.length [.flat, .flat, .flat, .flat, (.sl 2 1 [.flat])] (x3.1.map eOp)), (41, .deep 61 5 x4.length [.flat, .flat, .flat, .flat, (.sl 2 1 [.flat])] (x4.map eOp)), (47, .deep 61 5 x5.1.length [.flat, .flat, .flat, .flat, (.sl 2 1 [.flat])] (x5.1.map eOp))]⟩ ?_
  obtain ⟨x6, hx6, h⟩ := bind_some h
  refine SRun.ls (x_lstep_call (f := 16) (caps := []) (xs := [.own 47, .own 37]) (ys := [vl eOp x5.1, vl eOp x3.1]) (res := ⟨[.v (vb x6)], [], false⟩) (x := vb x6) (y := none) rfl ents16 (laws_eqOpS_run x5.1 x3.1 _ hx6) rfl (by intro hc; cases hc)) ?_
  refine SRun.ck tbokGC 2 ⟨117, [(0, vl eOp aALog), (1, vi aAOffice), (2, vs aAKey), (3, vs aAText), (10, .own 37), (11, vi x3.2), (12, .own 41), (13, .own 47), (14, vi x5.2), (54, vb (!x6))], [(37, .deep 61 5 x3.1.length [.flat, .flat, .flat, .flat, (.sl 2 1 [.flat])] (x3.1.map eOp)), (41, .deep 61 5 x4.length [.flat, .flat, .flat, .flat, (.sl 2 1 [.flat])] (x4.map eOp)), (47, .deep 61 5 x5.1.length [.flat, .flat, .flat, .flat, (.sl 2 1 [.flat])] (x5.1.map eOp))]⟩ ?_
  refine SRun.cut [(54, fun b => b)] (b := (!x6)) (by kernel_rfl) (fun hb => ?_) (fun hb => ?_)
  replace h := cond_t hb h
  refine SRun.ck tbokGC 4 ⟨117, [(0, vl eOp aALog), (1, vi aAOffice), (2, vs aAKey), (3, vs aAText), (10, .own 37), (11, vi x3.2), (12, .own 41), (13, .own 47), (14, vi x5.2), (58, vb true)], [(37, .deep 61 5 x3.1.length [.flat, .flat, .flat, .flat, (.sl 2 1 [.flat])] (x3.1.map eOp)), (41, .deep 61 5 x4.length [.flat, .flat, .flat, .flat, (.sl 2 1 [.flat])] (x4.map eOp)), (47, .deep 61 5 x5.1.length [.flat, .flat, .flat, .flat, (.sl 2 1 [.flat])] (x5.1.map eOp))]⟩ ?_
  refine SRun.nil ?_
  replace h := Option.some.inj h
  subst h
  exact (Le.sub' ([(0, vl eOp aALog), (1, vi aAOffice), (2, vs aAKey), (3, vs aAText), (10, .own 37), (11, vi x3.2), (12, .own 41), (13, .own 47), (14, vi x5.2), (58, vb true)] : List (Nat × SV)) ([(37, .deep 61 5 x3.1.length [.flat, .flat, .flat, .flat, (.sl 2 1 [.flat])] (x3.1.map eOp)), (41, .deep 61 5 x4.length [.flat, .flat, .flat, .flat, (.sl 2 1 [.flat])] (x4.map eOp)), (47, .deep 61 5 x5.1.length [.flat, .flat, .flat, .flat, (.sl 2 1 [.flat])] (x5.1.map eOp))] : List (Nat × SO)) (by kernel_rfl) (by kernel_rfl)).trans ((Le.ren' (d := 37) (e := 10) (by kernel_rfl) (by kernel_rfl) (by kernel_rfl)).trans ((Le.ren' (d := 41) (e := 12) (by kernel_rfl) (by kernel_rfl) (by kernel_rfl)).trans ((Le.ren' (d := 47) (e := 13) (by kernel_rfl) (by kernel_rfl) (by kernel_rfl)).trans (Le.sub0))))
  replace h := cond_f hb h
  refine SRun.ck tbokGC 4 ⟨117, [(0, vl eOp aALog), (1, vi aAOffice), (2, vs aAKey), (3, vs aAText), (10, .own 37), (11, vi x3.2), (12, .own 41), (13, .own 47), (14, vi x5.2), (58, vb (x5.2 != x3.2))], [(37, .deep 61 5 x3.1.length [.flat, .flat, .flat, .flat, (.sl 2 1 [.flat])] (x3.1.map eOp)), (41, .deep 61 5 x4.length [.flat, .flat, .flat, .flat, (.sl 2 1 [.flat])] (x4.map eOp)), (47, .deep 61 5 x5.1.length [.flat, .flat, .flat, .flat, (.sl 2 1 [.flat])] (x5.1.map eOp))]⟩ ?_
  refine SRun.nil ?_
  replace h := Option.some.inj h
  subst h
  exact (Le.sub' ([(0, vl eOp aALog), (1, vi aAOffice), (2, vs aAKey), (3, vs aAText), (10, .own 37), (11, vi x3.2), (12, .own 41), (13, .own 47), (14, vi x5.2), (58, vb (x5.2 != x3.2))] : List (Nat × SV)) ([(37, .deep 61 5 x3.1.length [.flat, .flat, .flat, .flat, (.sl 2 1 [.flat])] (x3.1.map eOp)), (41, .deep 61 5 x4.length [.flat, .flat, .flat, .flat, (.sl 2 1 [.flat])] (x4.map eOp)), (47, .deep 61 5 x5.1.length [.flat, .flat, .flat, .flat, (.sl 2 1 [.flat])] (x5.1.map eOp))] : List (Nat × SO)) (by kernel_rfl) (by kernel_rfl)).trans ((Le.ren' (d := 37) (e := 10) (by kernel_rfl) (by kernel_rfl) (by kernel_rfl)).trans ((Le.ren' (d := 41) (e := 12) (by kernel_rfl) (by kernel_rfl) (by kernel_rfl)).trans ((Le.ren' (d := 47) (e := 13) (by kernel_rfl) (by kernel_rfl) (by kernel_rfl)).trans (Le.sub0))))
  refine swp_cond (b := j7) (by kernel_rfl) (fun hb => ?_) (fun hb => ?_)
  replace h := cond_t hb h
  refine swp_seq ?_
  refine swp_reg ?_
  refine SRun.ck tbokGC 1 ⟨117, [(8, vb false)], []⟩ ?_
  refine SRun.nil ?_
  refine nx_n ?_
  refine swp_ret ?_
  replace h := Option.some.inj h
  subst h
  exact nx_r (q_fr (fin1 (by kernel_rfl) (finV rfl SV.flat_of (holds_t (by kernel_rfl)))))
  replace h := cond_f hb h
  refine swp_skip ?_
  refine nx_n ?_
  refine swp_seq ?_
  refine swp_seq ?_
  refine swp_reg ?_
  refine SRun.ck tbokGC 2 ⟨117, [(0, vl eOp aALog), (1, vi aAOffice), (2, vs aAKey), (3, vs aAText), (10, .own 10), (11, vi x3.2), (12, .own 12), (13, .own 13), (14, vi x5.2), (59, .own 12), (60, vl eOp aALog)], [(10, .deep 61 5 x3.1.length [.flat, .flat, .flat, .flat, (.sl 2 1 [.flat])] (x3.1.map eOp)), (12, .deep 61 5 x4.length [.flat, .flat, .flat, .flat, (.sl 2 1 [.flat])] (x4.map eOp)), (13, .deep 61 5 x5.1.length [.flat, .flat, .flat, .flat, (.sl 2 1 [.flat])] (x5.1.map eOp))]⟩ ?_
  obtain ⟨x9, hx9, h⟩ := bind_some h
  refine SRun.ls (x_lstep_call (f := 14) (caps := []) (xs := [vl eOp aALog]) (ys := [vl eOp aALog]) (res := ⟨[.deep 61 5 x9.length [.flat, .flat, .flat, .flat, (.sl 2 1 [.flat])] (x9.map eOp)], [], false⟩) (x := .own 61) (y := some (.deep 61 5 x9.length [.flat, .flat, .flat, .flat, (.sl 2 1 [.flat])] (x9.map eOp))) rfl ents14 (laws_toOpS_run aALog _ hx9) rfl (by intro hc; cases hc)) ?_
  obtain ⟨x10, hx10, h⟩ := bind_some h
  refine SRun.ls (x_lstep_call (f := 16) (caps := []) (xs := [.own 12, .own 61]) (ys := [vl eOp x4, vl eOp x9]) (res := ⟨[.v (vb x10)], [], false⟩) (x := vb x10) (y := none) rfl ents16 (laws_eqOpS_run x4 x9 _ hx10) rfl (by intro hc; cases hc)) ?_
  refine SRun.ck tbokGC 1 ⟨117, [(0, vl eOp aALog), (1, vi aAOffice), (2, vs aAKey), (3, vs aAText), (10, .own 10), (11, vi x3.2), (12, .own 12), (13, .own 13), (14, vi x5.2), (63, vb (!x10))], [(10, .deep 61 5 x3.1.length [.flat, .flat, .flat, .flat, (.sl 2 1 [.flat])] (x3.1.map eOp)), (12, .deep 61 5 x4.length [.flat, .flat, .flat, .flat, (.sl 2 1 [.flat])] (x4.map eOp)), (13, .deep 61 5 x5.1.length [.flat, .flat, .flat, .flat, (.sl 2 1 [.flat])] (x5.1.map eOp))]⟩ ?_
  refine SRun.nil ?_
  refine nx_n ?_
  refine swp_cond (b := (!x10)) (by kernel_rfl) (fun hb => ?_) (fun hb => ?_)
  replace h := cond_t hb h
  refine swp_seq ?_
  refine swp_reg ?_
  refine SRun.ck tbokGC 1 ⟨117, [(8, vb false)], []⟩ ?_
  refine SRun.nil ?_
  refine nx_n ?_
  refine swp_ret ?_
  replace h := Option.some.inj h
  subst h
  exact nx_r (q_fr (fin1 (by kernel_rfl) (finV rfl SV.flat_of (holds_t (by kernel_rfl)))))
  replace h := cond_f hb h
  refine swp_skip ?_
  refine nx_n ?_
  refine swp_seq ?_
  refine swp_reg ?_
  refine SRun.ck tbokGC 1 ⟨117, [(0, vl eOp aALog), (1, vi aAOffice), (2, vs aAKey), (3, vs aAText), (10, .own 10), (11, vi x3.2), (12, .own 12), (13, .own 13), (14, vi x5.2), (15, vi 1)], [(10, .deep 61 5 x3.1.length [.flat, .flat, .flat, .flat, (.sl 2 1 [.flat])] (x3.1.map eOp)), (12, .deep 61 5 x4.length [.flat, .flat, .flat, .flat, (.sl 2 1 [.flat])] (x4.map eOp)), (13, .deep 61 5 x5.1.length [.flat, .flat, .flat, .flat, (.sl 2 1 [.flat])] (x5.1.map eOp))]⟩ ?_
  refine SRun.nil ?_
  refine nx_n ?_
  refine swp_seq ?_
  refine swp_reg ?_
  refine SRun.ck tbokGC 2 ⟨117, [(0, vl eOp aALog), (1, vi aAOffice), (2, vs aAKey), (3, vs aAText), (10, .own 10), (11, vi x3.2), (13, .own 13), (14, vi x5.2), (64, .own 12), (65, vi 1)], [(10, .deep 61 5 x3.1.length [.flat, .flat, .flat, .flat, (.sl 2 1 [.flat])] (x3.1.map eOp)), (12, .deep 61 5 x4.length [.flat, .flat, .flat, .flat, (.sl 2 1 [.flat])] (x4.map eOp)), (13, .deep 61 5 x5.1.length [.flat, .flat, .flat, .flat, (.sl 2 1 [.flat])] (x5.1.map eOp))]⟩ ?_
  obtain ⟨x11, hx11, h⟩ := bind_some h
  refine SRun.estep (x_estep_call (f := 22) (caps := []) (xs := [.own 12, vi 1]) (pre := []) (post := [vi 1]) (qs := [vi 1]) (z := .own 12) (d := 12) (pl := 0) (y := .deep 61 5 x4.length [.flat, .flat, .flat, .flat, (.sl 2 1 [.flat])] (x4.map eOp)) (y' := .deep 61 5 x11.2.length [.flat, .flat, .flat, .flat, (.sl 2 1 [.flat])] (x11.2.map eOp)) (res := ⟨[.v (vi x11.1)], [(0, .deep 61 5 x11.2.length [.flat, .flat, .flat, .flat, (.sl 2 1 [.flat])] (x11.2.map eOp))], false⟩) (x := vi x11.1) (yo := none) rfl rfl rfl rfl rfl ents22 (laws_markOpS_run x4 1 _ hx11) rfl rfl false (fun _ => rfl) (by intro hc; cases hc)) ?_
  refine SRun.ck tbokGC 1 ⟨117, [(0, vl eOp aALog), (1, vi aAOffice), (2, vs aAKey), (3, vs aAText), (10, .own 10), (11, vi x3.2), (13, .own 13), (14, vi x5.2), (15, vi x11.1)], [(10, .deep 61 5 x3.1.length [.flat, .flat, .flat, .flat, (.sl 2 1 [.flat])] (x3.1.map eOp)), (13, .deep 61 5 x5.1.length [.flat, .flat, .flat, .flat, (.sl 2 1 [.flat])] (x5.1.map eOp))]⟩ ?_
  refine SRun.nil ?_
  refine nx_n ?_
  refine swp_seq ?_
  refine swp_seq ?_
  refine swp_regJ h (fun j13 => ⟨117, [(0, vl eOp aALog), (1, vi aAOffice), (2, vs aAKey), (3, vs aAText), (10, .own 10), (11, vi x3.2), (13, .own 13), (79, vb j13)], [(10, .deep 61 5 x3.1.length [.flat, .flat, .flat, .flat, (.sl 2 1 [.flat])] (x3.1.map eOp)), (13, .deep 61 5 x5.1.length [.flat, .flat, .flat, .flat, (.sl 2 1 [.flat])] (x5.1.map eOp))]⟩) (fun v14 h => ?_) (fun j13 h => ?_)
  refine SRun.ck tbokGC 3 ⟨117, [(0, vl eOp aALog), (1, vi aAOffice), (2, vs aAKey), (3, vs aAText), (10, .own 10), (11, vi x3.2), (13, .own 13), (14, vi x5.2), (69, vb (decide (x11.1 < 0)))], [(10, .deep 61 5 x3.1.length [.flat, .flat, .flat, .flat, (.sl 2 1 [.flat])] (x3.1.map eOp)), (13, .deep 61 5 x5.1.length [.flat, .flat, .flat, .flat, (.sl 2 1 [.flat])] (x5.1.map eOp))]⟩ ?_
  refine SRun.cut [(69, fun b => b)] (b := (decide (x11.1 < 0))) (by kernel_rfl) (fun hb => ?_) (fun hb => ?_)
  replace h := cond_t hb h
  refine SRun.ck tbokGC 10 ⟨117, [(0, vl eOp aALog), (1, vi aAOffice), (2, vs aAKey), (3, vs aAText), (10, .own 10), (11, vi x3.2), (13, .own 13), (79, vb true)], [(10, .deep 61 5 x3.1.length [.flat, .flat, .flat, .flat, (.sl 2 1 [.flat])] (x3.1.map eOp)), (13, .deep 61 5 x5.1.length [.flat, .flat, .flat, .flat, (.sl 2 1 [.flat])] (x5.1.map eOp))]⟩ ?_
  refine SRun.nil ?_
  replace h := Option.some.inj h
  subst h
  exact Le.sub0
  replace h := cond_f hb h
  refine SRun.ck tbokGC 2 ⟨117, [(0, vl eOp aALog), (1, vi aAOffice), (2, vs aAKey), (3, vs aAText), (10, .own 10), (11, vi x3.2), (13, .own 13), (14, vi x5.2), (69, vb false), (70, .own 13), (71, .own 10)], [(10, .deep 61 5 x3.1.length [.flat, .flat, .flat, .flat, (.sl 2 1 [.flat])] (x3.1.map eOp)), (13, .deep 61 5 x5.1.length [.flat, .flat, .flat, .flat, (.sl 2 1 [.flat])] (x5.1.map eOp))]⟩ ?_
  obtain ⟨x12, hx12, h⟩ := bind_some h
  refine SRun.ls (x_lstep_call (f := 16) (caps := []) (xs := [.own 13, .own 10]) (ys := [vl eOp x5.1, vl eOp x3.1]) (res := ⟨[.v (vb x12)], [], false⟩) (x := vb x12) (y := none) rfl ents16 (laws_eqOpS_run x5.1 x3.1 _ hx12) rfl (by intro hc; cases hc)) ?_
  refine SRun.ck tbokGC 3 ⟨117, [(0, vl eOp aALog), (1, vi aAOffice), (2, vs aAKey), (3, vs aAText), (10, .own 10), (11, vi x3.2), (13, .own 13), (14, vi x5.2), (75, vb (!x12))], [(10, .deep 61 5 x3.1.length [.flat, .flat, .flat, .flat, (.sl 2 1 [.flat])] (x3.1.map eOp)), (13, .deep 61 5 x5.1.length [.flat, .flat, .flat, .flat, (.sl 2 1 [.flat])] (x5.1.map eOp))]⟩ ?_
  refine SRun.cut [(75, fun b => b)] (b := (!x12)) (by kernel_rfl) (fun hb => ?_) (fun hb => ?_)
  replace h := cond_t hb h
  refine SRun.ck tbokGC 4 ⟨117, [(0, vl eOp aALog), (1, vi aAOffice), (2, vs aAKey), (3, vs aAText), (10, .own 10), (11, vi x3.2), (13, .own 13), (79, vb true)], [(10, .deep 61 5 x3.1.length [.flat, .flat, .flat, .flat, (.sl 2 1 [.flat])] (x3.1.map eOp)), (13, .deep 61 5 x5.1.length [.flat, .flat, .flat, .flat, (.sl 2 1 [.flat])] (x5.1.map eOp))]⟩ ?_
  refine SRun.nil ?_
  replace h := Option.some.inj h
  subst h
  exact Le.sub0
  replace h := cond_f hb h
  refine SRun.ck tbokGC 4 ⟨117, [(0, vl eOp aALog), (1, vi aAOffice), (2, vs aAKey), (3, vs aAText), (10, .own 10), (11, vi x3.2), (13, .own 13), (79, vb (x5.2 != x3.2))], [(10, .deep 61 5 x3.1.length [.flat, .flat, .flat, .flat, (.sl 2 1 [.flat])] (x3.1.map eOp)), (13, .deep 61 5 x5.1.length [.flat, .flat, .flat, .flat, (.sl 2 1 [.flat])] (x5.1.map eOp))]⟩ ?_
  refine SRun.nil ?_
  replace h := Option.some.inj h
  subst h
  exact Le.sub0
  refine swp_cond (b := j13) (by kernel_rfl) (fun hb => ?_) (fun hb => ?_)
  replace h := cond_t hb h
  refine swp_seq ?_
  refine swp_reg ?_
  refine SRun.ck tbokGC 1 ⟨117, [(8, vb false)], []⟩ ?_
  refine SRun.nil ?_
  refine nx_n ?_
  refine swp_ret ?_
  replace h := Option.some.inj h
  subst h
  exact nx_r (q_fr (fin1 (by kernel_rfl) (finV rfl SV.flat_of (holds_t (by kernel_rfl)))))
  replace h := cond_f hb h
  refine swp_skip ?_
  refine nx_n ?_
  refine swp_seq ?_
  refine swp_reg ?_
  refine SRun.ck tbokGC 1 ⟨117, [(0, vl eOp aALog), (1, vi aAOffice), (2, vs aAKey), (3, vs aAText), (10, .own 10), (11, vi x3.2), (13, .own 13), (16, vi 1)], [(10, .deep 61 5 x3.1.length [.flat, .flat, .flat, .flat, (.sl 2 1 [.flat])] (x3.1.map eOp)), (13, .deep 61 5 x5.1.length [.flat, .flat, .flat, .flat, (.sl 2 1 [.flat])] (x5.1.map eOp))]⟩ ?_
  refine SRun.nil ?_
  refine nx_n ?_
  refine swp_seq ?_
  refine swp_reg ?_
  refine SRun.ck tbokGC 2 ⟨117, [(0, vl eOp aALog), (1, vi aAOffice), (2, vs aAKey), (3, vs aAText), (10, .own 10), (11, vi x3.2), (13, .own 13), (80, .own 13), (81, vi 1)], [(10, .deep 61 5 x3.1.length [.flat, .flat, .flat, .flat, (.sl 2 1 [.flat])] (x3.1.map eOp)), (13, .deep 61 5 x5.1.length [.flat, .flat, .flat, .flat, (.sl 2 1 [.flat])] (x5.1.map eOp))]⟩ ?_
  obtain ⟨x15, hx15, h⟩ := bind_some h
  refine SRun.estep (x_estep_call (f := 22) (caps := []) (xs := [.own 13, vi 1]) (pre := []) (post := [vi 1]) (qs := [vi 1]) (z := .own 13) (d := 13) (pl := 0) (y := .deep 61 5 x5.1.length [.flat, .flat, .flat, .flat, (.sl 2 1 [.flat])] (x5.1.map eOp)) (y' := .deep 61 5 x15.2.length [.flat, .flat, .flat, .flat, (.sl 2 1 [.flat])] (x15.2.map eOp)) (res := ⟨[.v (vi x15.1)], [(0, .deep 61 5 x15.2.length [.flat, .flat, .flat, .flat, (.sl 2 1 [.flat])] (x15.2.map eOp))], false⟩) (x := vi x15.1) (yo := none) rfl rfl rfl rfl rfl ents22 (laws_markOpS_run x5.1 1 _ hx15) rfl rfl false (fun _ => rfl) (by intro hc; cases hc)) ?_
  refine SRun.ck tbokGC 1 ⟨117, [(0, vl eOp aALog), (1, vi aAOffice), (2, vs aAKey), (3, vs aAText), (10, .own 10), (11, vi x3.2), (13, .own 13), (16, vi x15.1)], [(10, .deep 61 5 x3.1.length [.flat, .flat, .flat, .flat, (.sl 2 1 [.flat])] (x3.1.map eOp)), (13, .deep 61 5 x15.2.length [.flat, .flat, .flat, .flat, (.sl 2 1 [.flat])] (x15.2.map eOp))]⟩ ?_
  refine SRun.nil ?_
  refine nx_n ?_
  refine swp_seq ?_
  refine swp_reg ?_
  refine SRun.ck tbokGC 1 ⟨117, [(0, vl eOp aALog), (1, vi aAOffice), (2, vs aAKey), (3, vs aAText), (10, .own 10), (11, vi x3.2), (13, .own 13), (16, vi x15.1), (17, vi 1)], [(10, .deep 61 5 x3.1.length [.flat, .flat, .flat, .flat, (.sl 2 1 [.flat])] (x3.1.map eOp)), (13, .deep 61 5 x15.2.length [.flat, .flat, .flat, .flat, (.sl 2 1 [.flat])] (x15.2.map eOp))]⟩ ?_
  refine SRun.nil ?_
  refine nx_n ?_
  refine swp_seq ?_
  refine swp_reg ?_
  refine SRun.ck tbokGC 2 ⟨117, [(0, vl eOp aALog), (1, vi aAOffice), (2, vs aAKey), (3, vs aAText), (10, .own 10), (11, vi x3.2), (13, .own 13), (16, vi x15.1), (83, .own 13), (84, vi 1)], [(10, .deep 61 5 x3.1.length [.flat, .flat, .flat, .flat, (.sl 2 1 [.flat])] (x3.1.map eOp)), (13, .deep 61 5 x15.2.length [.flat, .flat, .flat, .flat, (.sl 2 1 [.flat])] (x15.2.map eOp))]⟩ ?_
  obtain ⟨x16, hx16, h⟩ := bind_some h
  refine SRun.ls (x_lstep_call (f := 34) (caps := []) (xs := [.own 13, vi 1]) (ys := [vl eOp x15.2, vi 1]) (res := ⟨[.v (vi x16)], [], false⟩) (x := vi x16) (y := none) rfl ents34 (laws_heldOpS_run x15.2 1 _ hx16) rfl (by intro hc; cases hc)) ?_
  refine SRun.ck tbokGC 1 ⟨117, [(0, vl eOp aALog), (1, vi aAOffice), (2, vs aAKey), (3, vs aAText), (10, .own 10), (11, vi x3.2), (13, .own 13), (16, vi x15.1), (17, vi x16)], [(10, .deep 61 5 x3.1.length [.flat, .flat, .flat, .flat, (.sl 2 1 [.flat])] (x3.1.map eOp)), (13, .deep 61 5 x15.2.length [.flat, .flat, .flat, .flat, (.sl 2 1 [.flat])] (x15.2.map eOp))]⟩ ?_
  refine SRun.nil ?_
  refine nx_n ?_
  refine swp_seq ?_
  refine swp_seq ?_
  refine swp_reg ?_
  refine SRun.ck tbokGC 2 ⟨117, [(0, vl eOp aALog), (1, vi aAOffice), (2, vs aAKey), (3, vs aAText), (10, .own 10), (11, vi x3.2), (13, .own 13), (16, vi x15.1), (17, vi x16), (87, vb (decide (x16 < 0)))], [(10, .deep 61 5 x3.1.length [.flat, .flat, .flat, .flat, (.sl 2 1 [.flat])] (x3.1.map eOp)), (13, .deep 61 5 x15.2.length [.flat, .flat, .flat, .flat, (.sl 2 1 [.flat])] (x15.2.map eOp))]⟩ ?_
  refine SRun.nil ?_
  refine nx_n ?_
  refine swp_cond (b := (decide (x16 < 0))) (by kernel_rfl) (fun hb => ?_) (fun hb => ?_)
  replace h := cond_t hb h
  refine swp_seq ?_
  refine swp_reg ?_
  refine SRun.ck tbokGC 1 ⟨117, [(8, vb false)], []⟩ ?_
  refine SRun.nil ?_
  refine nx_n ?_
  refine swp_ret ?_
  replace h := Option.some.inj h
  subst h
  exact nx_r (q_fr (fin1 (by kernel_rfl) (finV rfl SV.flat_of (holds_t (by kernel_rfl)))))
  replace h := cond_f hb h
  refine swp_skip ?_
  refine nx_n ?_
  refine swp_seq ?_
  refine swp_seq ?_
  refine swp_reg ?_
  refine SRun.ck tbokGC 3 ⟨117, [(0, vl eOp aALog), (1, vi aAOffice), (2, vs aAKey), (3, vs aAText), (10, .own 10), (11, vi x3.2), (13, .own 13), (16, vi x15.1), (90, vb (x16 != x15.1))], [(10, .deep 61 5 x3.1.length [.flat, .flat, .flat, .flat, (.sl 2 1 [.flat])] (x3.1.map eOp)), (13, .deep 61 5 x15.2.length [.flat, .flat, .flat, .flat, (.sl 2 1 [.flat])] (x15.2.map eOp))]⟩ ?_
  refine SRun.nil ?_
  refine nx_n ?_
  refine swp_cond (b := (x16 != x15.1)) (by kernel_rfl) (fun hb => ?_) (fun hb => ?_)
  replace h := cond_t hb h
  refine swp_seq ?_
  refine swp_reg ?_
  refine SRun.ck tbokGC 1 ⟨117, [(8, vb false)], []⟩ ?_
  refine SRun.nil ?_
  refine nx_n ?_
  refine swp_ret ?_
  replace h := Option.some.inj h
  subst h
  exact nx_r (q_fr (fin1 (by kernel_rfl) (finV rfl SV.flat_of (holds_t (by kernel_rfl)))))
  replace h := cond_f hb h
  refine swp_skip ?_
  refine nx_n ?_
  refine swp_seq ?_
  refine swp_reg ?_
  refine SRun.ck tbokGC 1 ⟨117, [(1, vi aAOffice), (2, vs aAKey), (3, vs aAText), (10, .own 10), (11, vi x3.2), (13, .own 13), (16, vi x15.1), (92, vl eOp aALog)], [(10, .deep 61 5 x3.1.length [.flat, .flat, .flat, .flat, (.sl 2 1 [.flat])] (x3.1.map eOp)), (13, .deep 61 5 x15.2.length [.flat, .flat, .flat, .flat, (.sl 2 1 [.flat])] (x15.2.map eOp))]⟩ ?_
  obtain ⟨x17, hx17, h⟩ := bind_some h
  refine SRun.ls (x_lstep_call (f := 14) (caps := []) (xs := [vl eOp aALog]) (ys := [vl eOp aALog]) (res := ⟨[.deep 61 5 x17.length [.flat, .flat, .flat, .flat, (.sl 2 1 [.flat])] (x17.map eOp)], [], false⟩) (x := .own 93) (y := some (.deep 61 5 x17.length [.flat, .flat, .flat, .flat, (.sl 2 1 [.flat])] (x17.map eOp))) rfl ents14 (laws_toOpS_run aALog _ hx17) rfl (by intro hc; cases hc)) ?_
  refine SRun.ck tbokGC 3 ⟨117, [(10, .own 10), (11, vi x3.2), (13, .own 13), (16, vi x15.1), (93, .own 93), (94, vi aAOffice), (95, vs aAKey), (96, vs aAText)], [(10, .deep 61 5 x3.1.length [.flat, .flat, .flat, .flat, (.sl 2 1 [.flat])] (x3.1.map eOp)), (13, .deep 61 5 x15.2.length [.flat, .flat, .flat, .flat, (.sl 2 1 [.flat])] (x15.2.map eOp)), (93, .deep 61 5 x17.length [.flat, .flat, .flat, .flat, (.sl 2 1 [.flat])] (x17.map eOp))]⟩ ?_
  obtain ⟨x18, hx18, h⟩ := bind_some h
  refine SRun.ls (x_lstep_call (f := 33) (caps := []) (xs := [.own 93, vi aAOffice, vs aAKey, vs aAText]) (ys := [vl eOp x17, vi aAOffice, vs aAKey, vs aAText]) (res := ⟨[.deep 61 5 x18.1.length [.flat, .flat, .flat, .flat, (.sl 2 1 [.flat])] (x18.1.map eOp), .v (vi x18.2)], [], false⟩) (x := .tup [.own 97, vi x18.2]) (y := some (.deep 61 5 x18.1.length [.flat, .flat, .flat, .flat, (.sl 2 1 [.flat])] (x18.1.map eOp))) rfl ents33 (impl_MakeOp_run x17 aAOffice aAKey aAText _ hx18) rfl (by intro hc; cases hc)) ?_
  refine SRun.ck tbokGC 5 ⟨117, [(10, .own 10), (11, vi x3.2), (13, .own 13), (16, vi x15.1), (18, .own 97), (19, vi x18.2)], [(10, .deep 61 5 x3.1.length [.flat, .flat, .flat, .flat, (.sl 2 1 [.flat])] (x3.1.map eOp)), (13, .deep 61 5 x15.2.length [.flat, .flat, .flat, .flat, (.sl 2 1 [.flat])] (x15.2.map eOp)), (97, .deep 61 5 x18.1.length [.flat, .flat, .flat, .flat, (.sl 2 1 [.flat])] (x18.1.map eOp))]⟩ ?_
  refine SRun.nil ?_
  refine nx_n ?_
  refine swp_seq ?_
  refine swp_seq ?_
  refine swp_regJ h (fun j20 => ⟨117, [(13, .own 13), (16, vi x15.1), (108, vb j20)], [(13, .deep 61 5 x15.2.length [.flat, .flat, .flat, .flat, (.sl 2 1 [.flat])] (x15.2.map eOp))]⟩) (fun v21 h => ?_) (fun j20 h => ?_)
  refine SRun.ck tbokGC 2 ⟨117, [(11, vi x3.2), (13, .own 13), (16, vi x15.1), (19, vi x18.2), (100, .own 97), (101, .own 10)], [(10, .deep 61 5 x3.1.length [.flat, .flat, .flat, .flat, (.sl 2 1 [.flat])] (x3.1.map eOp)), (13, .deep 61 5 x15.2.length [.flat, .flat, .flat, .flat, (.sl 2 1 [.flat])] (x15.2.map eOp)), (97, .deep 61 5 x18.1.length [.flat, .flat, .flat, .flat, (.sl 2 1 [.flat])] (x18.1.map eOp))]⟩ ?_
  obtain ⟨x19, hx19, h⟩ := bind_some h
  refine SRun.ls (x_lstep_call (f := 16) (caps := []) (xs := [.own 97, .own 10]) (ys := [vl eOp x18.1, vl eOp x3.1]) (res := ⟨[.v (vb x19)], [], false⟩) (x := vb x19) (y := none) rfl ents16 (laws_eqOpS_run x18.1 x3.1 _ hx19) rfl (by intro hc; cases hc)) ?_
  refine SRun.ck tbokGC 2 ⟨117, [(11, vi x3.2), (13, .own 13), (16, vi x15.1), (19, vi x18.2), (104, vb (!x19))], [(13, .deep 61 5 x15.2.length [.flat, .flat, .flat, .flat, (.sl 2 1 [.flat])] (x15.2.map eOp))]⟩ ?_
  refine SRun.cut [(104, fun b => b)] (b := (!x19)) (by kernel_rfl) (fun hb => ?_) (fun hb => ?_)
  replace h := cond_t hb h
  refine SRun.ck tbokGC 4 ⟨117, [(13, .own 13), (16, vi x15.1), (108, vb true)], [(13, .deep 61 5 x15.2.length [.flat, .flat, .flat, .flat, (.sl 2 1 [.flat])] (x15.2.map eOp))]⟩ ?_
  refine SRun.nil ?_
  replace h := Option.some.inj h
  subst h
  exact Le.sub0
  replace h := cond_f hb h
  refine SRun.ck tbokGC 4 ⟨117, [(13, .own 13), (16, vi x15.1), (108, vb (x18.2 != x3.2))], [(13, .deep 61 5 x15.2.length [.flat, .flat, .flat, .flat, (.sl 2 1 [.flat])] (x15.2.map eOp))]⟩ ?_
  refine SRun.nil ?_
  replace h := Option.some.inj h
  subst h
  exact Le.sub0
  refine swp_cond (b := j20) (by kernel_rfl) (fun hb => ?_) (fun hb => ?_)
  replace h := cond_t hb h
  refine swp_seq ?_
  refine swp_reg ?_
  refine SRun.ck tbokGC 1 ⟨117, [(8, vb false)], []⟩ ?_
  refine SRun.nil ?_
  refine nx_n ?_
  refine swp_ret ?_
  replace h := Option.some.inj h
  subst h
  exact nx_r (q_fr (fin1 (by kernel_rfl) (finV rfl SV.flat_of (holds_t (by kernel_rfl)))))
  replace h := cond_f hb h
  refine swp_skip ?_
  refine nx_n ?_
  refine swp_seq ?_
  refine swp_reg ?_
  refine SRun.ck tbokGC 1 ⟨117, [(13, .own 13), (16, vi x15.1), (17, vi 1)], [(13, .deep 61 5 x15.2.length [.flat, .flat, .flat, .flat, (.sl 2 1 [.flat])] (x15.2.map eOp))]⟩ ?_
  refine SRun.nil ?_
  refine nx_n ?_
  refine swp_seq ?_
  refine swp_reg ?_
  refine SRun.ck tbokGC 2 ⟨117, [(16, vi x15.1), (109, .own 13), (110, vi 1)], [(13, .deep 61 5 x15.2.length [.flat, .flat, .flat, .flat, (.sl 2 1 [.flat])] (x15.2.map eOp))]⟩ ?_
  obtain ⟨x22, hx22, h⟩ := bind_some h
  refine SRun.ls (x_lstep_call (f := 34) (caps := []) (xs := [.own 13, vi 1]) (ys := [vl eOp x15.2, vi 1]) (res := ⟨[.v (vi x22)], [], false⟩) (x := vi x22) (y := none) rfl ents34 (laws_heldOpS_run x15.2 1 _ hx22) rfl (by intro hc; cases hc)) ?_
  refine SRun.ck tbokGC 1 ⟨117, [(16, vi x15.1), (17, vi x22)], []⟩ ?_
  refine SRun.nil ?_
  refine nx_n ?_
  refine swp_seq ?_
  refine swp_seq ?_
  refine swp_reg ?_
  refine SRun.ck tbokGC 2 ⟨117, [(16, vi x15.1), (17, vi x22), (113, vb (decide (x22 < 0)))], []⟩ ?_
  refine SRun.nil ?_
  refine nx_n ?_
  refine swp_cond (b := (decide (x22 < 0))) (by kernel_rfl) (fun hb => ?_) (fun hb => ?_)
  replace h := cond_t hb h
  refine swp_seq ?_
  refine swp_reg ?_
  refine SRun.ck tbokGC 1 ⟨117, [(8, vb false)], []⟩ ?_
  refine SRun.nil ?_
  refine nx_n ?_
  refine swp_ret ?_
  replace h := Option.some.inj h
  subst h
  exact nx_r (q_fr (fin1 (by kernel_rfl) (finV rfl SV.flat_of (holds_t (by kernel_rfl)))))
  replace h := cond_f hb h
  refine swp_skip ?_
  refine nx_n ?_
  refine swp_seq ?_
  refine swp_seq ?_
  refine swp_reg ?_
  refine SRun.ck tbokGC 3 ⟨117, [(116, vb (x22 != x15.1))], []⟩ ?_
  refine SRun.nil ?_
  refine nx_n ?_
  refine swp_cond (b := (x22 != x15.1)) (by kernel_rfl) (fun hb => ?_) (fun hb => ?_)
  replace h := cond_t hb h
  refine swp_seq ?_
  refine swp_reg ?_
  refine SRun.ck tbokGC 1 ⟨117, [(8, vb false)], []⟩ ?_
  refine SRun.nil ?_
  refine nx_n ?_
  refine swp_ret ?_
  replace h := Option.some.inj h
  subst h
  exact nx_r (q_fr (fin1 (by kernel_rfl) (finV rfl SV.flat_of (holds_t (by kernel_rfl)))))
  replace h := cond_f hb h
  refine swp_skip ?_
  refine nx_n ?_
  refine swp_seq ?_
  refine swp_reg ?_
  refine SRun.ck tbokGC 1 ⟨117, [(8, vb true)], []⟩ ?_
  refine SRun.nil ?_
  refine nx_n ?_
  refine swp_ret ?_
  replace h := Option.some.inj h
  subst h
  exact q_fr (fin1 (by kernel_rfl) (finV rfl SV.flat_of (holds_t (by kernel_rfl))))
theorem ents9 : Ents Tryd.prog 9 := ents_of Tryd.func9 (by kernel_rfl) rfl
noncomputable def laws_FnExactMergeLogs (aAA : (List Op)) (aAB : (List Op)) : Option (Bool) :=
  ((laws_szOpS aAA 1048576).bind fun x1 => (bif (decide (x1 < 0)) then some true else ((laws_szOpS aAB x1).bind fun x2 => (bif (decide (x2 < 0)) then some true else ((laws_toOpS aAA).bind fun x3 => ((laws_toOpS aAB).bind fun x4 => ((spec_MergeLogs x3 x4).bind fun x5 => ((laws_toOpS aAA).bind fun x6 => ((laws_toOpS aAB).bind fun x7 => ((impl_MergeLogs x6 x7).bind fun x8 => ((((laws_eqOpS x8.1 x5.1).bind fun x9 => (bif (!x9) then some true else some (x8.2 != x5.2)))).bind fun (j10 : Bool) => (bif j10 then some false else ((laws_toOpS aAA).bind fun x12 => ((laws_eqOpS x6 x12).bind fun x13 => (bif (!x13) then some false else ((laws_toOpS aAB).bind fun x14 => ((laws_eqOpS x7 x14).bind fun x15 => (bif (!x15) then some false else ((laws_markOpS x6 1).bind fun x16 => ((laws_markOpS x7 x16.1).bind fun x17 => (((bif (decide (x17.1 < 0)) then some true else ((laws_eqOpS x8.1 x5.1).bind fun x18 => (bif (!x18) then some true else some (x8.2 != x5.2))))).bind fun (j19 : Bool) => (bif j19 then some false else ((laws_markOpS x8.1 1).bind fun x21 => ((laws_heldOpS x21.2 1).bind fun x22 => (bif (decide (x22 < 0)) then some false else (bif (x22 != x21.1) then some false else ((laws_toOpS aAA).bind fun x23 => ((laws_toOpS aAB).bind fun x24 => ((impl_MergeLogs x23 x24).bind fun x25 => ((((laws_eqOpS x25.1 x5.1).bind fun x26 => (bif (!x26) then some true else some (x25.2 != x5.2)))).bind fun (j27 : Bool) => (bif j27 then some false else ((laws_heldOpS x21.2 1).bind fun x29 => (bif (decide (x29 < 0)) then some false else (bif (x29 != x21.1) then some false else some true))))))))))))))))))))))))))))))))))
set_option maxRecDepth 100000 in
set_option maxHeartbeats 4000000 in
theorem laws_FnExactMergeLogs_run (aAA : (List Op)) (aAB : (List Op)) (r : Bool) (h : laws_FnExactMergeLogs aAA aAB = some r) : SCall Tryd.prog 10 [.v (vl eOp aAA), .v (vl eOp aAB)] ⟨[.v (vb r)], [], false⟩ := by
  refine scall_in Tryd.func10 rfl [(.tmp 4)] rfl (fun r => ⟨[.v (vb r)], [], false⟩) (r := r) ?_
  unfold laws_FnExactMergeLogs at h
  refine swp_seq ?_
  refine swp_reg ?_
  refine SRun.ck tbokGC 1 ⟨119, [(0, vl eOp aAA), (1, vl eOp aAB)], []⟩ ?_
  refine SRun.nil ?_
  refine nx_n ?_
  refine swp_seq ?_
  refine swp_reg ?_
  refine SRun.ck tbokGC 1 ⟨119, [(0, vl eOp aAA), (1, vl eOp aAB), (5, vi 1048576)], []⟩ ?_
  refine SRun.nil ?_
  refine nx_n ?_
  refine swp_seq ?_
  refine swp_reg ?_
  refine SRun.ck tbokGC 2 ⟨119, [(0, vl eOp aAA), (1, vl eOp aAB), (17, vl eOp aAA), (18, vi 1048576)], []⟩ ?_
  obtain ⟨x1, hx1, h⟩ := bind_some h
  refine SRun.ls (x_lstep_call (f := 12) (caps := []) (xs := [vl eOp aAA, vi 1048576]) (ys := [vl eOp aAA, vi 1048576]) (res := ⟨[.v (vi x1)], [], false⟩) (x := vi x1) (y := none) rfl ents12 (laws_szOpS_run aAA 1048576 _ hx1) rfl (by intro hc; cases hc)) ?_
  refine SRun.ck tbokGC 1 ⟨119, [(0, vl eOp aAA), (1, vl eOp aAB), (5, vi x1)], []⟩ ?_
  refine SRun.nil ?_
  refine nx_n ?_
  refine swp_seq ?_
  refine swp_seq ?_
  refine swp_reg ?_
  refine SRun.ck tbokGC 2 ⟨119, [(0, vl eOp aAA), (1, vl eOp aAB), (5, vi x1), (21, vb (decide (x1 < 0)))], []⟩ ?_
  refine SRun.nil ?_
  refine nx_n ?_
  refine swp_cond (b := (decide (x1 < 0))) (by kernel_rfl) (fun hb => ?_) (fun hb => ?_)
  replace h := cond_t hb h
  refine swp_seq ?_
  refine swp_reg ?_
  refine SRun.ck tbokGC 1 ⟨119, [(4, vb true)], []⟩ ?_
  refine SRun.nil ?_
  refine nx_n ?_
  refine swp_ret ?_
  replace h := Option.some.inj h
  subst h
  exact nx_r (q_fr (fin1 (by kernel_rfl) (finV rfl SV.flat_of (holds_t (by kernel_rfl)))))
  replace h := cond_f hb h
  refine swp_skip ?_
  refine nx_n ?_
  refine swp_seq ?_
  refine swp_reg ?_
  refine SRun.ck tbokGC 2 ⟨119, [(0, vl eOp aAA), (1, vl eOp aAB), (22, vl eOp aAB), (23, vi x1)], []⟩ ?_
  obtain ⟨x2, hx2, h⟩ := bind_some h
  refine SRun.ls (x_lstep_call (f := 12) (caps := []) (xs := [vl eOp aAB, vi x1]) (ys := [vl eOp aAB, vi x1]) (res := ⟨[.v (vi x2)], [], false⟩) (x := vi x2) (y := none) rfl ents12 (laws_szOpS_run aAB x1 _ hx2) rfl (by intro hc; cases hc)) ?_
  refine SRun.ck tbokGC 1 ⟨119, [(0, vl eOp aAA), (1, vl eOp aAB), (5, vi x2)], []⟩ ?_
  refine SRun.nil ?_
  refine nx_n ?_
  refine swp_seq ?_
  refine swp_seq ?_
  refine swp_reg ?_
  refine SRun.ck tbokGC 2 ⟨119, [(0, vl eOp aAA), (1, vl eOp aAB), (26, vb (decide (x2 < 0)))], []⟩ ?_
  refine SRun.nil ?_
  refine nx_n ?_
  refine swp_cond (b := (decide (x2 < 0))) (by kernel_rfl) (fun hb => ?_) (fun hb => ?_)
  replace h := cond_t hb h
  refine swp_seq ?_
  refine swp_reg ?_
  refine SRun.ck tbokGC 1 ⟨119, [(4, vb true)], []⟩ ?_
  refine SRun.nil ?_
  refine nx_n ?_
  refine swp_ret ?_
  replace h := Option.some.inj h
  subst h
  exact nx_r (q_fr (fin1 (by kernel_rfl) (finV rfl SV.flat_of (holds_t (by kernel_rfl)))))
  replace h := cond_f hb h
  refine swp_skip ?_
  refine nx_n ?_
  refine swp_seq ?_
  refine swp_reg ?_
  refine SRun.ck tbokGC 1 ⟨119, [(0, vl eOp aAA), (1, vl eOp aAB), (28, vl eOp aAA)], []⟩ ?_
  obtain ⟨x3, hx3, h⟩ := bind_some h
  refine SRun.ls (x_lstep_call (f := 14) (caps := []) (xs := [vl eOp aAA]) (ys := [vl eOp aAA]) (res := ⟨[.deep 61 5 x3.length [.flat, .flat, .flat, .flat, (.sl 2 1 [.flat])] (x3.map eOp)], [], false⟩) (x := .own 29) (y := some (.deep 61 5 x3.length [.flat, .flat, .flat, .flat, (.sl 2 1 [.flat])] (x3.map eOp))) rfl ents14 (laws_toOpS_run aAA _ hx3) rfl (by intro hc; cases hc)) ?_
  refine SRun.ck tbokGC 1 ⟨119, [(0, vl eOp aAA), (1, vl eOp aAB), (29, .own 29), (30, vl eOp aAB)], [(29, .deep 61 5 x3.length [.flat, .flat, .flat, .flat, (.sl 2 1 [.flat])] (x3.map eOp))]⟩ ?_
  obtain ⟨x4, hx4, h⟩ := bind_some h
  refine SRun.ls (x_lstep_call (f := 14) (caps := []) (xs := [vl eOp aAB]) (ys := [vl eOp aAB]) (res := ⟨[.deep 61 5 x4.length [.flat, .flat, .flat, .flat, (.sl 2 1 [.flat])] (x4.map eOp)], [], false⟩) (x := .own 31) (y := some (.deep 61 5 x4.length [.flat, .flat, .flat, .flat, (.sl 2 1 [.flat])] (x4.map eOp))) rfl ents14 (laws_toOpS_run aAB _ hx4) rfl (by intro hc; cases hc)) ?_
  obtain ⟨x5, hx5, h⟩ := bind_some h
  refine SRun.ls (x_lstep_call (f := 35) (caps := []) (xs := [.own 29, .own 31]) (ys := [vl eOp x3, vl eOp x4]) (res := ⟨[.deep 61 5 x5.1.length [.flat, .flat, .flat, .flat, (.sl 2 1 [.flat])] (x5.1.map eOp), .v (vi x5.2)], [], false⟩) (x := .tup [.own 32, vi x5.2]) (y := some (.deep 61 5 x5.1.length [.flat, .flat, .flat, .flat, (.sl 2 1 [.flat])] (x5.1.map eOp))) rfl ents35 (spec_MergeLogs_run x3 x4 _ hx5) rfl (by intro hc; cases hc)) ?_
  refine SRun.ck tbokGC 5 ⟨119, [(0, vl eOp aAA), (1, vl eOp aAB), (6, .own 32), (7, vi x5.2)], [(32, .deep 61 5 x5.1.length [.flat, .flat, .flat, .flat, (.sl 2 1 [.flat])] (x5.1.map eOp))]⟩ ?_
  refine SRun.nil ?_
  refine nx_n ?_
  refine swp_seq ?_
  refine swp_reg ?_
  refine SRun.ck tbokGC 1 ⟨119, [(0, vl eOp aAA), (1, vl eOp aAB), (6, .own 32), (7, vi x5.2), (35, vl eOp aAA)], [(32, .deep 61 5 x5.1.length [.flat, .flat, .flat, .flat, (.sl 2 1 [.flat])] (x5.1.map eOp))]⟩ ?_
  obtain ⟨x6, hx6, h⟩ := bind_some h
  refine SRun.ls (x_lstep_call (f := 14) (caps := []) (xs := [vl eOp aAA]) (ys := [vl eOp aAA]) (res := ⟨[.deep 61 5 x6.length [.flat, .flat, .flat, .flat, (.sl 2 1 [.flat])] (x6.map eOp)], [], false⟩) (x := .own 36) (y := some (.deep 61 5 x6.length [.flat, .flat, .flat, .flat, (.sl 2 1 [.flat])] (x6.map eOp))) rfl ents14 (laws_toOpS_run aAA _ hx6) rfl (by intro hc; cases hc)) ?_
  refine SRun.ck tbokGC 1 ⟨119, [(0, vl eOp aAA), (1, vl eOp aAB), (6, .own 32), (7, vi x5.2), (8, .own 36)], [(32, .deep 61 5 x5.1.length [.flat, .flat, .flat, .flat, (.sl 2 1 [.flat])] (x5.1.map eOp)), (36, .deep 61 5 x6.length [.flat, .flat, .flat, .flat, (.sl 2 1 [.flat])] (x6.map eOp))]⟩ ?_
  refine SRun.nil ?_
  refine nx_n ?_
  refine swp_seq ?_
  refine swp_reg ?_
  refine SRun.ck tbokGC 1 ⟨119, [(0, vl eOp aAA), (1, vl eOp aAB), (6, .own 32), (7, vi x5.2), (8, .own 36), (37, vl eOp aAB)], [(32, .deep 61 5 x5.1.length [.flat, .flat, .flat, .flat, (.sl 2 1 [.flat])] (x5.1.map eOp)), (36, .deep 61 5 x6.length [.flat, .flat, .flat, .flat, (.sl 2 1 [.flat])] (x6.map eOp))]⟩ ?_
  obtain ⟨x7, hx7, h⟩ := bind_some h
  refine SRun.ls (x_lstep_call (f := 14) (caps := []) (xs := [vl eOp aAB]) (ys := [vl eOp aAB]) (res := ⟨[.deep 61 5 x7.length [.flat, .flat, .flat, .flat, (.sl 2 1 [.flat])] (x7.map eOp)], [], false⟩) (x := .own 38) (y := some (.deep 61 5 x7.length [.flat, .flat, .flat, .flat, (.sl 2 1 [.flat])] (x7.map eOp))) rfl ents14 (laws_toOpS_run aAB _ hx7) rfl (by intro hc; cases hc)) ?_
  refine SRun.ck tbokGC 1 ⟨119, [(0, vl eOp aAA), (1, vl eOp aAB), (6, .own 32), (7, vi x5.2), (8, .own 36), (9, .own 38)], [(32, .deep 61 5 x5.1.length [.flat, .flat, .flat, .flat, (.sl 2 1 [.flat])] (x5.1.map eOp)), (36, .deep 61 5 x6.length [.flat, .flat, .flat, .flat, (.sl 2 1 [.flat])] (x6.map eOp)), (38, .deep 61 5 x7.length [.flat, .flat, .flat, .flat, (.sl 2 1 [.flat])] (x7.map eOp))]⟩ ?_
  refine SRun.nil ?_
  refine nx_n ?_
  refine swp_seq ?_
  refine swp_reg ?_
  refine SRun.ck tbokGC 2 ⟨119, [(0, vl eOp aAA), (1, vl eOp aAB), (6, .own 32), (7, vi x5.2), (8, .own 36), (9, .own 38), (40, .own 36), (41, .own 38)], [(32, .deep 61 5 x5.1.length [.flat, .flat, .flat, .flat, (.sl 2 1 [.flat])] (x5.1.map eOp)), (36, .deep 61 5 x6.length [.flat, .flat, .flat, .flat, (.sl 2 1 [.flat])] (x6.map eOp)), (38, .deep 61 5 x7.length [.flat, .flat, .flat, .flat, (.sl 2 1 [.flat])] (x7.map eOp))]⟩ ?_
  obtain ⟨x8, hx8, h⟩ := bind_some h
  refine SRun.ls (x_lstep_call (f := 36) (caps := []) (xs := [.own 36, .own 38]) (ys := [vl eOp x6, vl eOp x7]) (res := ⟨[.deep 61 5 x8.1.length [.flat, .flat, .flat, .flat, (.sl 2 1 [.flat])] (x8.1.map eOp), .v (vi x8.2)], [], false⟩) (x := .tup [.own 42, vi x8.2]) (y := some (.deep 61 5 x8.1.length [.flat, .flat, .flat, .flat, (.sl 2 1 [.flat])] (x8.1.map eOp))) rfl ents36 (impl_MergeLogs_run x6 x7 _ hx8) rfl (by intro hc; cases hc)) ?_
  refine SRun.ck tbokGC 5 ⟨119, [(0, vl eOp aAA), (1, vl eOp aAB), (6, .own 32), (7, vi x5.2), (8, .own 36), (9, .own 38), (10, .own 42), (11, vi x8.2)], [(32, .deep 61 5 x5.1.length [.flat, .flat, .flat, .flat, (.sl 2 1 [.flat])] (x5.1.map eOp)), (36, .deep 61 5 x6.length [.flat, .flat, .flat, .flat, (.sl 2 1 [.flat])] (x6.map eOp)), (38, .deep 61 5 x7.length [.flat, .flat, .flat, .flat, (.sl 2 1 [.flat])] (x7.map eOp)), (42, .deep 61 5 x8.1.length [.flat, .flat, .flat, .flat, (.sl 2 1 [.flat])] (x8.1.map eOp))]⟩ ?_
  refine SRun.nil ?_
  refine nx_n ?_
  refine swp_seq ?_
  refine swp_seq ?_
  refine swp_regJ h (fun j10 => ⟨119, [(0, vl eOp aAA), (1, vl eOp aAB), (6, .own 6), (7, vi x5.2), (8, .own 8), (9, .own 9), (10, .own 10), (11, vi x8.2), (53, vb j10)], [(6, .deep 61 5 x5.1.length [.flat, .flat, .flat, .flat, (.sl 2 1 [.flat])] (x5.1.map eOp)), (8, .deep 61 5 x6.length [.flat, .flat, .flat, .flat, (.sl 2 1 [.flat])] (x6.map eOp)), (9, .deep 61 5 x7.length [.flat, .flat, .flat, .flat, (.sl 2 1 [.flat])] (x7.map eOp)), (10, .deep 61 5 x8.1.length [.flat, .flat, .flat, .flat, (.sl 2 1 [.flat])] (x8.1.map eOp))]⟩) (fun v11 h => ?_) (fun j10 h => ?_)
  refine SRun.ck tbokGC 2 ⟨119, [(0, vl eOp aAA), (1, vl eOp aAB), (6, .own 32), (7, vi x5.2), (8, .own 36), (9, .own 38), (10, .own 42), (11, vi x8.2), (45, .own 42), (46, .own 32)], [(32, .deep 61 5 x5.1.length [.flat, .flat, .flat, .flat, (.sl 2 1 [.flat])] (x5.1.map eOp)), (36, .deep 61 5 x6.length [.flat, .flat, .flat, .flat, (.sl 2 1 [.flat])] (x6.map eOp)), (38, .deep 61 5 x7.length [.flat, .flat, .flat, .flat, (.sl 2 1 [.flat])] (x7.map eOp)), (42, .deep 61 5 x8.1.length [.flat, .flat, .flat, .flat, (.sl 2 1 [.flat])] (x8.1.map eOp))]⟩ ?_
  obtain ⟨x9, hx9, h⟩ := bind_some h
  refine SRun.ls (x_lstep_call (f := 16) (caps := []) (xs := [.own 42, .own 32]) (ys := [vl eOp x8.1, vl eOp x5.1]) (res := ⟨[.v (vb x9)], [], false⟩) (x := vb x9) (y := none) rfl ents16 (laws_eqOpS_run x8.1 x5.1 _ hx9) rfl (by intro hc; cases hc)) ?_
  refine SRun.ck tbokGC 2 ⟨119, [(0, vl eOp aAA), (1, vl eOp aAB), (6, .own 32), (7, vi x5.2), (8, .own 36), (9, .own 38), (10, .own 42), (11, vi x8.2), (49, vb (!x9))], [(32, .deep 61 5 x5.1.length [.flat, .flat, .flat, .flat, (.sl 2 1 [.flat])] (x5.1.map eOp)), (36, .deep 61 5 x6.length [.flat, .flat, .flat, .flat, (.sl 2 1 [.flat])] (x6.map eOp)), (38, .deep 61 5 x7.length [.flat, .flat, .flat, .flat, (.sl 2 1 [.flat])] (x7.map eOp)), (42, .deep 61 5 x8.1.length [.flat, .flat, .flat, .flat, (.sl 2 1 [.flat])] (x8.1.map eOp))]⟩ ?_
  refine SRun.cut [(49, fun b => b)] (b := (!x9)) (by kernel_rfl) (fun hb => ?_) (fun hb => ?_)
  replace h := cond_t hb h
  refine SRun.ck tbokGC 4 ⟨119, [(0, vl eOp aAA), (1, vl eOp aAB), (6, .own 32), (7, vi x5.2), (8, .own 36), (9, .own 38), (10, .own 42), (11, vi x8.2), (53, vb true)], [(32, .deep 61 5 x5.1.length [.flat, .flat, .flat, .flat, (.sl 2 1 [.flat])] (x5.1.map eOp)), (36, .deep 61 5 x6.length [.flat, .flat, .flat, .flat, (.sl 2 1 [.flat])] (x6.map eOp)), (38, .deep 61 5 x7.length [.flat, .flat, .flat, .flat, (.sl 2 1 [.flat])] (x7.map eOp)), (42, .deep 61 5 x8.1.length [.flat, .flat, .flat, .flat, (.sl 2 1 [.flat])] (x8.1.map eOp))]⟩ ?_
  refine SRun.nil ?_
  replace h := Option.some.inj h
  subst h
  exact (Le.sub' ([(0, vl eOp aAA), (1, vl eOp aAB), (6, .own 32), (7, vi x5.2), (8, .own 36), (9, .own 38), (10, .own 42), (11, vi x8.2), (53, vb true)] : List (Nat × SV)) ([(32, .deep 61 5 x5.1.length [.flat, .flat, .flat, .flat, (.sl 2 1 [.flat])] (x5.1.map eOp)), (36, .deep 61 5 x6.length [.flat, .flat, .flat, .flat, (.sl 2 1 [.flat])] (x6.map eOp)), (38, .deep 61 5 x7.length [.flat, .flat, .flat, .flat, (.sl 2 1 [.flat])] (x7.map eOp)), (42, .deep 61 5 x8.1.length [.flat, .flat, .flat, .flat, (.sl 2 1 [.flat])] (x8.1.map eOp))] : List (Nat × SO)) (by kernel_rfl) (by kernel_rfl)).trans ((Le.ren' (d := 32) (e := 6) (by kernel_rfl) (by kernel_rfl) (by kernel_rfl)).trans ((Le.ren' (d := 36) (e := 8) (by kernel_rfl) (by kernel_rfl) (by kernel_rfl)).trans ((Le.ren' (d := 38) (e := 9) (by kernel_rfl) (by kernel_rfl) (by kernel_rfl)).trans ((Le.ren' (d := 42) (e := 10) (by kernel_rfl) (by kernel_rfl) (by kernel_rfl)).trans (Le.sub0)))))
  replace h := cond_f hb h
  refine SRun.ck tbokGC 4 ⟨119, [(0, vl eOp aAA), (1, vl eOp aAB), (6, .own 32), (7, vi x5.2), (8, .own 36), (9, .own 38), (10, .own 42), (11, vi x8.2), (53, vb (x8.2 != x5.2))], [(32, .deep 61 5 x5.1.length [.flat, .flat, .flat, .flat, (.sl 2 1 [.flat])] (x5.1.map eOp)), (36, .deep 61 5 x6.length [.flat, .flat, .flat, .flat, (.sl 2 1 [.flat])] (x6.map eOp)), (38, .deep 61 5 x7.length [.flat, .flat, .flat, .flat, (.sl 2 1 [.flat])] (x7.map eOp)), (42, .deep 61 5 x8.1.length [.flat, .flat, .flat, .flat, (.sl 2 1 [.flat])] (x8.1.map eOp))]⟩ ?_
  refine SRun.nil ?_
  replace h := Option.some.inj h
  subst h
  exact (Le.sub' ([(0, vl eOp aAA), (1, vl eOp aAB), (6, .own 32), (7, vi x5.2), (8, .own 36), (9, .own 38), (10, .own 42), (11, vi x8.2), (53, vb (x8.2 != x5.2))] : List (Nat × SV)) ([(32, .deep 61 5 x5.1.length [.flat, .flat, .flat, .flat, (.sl 2 1 [.flat])] (x5.1.map eOp)), (36, .deep 61 5 x6.length [.flat, .flat, .flat, .flat, (.sl 2 1 [.flat])] (x6.map eOp)), (38, .deep 61 5 x7.length [.flat, .flat, .flat, .flat, (.sl 2 1 [.flat])] (x7.map eOp)), (42, .deep 61 5 x8.1.length [.flat, .flat, .flat, .flat, (.sl 2 1 [.flat])] (x8.1.map eOp))] : List (Nat × SO)) (by kernel_rfl) (by kernel_rfl)).trans ((Le.ren' (d := 32) (e := 6) (by kernel_rfl) (by kernel_rfl) (by kernel_rfl)).trans ((Le.ren' (d := 36) (e := 8) (by kernel_rfl) (by kernel_rfl) (by kernel_rfl)).trans ((Le.ren' (d := 38) (e := 9) (by kernel_rfl) (by kernel_rfl) (by kernel_rfl)).trans ((Le.ren' (d := 42) (e := 10) (by kernel_rfl) (by kernel_rfl) (by kernel_rfl)).trans (Le.sub0)))))
  refine swp_cond (b := j10) (by kernel_rfl) (fun hb => ?_) (fun hb => ?_)
  replace h := cond_t hb h
  refine swp_seq ?_
  refine swp_reg ?_
  refine SRun.ck tbokGC 1 ⟨119, [(4, vb false)], []⟩ ?_
  refine SRun.nil ?_
  refine nx_n ?_
  refine swp_ret ?_
  replace h := Option.some.inj h
  subst h
  exact nx_r (q_fr (fin1 (by kernel_rfl) (finV rfl SV.flat_of (holds_t (by kernel_rfl)))))
  replace h := cond_f hb h
  refine swp_skip ?_
  refine nx_n ?_
  refine swp_seq ?_
  refine swp_seq ?_
  refine swp_reg ?_
  refine SRun.ck tbokGC 2 ⟨119, [(0, vl eOp aAA), (1, vl eOp aAB), (6, .own 6), (7, vi x5.2), (8, .own 8), (9, .own 9), (10, .own 10), (11, vi x8.2), (54, .own 8), (55, vl eOp aAA)], [(6, .deep 61 5 x5.1.length [.flat, .flat, .flat, .flat, (.sl 2 1 [.flat])] (x5.1.map eOp)), (8, .deep 61 5 x6.length [.flat, .flat, .flat, .flat, (.sl 2 1 [.flat])] (x6.map eOp)), (9, .deep 61 5 x7.length [.flat, .flat, .flat, .flat, (.sl 2 1 [.flat])] (x7.map eOp)), (10, .deep 61 5 x8.1.length [.flat, .flat, .flat, .flat, (.sl 2 1 [.flat])] (x8.1.map eOp))]⟩ ?_
  obtain ⟨x12, hx12, h⟩ := bind_some h
  refine SRun.ls (x_lstep_call (f := 14) (caps := []) (xs := [vl eOp aAA]) (ys := [vl eOp aAA]) (res := ⟨[.deep 61 5 x12.length [.flat, .flat, .flat, .flat, (.sl 2 1 [.flat])] (x12.map eOp)], [], false⟩) (x := .own 56) (y := some (.deep 61 5 x12.length [.flat, .flat, .flat, .flat, (.sl 2 1 [.flat])] (x12.map eOp))) rfl ents14 (laws_toOpS_run aAA _ hx12) rfl (by intro hc; cases hc)) ?_
  obtain ⟨x13, hx13, h⟩ := bind_some h
  refine SRun.ls (x_lstep_call (f := 16) (caps := []) (xs := [.own 8, .own 56]) (ys := [vl eOp x6, vl eOp x12]) (res := ⟨[.v (vb x13)], [], false⟩) (x := vb x13) (y := none) rfl ents16 (laws_eqOpS_run x6 x12 _ hx13) rfl (by intro hc; cases hc)) ?_
  refine SRun.ck tbokGC 1 ⟨119, [(0, vl eOp aAA), (1, vl eOp aAB), (6, .own 6), (7, vi x5.2), (8, .own 8), (9, .own 9), (10, .own 10), (11, vi x8.2), (58, vb (!x13))], [(6, .deep 61 5 x5.1.length [.flat, .flat, .flat, .flat, (.sl 2 1 [.flat])] (x5.1.map eOp)), (8, .deep 61 5 x6.length [.flat, .flat, .flat, .flat, (.sl 2 1 [.flat])] (x6.map eOp)), (9, .deep 61 5 x7.length [.flat, .flat, .flat, .flat, (.sl 2 1 [.flat])] (x7.map eOp)), (10, .deep 61 5 x8.1.length [.flat, .flat, .flat, .flat, (.sl 2 1 [.flat])] (x8.1.map eOp))]⟩ ?_
  refine SRun.nil ?_
  refine nx_n ?_
  refine swp_cond (b := (!x13)) (by kernel_rfl) (fun hb => ?_) (fun hb => ?_)
  replace h := cond_t hb h
  refine swp_seq ?_
  refine swp_reg ?_
  refine SRun.ck tbokGC 1 ⟨119, [(4, vb false)], []⟩ ?_
  refine SRun.nil ?_
  refine nx_n ?_
  refine swp_ret ?_
  replace h := Option.some.inj h
  subst h
  exact nx_r (q_fr (fin1 (by kernel_rfl) (finV rfl SV.flat_of (holds_t (by kernel_rfl)))))
  replace h := cond_f hb h
  refine swp_skip ?_
  refine nx_n ?_
  refine swp_seq ?_
  refine swp_seq ?_
  refine swp_reg ?_
  refine SRun.ck tbokGC 2 ⟨119, [(0, vl eOp aAA), (1, vl eOp aAB), (6, .own 6), (7, vi x5.2), (8, .own 8), (9, .own 9), (10, .own 10), (11, vi x8.2), (59, .own 9), (60, vl eOp aAB)], [(6, .deep 61 5 x5.1.length [.flat, .flat, .flat, .flat, (.sl 2 1 [.flat])] (x5.1.map eOp)), (8, .deep 61 5 x6.length [.flat, .flat, .flat, .flat, (.sl 2 1 [.flat])] (x6.map eOp)), (9, .deep 61 5 x7.length [.flat, .flat, .flat, .flat, (.sl 2 1 [.flat])] (x7.map eOp)), (10, .deep 61 5 x8.1.length [.flat, .flat, .flat, .flat, (.sl 2 1 [.flat])] (x8.1.map eOp))]⟩ ?_
  obtain ⟨x14, hx14, h⟩ := bind_some h
  refine SRun.ls (x_lstep_call (f := 14) (caps := []) (xs := [vl eOp aAB]) (ys := [vl eOp aAB]) (res := ⟨[.deep 61 5 x14.length [.flat, .flat, .flat, .flat, (.sl 2 1 [.flat])] (x14.map eOp)], [], false⟩) (x := .own 61) (y := some (.deep 61 5 x14.length [.flat, .flat, .flat, .flat, (.sl 2 1 [.flat])] (x14.map eOp))) rfl ents14 (laws_toOpS_run aAB _ hx14) rfl (by intro hc; cases hc)) ?_
  obtain ⟨x15, hx15, h⟩ := bind_some h
  refine SRun.ls (x_lstep_call (f := 16) (caps := []) (xs := [.own 9, .own 61]) (ys := [vl eOp x7, vl eOp x14]) (res := ⟨[.v (vb x15)], [], false⟩) (x := vb x15) (y := none) rfl ents16 (laws_eqOpS_run x7 x14 _ hx15) rfl (by intro hc; cases hc)) ?_
  refine SRun.ck tbokGC 1 ⟨119, [(0, vl eOp aAA), (1, vl eOp aAB), (6, .own 6), (7, vi x5.2), (8, .own 8), (9, .own 9), (10, .own 10), (11, vi x8.2), (63, vb (!x15))], [(6, .deep 61 5 x5.1.length [.flat, .flat, .flat, .flat, (.sl 2 1 [.flat])] (x5.1.map eOp)), (8, .deep 61 5 x6.length [.flat, .flat, .flat, .flat, (.sl 2 1 [.flat])] (x6.map eOp)), (9, .deep 61 5 x7.length [.flat, .flat, .flat, .flat, (.sl 2 1 [.flat])] (x7.map eOp)), (10, .deep 61 5 x8.1.length [.flat, .flat, .flat, .flat, (.sl 2 1 [.flat])] (x8.1.map eOp))]⟩ ?_
  refine SRun.nil ?_
  refine nx_n ?_
  refine swp_cond (b := (!x15)) (by kernel_rfl) (fun hb => ?_) (fun hb => ?_)
  replace h := cond_t hb h
  refine swp_seq ?_
  refine swp_reg ?_
  refine SRun.ck tbokGC 1 ⟨119, [(4, vb false)], []⟩ ?_
  refine SRun.nil ?_
  refine nx_n ?_
  refine swp_ret ?_
  replace h := Option.some.inj h
  subst h
  exact nx_r (q_fr (fin1 (by kernel_rfl) (finV rfl SV.flat_of (holds_t (by kernel_rfl)))))
  replace h := cond_f hb h
  refine swp_skip ?_
  refine nx_n ?_
  refine swp_seq ?_
  refine swp_reg ?_
  refine SRun.ck tbokGC 1 ⟨119, [(0, vl eOp aAA), (1, vl eOp aAB), (6, .own 6), (7, vi x5.2), (8, .own 8), (9, .own 9), (10, .own 10), (11, vi x8.2), (12, vi 1)], [(6, .deep 61 5 x5.1.length [.flat, .flat, .flat, .flat, (.sl 2 1 [.flat])] (x5.1.map eOp)), (8, .deep 61 5 x6.length [.flat, .flat, .flat, .flat, (.sl 2 1 [.flat])] (x6.map eOp)), (9, .deep 61 5 x7.length [.flat, .flat, .flat, .flat, (.sl 2 1 [.flat])] (x7.map eOp)), (10, .deep 61 5 x8.1.length [.flat, .flat, .flat, .flat, (.sl 2 1 [.flat])] (x8.1.map eOp))]⟩ ?_
  refine SRun.nil ?_
  refine nx_n ?_
  refine swp_seq ?_
  refine swp_reg ?_
  refine SRun.ck tbokGC 2 ⟨119, [(0, vl eOp aAA), (1, vl eOp aAB), (6, .own 6), (7, vi x5.2), (9, .own 9), (10, .own 10), (11, vi x8.2), (64, .own 8), (65, vi 1)], [(6, .deep 61 5 x5.1.length [.flat, .flat, .flat, .flat, (.sl 2 1 [.flat])] (x5.1.map eOp)), (8, .deep 61 5 x6.length [.flat, .flat, .flat, .flat, (.sl 2 1 [.flat])] (x6.map eOp)), (9, .deep 61 5 x7.length [.flat, .flat, .flat, .flat, (.sl 2 1 [.flat])] (x7.map eOp)), (10, .deep 61 5 x8.1.length [.flat, .flat, .flat, .flat, (.sl 2 1 [.flat])] (x8.1.map eOp))]⟩ ?_
  obtain ⟨x16, hx16, h⟩ := bind_some h
  refine SRun.estep (x_estep_call (f := 22) (caps := []) (xs := [.own 8, vi 1]) (pre := []) (post := [vi 1]) (qs := [vi 1]) (z := .own 8) (d := 8) (pl := 0) (y := .deep 61 5 x6.length [.flat, .flat, .flat, .flat, (.sl 2 1 [.flat])] (x6.map eOp)) (y' := .deep 61 5 x16.2.length [.flat, .flat, .flat, .flat, (.sl 2 1 [.flat])] (x16.2.map eOp)) (res := ⟨[.v (vi x16.1)], [(0, .deep 61 5 x16.2.length [.flat, .flat, .flat, .flat, (.sl 2 1 [.flat])] (x16.2.map eOp))], false⟩) (x := vi x16.1) (yo := none) rfl rfl rfl rfl rfl ents22 (laws_markOpS_run x6 1 _ hx16) rfl rfl false (fun _ => rfl) (by intro hc; cases hc)) ?_
  refine SRun.ck tbokGC 1 ⟨119, [(0, vl eOp aAA), (1, vl eOp aAB), (6, .own 6), (7, vi x5.2), (9, .own 9), (10, .own 10), (11, vi x8.2), (12, vi x16.1)], [(6, .deep 61 5 x5.1.length [.flat, .flat, .flat, .flat, (.sl 2 1 [.flat])] (x5.1.map eOp)), (9, .deep 61 5 x7.length [.flat, .flat, .flat, .flat, (.sl 2 1 [.flat])] (x7.map eOp)), (10, .deep 61 5 x8.1.length [.flat, .flat, .flat, .flat, (.sl 2 1 [.flat])] (x8.1.map eOp))]⟩ ?_
  refine SRun.nil ?_
  refine nx_n ?_
  refine swp_seq ?_
  refine swp_reg ?_
  refine SRun.ck tbokGC 2 ⟨119, [(0, vl eOp aAA), (1, vl eOp aAB), (6, .own 6), (7, vi x5.2), (10, .own 10), (11, vi x8.2), (67, .own 9), (68, vi x16.1)], [(6, .deep 61 5 x5.1.length [.flat, .flat, .flat, .flat, (.sl 2 1 [.flat])] (x5.1.map eOp)), (9, .deep 61 5 x7.length [.flat, .flat, .flat, .flat, (.sl 2 1 [.flat])] (x7.map eOp)), (10, .deep 61 5 x8.1.length [.flat, .flat, .flat, .flat, (.sl 2 1 [.flat])] (x8.1.map eOp))]⟩ ?_
  obtain ⟨x17, hx17, h⟩ := bind_some h
  refine SRun.estep (x_estep_call (f := 22) (caps := []) (xs := [.own 9, vi x16.1]) (pre := []) (post := [vi x16.1]) (qs := [vi x16.1]) (z := .own 9) (d := 9) (pl := 0) (y := .deep 61 5 x7.length [.flat, .flat, .flat, .flat, (.sl 2 1 [.flat])] (x7.map eOp)) (y' := .deep 61 5 x17.2.length [.flat, .flat, .flat, .flat, (.sl 2 1 [.flat])] (x17.2.map eOp)) (res := ⟨[.v (vi x17.1)], [(0, .deep 61 5 x17.2.length [.flat, .flat, .flat, .flat, (.sl 2 1 [.flat])] (x17.2.map eOp))], false⟩) (x := vi x17.1) (yo := none) rfl rfl rfl rfl rfl ents22 (laws_markOpS_run x7 x16.1 _ hx17) rfl rfl false (fun _ => rfl) (by intro hc; cases hc)) ?_
  refine SRun.ck tbokGC 1 ⟨119, [(0, vl eOp aAA), (1, vl eOp aAB), (6, .own 6), (7, vi x5.2), (10, .own 10), (11, vi x8.2), (12, vi x17.1)], [(6, .deep 61 5 x5.1.length [.flat, .flat, .flat, .flat, (.sl 2 1 [.flat])] (x5.1.map eOp)), (10, .deep 61 5 x8.1.length [.flat, .flat, .flat, .flat, (.sl 2 1 [.flat])] (x8.1.map eOp))]⟩ ?_
  refine SRun.nil ?_
  refine nx_n ?_
  refine swp_seq ?_
  refine swp_seq ?_
  refine swp_regJ h (fun j19 => ⟨119, [(0, vl eOp aAA), (1, vl eOp aAB), (6, .own 6), (7, vi x5.2), (10, .own 10), (82, vb j19)], [(6, .deep 61 5 x5.1.length [.flat, .flat, .flat, .flat, (.sl 2 1 [.flat])] (x5.1.map eOp)), (10, .deep 61 5 x8.1.length [.flat, .flat, .flat, .flat, (.sl 2 1 [.flat])] (x8.1.map eOp))]⟩) (fun v20 h => ?_) (fun j19 h => ?_)
  refine SRun.ck tbokGC 3 ⟨119, [(0, vl eOp aAA), (1, vl eOp aAB), (6, .own 6), (7, vi x5.2), (10, .own 10), (11, vi x8.2), (72, vb (decide (x17.1 < 0)))], [(6, .deep 61 5 x5.1.length [.flat, .flat, .flat, .flat, (.sl 2 1 [.flat])] (x5.1.map eOp)), (10, .deep 61 5 x8.1.length [.flat, .flat, .flat, .flat, (.sl 2 1 [.flat])] (x8.1.map eOp))]⟩ ?_
  refine SRun.cut [(72, fun b => b)] (b := (decide (x17.1 < 0))) (by kernel_rfl) (fun hb => ?_) (fun hb => ?_)
  replace h := cond_t hb h
  refine SRun.ck tbokGC 10 ⟨119, [(0, vl eOp aAA), (1, vl eOp aAB), (6, .own 6), (7, vi x5.2), (10, .own 10), (82, vb true)], [(6, .deep 61 5 x5.1.length [.flat, .flat, .flat, .flat, (.sl 2 1 [.flat])] (x5.1.map eOp)), (10, .deep 61 5 x8.1.length [.flat, .flat, .flat, .flat, (.sl 2 1 [.flat])] (x8.1.map eOp))]⟩ ?_
  refine SRun.nil ?_
  replace h := Option.some.inj h
  subst h
  exact Le.sub0
  replace h := cond_f hb h
  refine SRun.ck tbokGC 2 ⟨119, [(0, vl eOp aAA), (1, vl eOp aAB), (6, .own 6), (7, vi x5.2), (10, .own 10), (11, vi x8.2), (72, vb false), (73, .own 10), (74, .own 6)], [(6, .deep 61 5 x5.1.length [.flat, .flat, .flat, .flat, (.sl 2 1 [.flat])] (x5.1.map eOp)), (10, .deep 61 5 x8.1.length [.flat, .flat, .flat, .flat, (.sl 2 1 [.flat])] (x8.1.map eOp))]⟩ ?_
  obtain ⟨x18, hx18, h⟩ := bind_some h
  refine SRun.ls (x_lstep_call (f := 16) (caps := []) (xs := [.own 10, .own 6]) (ys := [vl eOp x8.1, vl eOp x5.1]) (res := ⟨[.v (vb x18)], [], false⟩) (x := vb x18) (y := none) rfl ents16 (laws_eqOpS_run x8.1 x5.1 _ hx18) rfl (by intro hc; cases hc)) ?_
  refine SRun.ck tbokGC 3 ⟨119, [(0, vl eOp aAA), (1, vl eOp aAB), (6, .own 6), (7, vi x5.2), (10, .own 10), (11, vi x8.2), (78, vb (!x18))], [(6, .deep 61 5 x5.1.length [.flat, .flat, .flat, .flat, (.sl 2 1 [.flat])] (x5.1.map eOp)), (10, .deep 61 5 x8.1.length [.flat, .flat, .flat, .flat, (.sl 2 1 [.flat])] (x8.1.map eOp))]⟩ ?_
  refine SRun.cut [(78, fun b => b)] (b := (!x18)) (by kernel_rfl) (fun hb => ?_) (fun hb => ?_)
  replace h := cond_t hb h
  refine SRun.ck tbokGC 4 ⟨119, [(0, vl eOp aAA), (1, vl eOp aAB), (6, .own 6), (7, vi x5.2), (10, .own 10), (82, vb true)], [(6, .deep 61 5 x5.1.length [.flat, .flat, .flat, .flat, (.sl 2 1 [.flat])] (x5.1.map eOp)), (10, .deep 61 5 x8.1.length [.flat, .flat, .flat, .flat, (.sl 2 1 [.flat])] (x8.1.map eOp))]⟩ ?_
  refine SRun.nil ?_
  replace h := Option.some.inj h
  subst h
  exact Le.sub0
  replace h := cond_f hb h
  refine SRun.ck tbokGC 4 ⟨119, [(0, vl eOp aAA), (1, vl eOp aAB), (6, .own 6), (7, vi x5.2), (10, .own 10), (82, vb (x8.2 != x5.2))], [(6, .deep 61 5 x5.1.length [.flat, .flat, .flat, .flat, (.sl 2 1 [.flat])] (x5.1.map eOp)), (10, .deep 61 5 x8.1.length [.flat, .flat, .flat, .flat, (.sl 2 1 [.flat])] (x8.1.map eOp))]⟩ ?_
  refine SRun.nil ?_
  replace h := Option.some.inj h
  subst h
  exact Le.sub0
  refine swp_cond (b := j19) (by kernel_rfl) (fun hb => ?_) (fun hb => ?_)
  replace h := cond_t hb h
  refine swp_seq ?_
  refine swp_reg ?_
  refine SRun.ck tbokGC 1 ⟨119, [(4, vb false)], []⟩ ?_
  refine SRun.nil ?_
  refine nx_n ?_
  refine swp_ret ?_
  replace h := Option.some.inj h
  subst h
  exact nx_r (q_fr (fin1 (by kernel_rfl) (finV rfl SV.flat_of (holds_t (by kernel_rfl)))))
  replace h := cond_f hb h
  refine swp_skip ?_
  refine nx_n ?_
  refine swp_seq ?_
  refine swp_reg ?_
  refine SRun.ck tbokGC 1 ⟨119, [(0, vl eOp aAA), (1, vl eOp aAB), (6, .own 6), (7, vi x5.2), (10, .own 10), (13, vi 1)], [(6, .deep 61 5 x5.1.length [.flat, .flat, .flat, .flat, (.sl 2 1 [.flat])] (x5.1.map eOp)), (10, .deep 61 5 x8.1.length [.flat, .flat, .flat, .flat, (.sl 2 1 [.flat])] (x8.1.map eOp))]⟩ ?_
  refine SRun.nil ?_
  refine nx_n ?_
  refine swp_seq ?_
  refine swp_reg ?_
  refine SRun.ck tbokGC 2 ⟨119, [(0, vl eOp aAA), (1, vl eOp aAB), (6, .own 6), (7, vi x5.2), (10, .own 10), (83, .own 10), (84, vi 1)], [(6, .deep 61 5 x5.1.length [.flat, .flat, .flat, .flat, (.sl 2 1 [.flat])] (x5.1.map eOp)), (10, .deep 61 5 x8.1.length [.flat, .flat, .flat, .flat, (.sl 2 1 [.flat])] (x8.1.map eOp))]⟩ ?_
  obtain ⟨x21, hx21, h⟩ := bind_some h
  refine SRun.estep (x_estep_call (f := 22) (caps := []) (xs := [.own 10, vi 1]) (pre := []) (post := [vi 1]) (qs := [vi 1]) (z := .own 10) (d := 10) (pl := 0) (y := .deep 61 5 x8.1.length [.flat, .flat, .flat, .flat, (.sl 2 1 [.flat])] (x8.1.map eOp)) (y' := .deep 61 5 x21.2.length [.flat, .flat, .flat, .flat, (.sl 2 1 [.flat])] (x21.2.map eOp)) (res := ⟨[.v (vi x21.1)], [(0, .deep 61 5 x21.2.length [.flat, .flat, .flat, .flat, (.sl 2 1 [.flat])] (x21.2.map eOp))], false⟩) (x := vi x21.1) (yo := none) rfl rfl rfl rfl rfl ents22 (laws_markOpS_run x8.1 1 _ hx21) rfl rfl false (fun _ => rfl) (by intro hc; cases hc)) ?_
  refine SRun.ck tbokGC 1 ⟨119, [(0, vl eOp aAA), (1, vl eOp aAB), (6, .own 6), (7, vi x5.2), (10, .own 10), (13, vi x21.1)], [(6, .deep 61 5 x5.1.length [.flat, .flat, .flat, .flat, (.sl 2 1 [.flat])] (x5.1.map eOp)), (10, .deep 61 5 x21.2.length [.flat, .flat, .flat, .flat, (.sl 2 1 [.flat])] (x21.2.map eOp))]⟩ ?_
  refine SRun.nil ?_
  refine nx_n ?_
  refine swp_seq ?_
  refine swp_reg ?_
  refine SRun.ck tbokGC 1 ⟨119, [(0, vl eOp aAA), (1, vl eOp aAB), (6, .own 6), (7, vi x5.2), (10, .own 10), (13, vi x21.1), (14, vi 1)], [(6, .deep 61 5 x5.1.length [.flat, .flat, .flat, .flat, (.sl 2 1 [.flat])] (x5.1.map eOp)), (10, .deep 61 5 x21.2.length [.flat, .flat, .flat, .flat, (.sl 2 1 [.flat])] (x21.2.map eOp))]⟩ ?_
  refine SRun.nil ?_
  refine nx_n ?_
  refine swp_seq ?_
  refine swp_reg ?_
  refine SRun.ck tbokGC 2 ⟨119, [(0, vl eOp aAA), (1, vl eOp aAB), (6, .own 6), (7, vi x5.2), (10, .own 10), (13, vi x21.1), (86, .own 10), (87, vi 1)], [(6, .deep 61 5 x5.1.length [.flat, .flat, .flat, .flat, (.sl 2 1 [.flat])] (x5.1.map eOp)), (10, .deep 61 5 x21.2.length [.flat, .flat, .flat, .flat, (.sl 2 1 [.flat])] (x21.2.map eOp))]⟩ ?_
  obtain ⟨x22, hx22, h⟩ := bind_some h
  refine SRun.ls (x_lstep_call (f := 34) (caps := []) (xs := [.own 10, vi 1]) (ys := [vl eOp x21.2, vi 1]) (res := ⟨[.v (vi x22)], [], false⟩) (x := vi x22) (y := none) rfl ents34 (laws_heldOpS_run x21.2 1 _ hx22) rfl (by intro hc; cases hc)) ?_
  refine SRun.ck tbokGC 1 ⟨119, [(0, vl eOp aAA), (1, vl eOp aAB), (6, .own 6), (7, vi x5.2), (10, .own 10), (13, vi x21.1), (14, vi x22)], [(6, .deep 61 5 x5.1.length [.flat, .flat, .flat, .flat, (.sl 2 1 [.flat])] (x5.1.map eOp)), (10, .deep 61 5 x21.2.length [.flat, .flat, .flat, .flat, (.sl 2 1 [.flat])] (x21.2.map eOp))]⟩ ?_
  refine SRun.nil ?_
  refine nx_n ?_
  refine swp_seq ?_
  refine swp_seq ?_
  refine swp_reg ?_
  refine SRun.ck tbokGC 2 ⟨119, [(0, vl eOp aAA), (1, vl eOp aAB), (6, .own 6), (7, vi x5.2), (10, .own 10), (13, vi x21.1), (14, vi x22), (90, vb (decide (x22 < 0)))], [(6, .deep 61 5 x5.1.length [.flat, .flat, .flat, .flat, (.sl 2 1 [.flat])] (x5.1.map eOp)), (10, .deep 61 5 x21.2.length [.flat, .flat, .flat, .flat, (.sl 2 1 [.flat])] (x21.2.map eOp))]⟩ ?_
  refine SRun.nil ?_
  refine nx_n ?_
  refine swp_cond (b := (decide (x22 < 0))) (by kernel_rfl) (fun hb => ?_) (fun hb => ?_)
  replace h := cond_t hb h
  refine swp_seq ?_
  refine swp_reg ?_
  refine SRun.ck tbokGC 1 ⟨119, [(4, vb false)], []⟩ ?_
  refine SRun.nil ?_
  refine nx_n ?_
  refine swp_ret ?_
  replace h := Option.some.inj h
  subst h
  exact nx_r (q_fr (fin1 (by kernel_rfl) (finV rfl SV.flat_of (holds_t (by kernel_rfl)))))
  replace h := cond_f hb h
  refine swp_skip ?_
  refine nx_n ?_
  refine swp_seq ?_
  refine swp_seq ?_
  refine swp_reg ?_
  refine SRun.ck tbokGC 3 ⟨119, [(0, vl eOp aAA), (1, vl eOp aAB), (6, .own 6), (7, vi x5.2), (10, .own 10), (13, vi x21.1), (93, vb (x22 != x21.1))], [(6, .deep 61 5 x5.1.length [.flat, .flat, .flat, .flat, (.sl 2 1 [.flat])] (x5.1.map eOp)), (10, .deep 61 5 x21.2.length [.flat, .flat, .flat, .flat, (.sl 2 1 [.flat])] (x21.2.map eOp))]⟩ ?_
  refine SRun.nil ?_
  refine nx_n ?_
  refine swp_cond (b := (x22 != x21.1)) (by kernel_rfl) (fun hb => ?_) (fun hb => ?_)
  replace h := cond_t hb h
  refine swp_seq ?_
  refine swp_reg ?_
  refine SRun.ck tbokGC 1 ⟨119, [(4, vb false)], []⟩ ?_
  refine SRun.nil ?_
  refine nx_n ?_
  refine swp_ret ?_
  replace h := Option.some.inj h
  subst h
  exact nx_r (q_fr (fin1 (by kernel_rfl) (finV rfl SV.flat_of (holds_t (by kernel_rfl)))))
  replace h := cond_f hb h
  refine swp_skip ?_
  refine nx_n ?_
  refine swp_seq ?_
  refine swp_reg ?_
  refine SRun.ck tbokGC 1 ⟨119, [(1, vl eOp aAB), (6, .own 6), (7, vi x5.2), (10, .own 10), (13, vi x21.1), (95, vl eOp aAA)], [(6, .deep 61 5 x5.1.length [.flat, .flat, .flat, .flat, (.sl 2 1 [.flat])] (x5.1.map eOp)), (10, .deep 61 5 x21.2.length [.flat, .flat, .flat, .flat, (.sl 2 1 [.flat])] (x21.2.map eOp))]⟩ ?_
  obtain ⟨x23, hx23, h⟩ := bind_some h
  refine SRun.ls (x_lstep_call (f := 14) (caps := []) (xs := [vl eOp aAA]) (ys := [vl eOp aAA]) (res := ⟨[.deep 61 5 x23.length [.flat, .flat, .flat, .flat, (.sl 2 1 [.flat])] (x23.map eOp)], [], false⟩) (x := .own 96) (y := some (.deep 61 5 x23.length [.flat, .flat, .flat, .flat, (.sl 2 1 [.flat])] (x23.map eOp))) rfl ents14 (laws_toOpS_run aAA _ hx23) rfl (by intro hc; cases hc)) ?_
  refine SRun.ck tbokGC 1 ⟨119, [(6, .own 6), (7, vi x5.2), (10, .own 10), (13, vi x21.1), (96, .own 96), (97, vl eOp aAB)], [(6, .deep 61 5 x5.1.length [.flat, .flat, .flat, .flat, (.sl 2 1 [.flat])] (x5.1.map eOp)), (10, .deep 61 5 x21.2.length [.flat, .flat, .flat, .flat, (.sl 2 1 [.flat])] (x21.2.map eOp)), (96, .deep 61 5 x23.length [.flat, .flat, .flat, .flat, (.sl 2 1 [.flat])] (x23.map eOp))]⟩ ?_
  obtain ⟨x24, hx24, h⟩ := bind_some h
  refine SRun.ls (x_lstep_call (f := 14) (caps := []) (xs := [vl eOp aAB]) (ys := [vl eOp aAB]) (res := ⟨[.deep 61 5 x24.length [.flat, .flat, .flat, .flat, (.sl 2 1 [.flat])] (x24.map eOp)], [], false⟩) (x := .own 98) (y := some (.deep 61 5 x24.length [.flat, .flat, .flat, .flat, (.sl 2 1 [.flat])] (x24.map eOp))) rfl ents14 (laws_toOpS_run aAB _ hx24) rfl (by intro hc; cases hc)) ?_
  obtain ⟨x25, hx25, h⟩ := bind_some h
  refine SRun.ls (x_lstep_call (f := 36) (caps := []) (xs := [.own 96, .own 98]) (ys := [vl eOp x23, vl eOp x24]) (res := ⟨[.deep 61 5 x25.1.length [.flat, .flat, .flat, .flat, (.sl 2 1 [.flat])] (x25.1.map eOp), .v (vi x25.2)], [], false⟩) (x := .tup [.own 99, vi x25.2]) (y := some (.deep 61 5 x25.1.length [.flat, .flat, .flat, .flat, (.sl 2 1 [.flat])] (x25.1.map eOp))) rfl ents36 (impl_MergeLogs_run x23 x24 _ hx25) rfl (by intro hc; cases hc)) ?_
  refine SRun.ck tbokGC 5 ⟨119, [(6, .own 6), (7, vi x5.2), (10, .own 10), (13, vi x21.1), (15, .own 99), (16, vi x25.2)], [(6, .deep 61 5 x5.1.length [.flat, .flat, .flat, .flat, (.sl 2 1 [.flat])] (x5.1.map eOp)), (10, .deep 61 5 x21.2.length [.flat, .flat, .flat, .flat, (.sl 2 1 [.flat])] (x21.2.map eOp)), (99, .deep 61 5 x25.1.length [.flat, .flat, .flat, .flat, (.sl 2 1 [.flat])] (x25.1.map eOp))]⟩ ?_
  refine SRun.nil ?_
  refine nx_n ?_
  refine swp_seq ?_
  refine swp_seq ?_
  refine swp_regJ h (fun j27 => ⟨119, [(10, .own 10), (13, vi x21.1), (110, vb j27)], [(10, .deep 61 5 x21.2.length [.flat, .flat, .flat, .flat, (.sl 2 1 [.flat])] (x21.2.map eOp))]⟩) (fun v28 h => ?_) (fun j27 h => ?_)
  refine SRun.ck tbokGC 2 ⟨119, [(7, vi x5.2), (10, .own 10), (13, vi x21.1), (16, vi x25.2), (102, .own 99), (103, .own 6)], [(6, .deep 61 5 x5.1.length [.flat, .flat, .flat, .flat, (.sl 2 1 [.flat])] (x5.1.map eOp)), (10, .deep 61 5 x21.2.length [.flat, .flat, .flat, .flat, (.sl 2 1 [.flat])] (x21.2.map eOp)), (99, .deep 61 5 x25.1.length [.flat, .flat, .flat, .flat, (.sl 2 1 [.flat])] (x25.1.map eOp))]⟩ ?_
  obtain ⟨x26, hx26, h⟩ := bind_some h
  refine SRun.ls (x_lstep_call (f := 16) (caps := []) (xs := [.own 99, .own 6]) (ys := [vl eOp x25.1, vl eOp x5.1]) (res := ⟨[.v (vb x26)], [], false⟩) (x := vb x26) (y := none) rfl ents16 (laws_eqOpS_run x25.1 x5.1 _ hx26) rfl (by intro hc; cases hc)) ?_
  refine SRun.ck tbokGC 2 ⟨119, [(7, vi x5.2), (10, .own 10), (13, vi x21.1), (16, vi x25.2), (106, vb (!x26))], [(10, .deep 61 5 x21.2.length [.flat, .flat, .flat, .flat, (.sl 2 1 [.flat])] (x21.2.map eOp))]⟩ ?_
  refine SRun.cut [(106, fun b => b)] (b := (!x26)) (by kernel_rfl) (fun hb => ?_) (fun hb => ?_)
  replace h := cond_t hb h
  refine SRun.ck tbokGC 4 ⟨119, [(10, .own 10), (13, vi x21.1), (110, vb true)], [(10, .deep 61 5 x21.2.length [.flat, .flat, .flat, .flat, (.sl 2 1 [.flat])] (x21.2.map eOp))]⟩ ?_
  refine SRun.nil ?_
  replace h := Option.some.inj h
  subst h
  exact Le.sub0
  replace h := cond_f hb h
  refine SRun.ck tbokGC 4 ⟨119, [(10, .own 10), (13, vi x21.1), (110, vb (x25.2 != x5.2))], [(10, .deep 61 5 x21.2.length [.flat, .flat, .flat, .flat, (.sl 2 1 [.flat])] (x21.2.map eOp))]⟩ ?_
  refine SRun.nil ?_
  replace h := Option.some.inj h
  subst h
  exact Le.sub0
  refine swp_cond (b := j27) (by kernel_rfl) (fun hb => ?_) (fun hb => ?_)
  replace h := cond_t hb h
  refine swp_seq ?_
  refine swp_reg ?_
  refine SRun.ck tbokGC 1 ⟨119, [(4, vb false)], []⟩ ?_
  refine SRun.nil ?_
  refine nx_n ?_
  refine swp_ret ?_
  replace h := Option.some.inj h
  subst h
  exact nx_r (q_fr (fin1 (by kernel_rfl) (finV rfl SV.flat_of (holds_t (by kernel_rfl)))))
  replace h := cond_f hb h
  refine swp_skip ?_
  refine nx_n ?_
  refine swp_seq ?_
  refine swp_reg ?_
  refine SRun.ck tbokGC 1 ⟨119, [(10, .own 10), (13, vi x21.1), (14, vi 1)], [(10, .deep 61 5 x21.2.length [.flat, .flat, .flat, .flat, (.sl 2 1 [.flat])] (x21.2.map eOp))]⟩ ?_
  refine SRun.nil ?_
  refine nx_n ?_
  refine swp_seq ?_
  refine swp_reg ?_
  refine SRun.ck tbokGC 2 ⟨119, [(13, vi x21.1), (111, .own 10), (112, vi 1)], [(10, .deep 61 5 x21.2.length [.flat, .flat, .flat, .flat, (.sl 2 1 [.flat])] (x21.2.map eOp))]⟩ ?_
  obtain ⟨x29, hx29, h⟩ := bind_some h
  refine SRun.ls (x_lstep_call (f := 34) (caps := []) (xs := [.own 10, vi 1]) (ys := [vl eOp x21.2, vi 1]) (res := ⟨[.v (vi x29)], [], false⟩) (x := vi x29) (y := none) rfl ents34 (laws_heldOpS_run x21.2 1 _ hx29) rfl (by intro hc; cases hc)) ?_
  refine SRun.ck tbokGC 1 ⟨119, [(13, vi x21.1), (14, vi x29)], []⟩ ?_
  refine SRun.nil ?_
  refine nx_n ?_
  refine swp_seq ?_
  refine swp_seq ?_
  refine swp_reg ?_
  refine SRun.ck tbokGC 2 ⟨119, [(13, vi x21.1), (14, vi x29), (115, vb (decide (x29 < 0)))], []⟩ ?_
  refine SRun.nil ?_
  refine nx_n ?_
  refine swp_cond (b := (decide (x29 < 0))) (by kernel_rfl) (fun hb => ?_) (fun hb => ?_)
  replace h := cond_t hb h
  refine swp_seq ?_
  refine swp_reg ?_
  refine SRun.ck tbokGC 1 ⟨119, [(4, vb false)], []⟩ ?_
  refine SRun.nil ?_
  refine nx_n ?_
  refine swp_ret ?_
  replace h := Option.some.inj h
  subst h
  exact nx_r (q_fr (fin1 (by kernel_rfl) (finV rfl SV.flat_of (holds_t (by kernel_rfl)))))
  replace h := cond_f hb h
  refine swp_skip ?_
  refine nx_n ?_
  refine swp_seq ?_
  refine swp_seq ?_
  refine swp_reg ?_
  refine SRun.ck tbokGC 3 ⟨119, [(118, vb (x29 != x21.1))], []⟩ ?_
  refine SRun.nil ?_
  refine nx_n ?_
  refine swp_cond (b := (x29 != x21.1)) (by kernel_rfl) (fun hb => ?_) (fun hb => ?_)
  replace h := cond_t hb h
  refine swp_seq ?_
  refine swp_reg ?_
  refine SRun.ck tbokGC 1 ⟨119, [(4, vb false)], []⟩ ?_
  refine SRun.nil ?_
  refine nx_n ?_
  refine swp_ret ?_
  replace h := Option.some.inj h
  subst h
  exact nx_r (q_fr (fin1 (by kernel_rfl) (finV rfl SV.flat_of (holds_t (by kernel_rfl)))))
  replace h := cond_f hb h
  refine swp_skip ?_
  refine nx_n ?_
  refine swp_seq ?_
  refine swp_reg ?_
  refine SRun.ck tbokGC 1 ⟨119, [(4, vb true)], []⟩ ?_
  refine SRun.nil ?_
  refine nx_n ?_
  refine swp_ret ?_
  replace h := Option.some.inj h
  subst h
  exact q_fr (fin1 (by kernel_rfl) (finV rfl SV.flat_of (holds_t (by kernel_rfl))))
theorem ents10 : Ents Tryd.prog 10 := ents_of Tryd.func10 (by kernel_rfl) rfl
end Go.Proofs.YthfcdicfcepfhaaDoor.Sh
