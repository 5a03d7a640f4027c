/- Typed functions and the calls that do what they say. -/
import Derived.Test.YtepmfngpdimkhaaGreatDoorGAp0
import Derived.Test.YtepmfngpdimkhaaGreatDoorKA
import Derived.Test.YtepmfngpdimkhaaGreatDoorKC
import Derived.Test.YtepmfngpdimkhaaGreatDoorKS
import Derived.Test.YtepmfngpdimkhaaGreatDoorSN
import Derived.Test.YtepmfngpdimkhaaGreatDoorH1
namespace Go.Proofs.YtepmfngpdimkhaaGreatDoor.Sh
open Go.RowKit
set_option maxRecDepth 100000
set_option maxHeartbeats 4000000
noncomputable def impl_editDistance (aA : ByteArray) (aB : ByteArray) : Option (Int) :=
  ((make' 0 (w64 ((aB.size : Int) + 1))).bind fun x1 => (((forS (x1.length : Int) (fun (i4 : Int) (s4 : (List Int)) => ((at' s4 i4).bind fun _ => some (List.set s4 (Int.toNat i4) i4))) (fun (s4 : (List Int)) => s4) 0 x1)).bind fun (j2 : (List Int)) => (((forS (aA.size : Int) (fun (i11 : Int) (s11 : (List Int)) => (((forS (aB.size : Int) (fun (i17 : Int) (s17 : (List Int)) => ((at' s11 i17).bind fun x21 => ((byte' aA i11).bind fun x22 => ((byte' aB i17).bind fun x23 => (((bif (x22 != x23) then some (w64 (x21 + 1)) else some x21)).bind fun (j24 : Int) => ((at' s11 (w64 (i17 + 1))).bind fun x26 => ((at' s17 i17).bind fun x27 => ((app' s17 ([(minI (minI j24 (w64 (x26 + 1))) (w64 (x27 + 1)))] : List Int)).bind fun x29 => some x29)))))))) (fun (s17 : (List Int)) => s17) 0 ([(w64 (i11 + 1))] : List Int))).bind fun (j15 : (List Int)) => some j15)) (fun (s11 : (List Int)) => s11) 0 j2)).bind fun (j9 : (List Int)) => ((at' j9 (aB.size : Int)).bind fun x30 => some x30))))
theorem impl_editDistance_run (aA : ByteArray) (aB : ByteArray) (r : Int) (h : impl_editDistance aA aB = some r) : SCall Tryz.prog 90 [.v (vs aA), .v (vs aB)] ⟨[.v (vi r)], [], false⟩ := by
  refine scall_in Tryz.func90 rfl [(.tmp 4)] rfl (fun r => ⟨[.v (vi r)], [], false⟩) (r := r) ?_
  unfold impl_editDistance at h
  refine srk tbok ⟨75, [(0, vs aA), (1, vs aB)], []⟩ ?_
  refine sr ?_
  refine SRun.ck tbok 3 ⟨75, [(0, vs aA), (1, vs aB), (13, vi (w64 ((aB.size : Int) + 1)))], []⟩ ?_
  obtain ⟨x1, hx1, h⟩ := bind_some h
  refine SRun.ls (x_make (z := 0) (f := (eI .i64)) (ti := ti54) (tj := ti2) (e := 2) (m := 1) (k := .i64) (k' := .i64) hx1 tbok rfl rfl (zs := [.int .i64 0])) ?_
  refine ckn tbok 1 ⟨75, [(0, vs aA), (1, vs aB), (5, .own 14)], [(14, oa 2 1 (eI .i64) x1)]⟩ ?_
  refine swp_seq ?_
  refine srk tbok ⟨75, [(0, vs aA), (1, vs aB), (5, .own 14), (16, vi (x1.length : Int)), (17, vi 0)], [(14, oa 2 1 (eI .i64) x1)]⟩ ?_
  refine swp_seqJ h (fun j2 => ⟨75, [(0, vs aA), (1, vs aB), (5, .own 5)], [(5, oa 2 1 (eI .i64) j2)]⟩) (fun v3 h => ?_) (fun j2 h => ?_)
  refine swp_blk (a := v3) ?_
  refine swp_lpL (r := v3) (s := (0, x1)) _ (fun s4 => ⟨75, [(0, vs aA), (1, vs aB), (5, .own 5), (16, vi (x1.length : Int)), (17, vi s4.1)], [(5, oa 2 1 (eI .i64) s4.2)]⟩) _ ((Le.sub' ([(0, vs aA), (1, vs aB), (5, .own 14), (16, vi (x1.length : Int)), (17, vi 0)] : List (Nat × SV)) ([(14, oa 2 1 (eI .i64) x1)] : List (Nat × SO)) (by kernel_rfl) (by kernel_rfl)).trans ((Le.ren' (d := 14) (e := 5) (by kernel_rfl) (by kernel_rfl) (by kernel_rfl)).trans (Le.sub0))) h (fun s4 v5 h => ?_)
  refine srk tbok ⟨75, [(0, vs aA), (1, vs aB), (5, .own 5), (16, vi (x1.length : Int)), (17, vi s4.1), (18, vb (decide (s4.1 < (x1.length : Int))))], [(5, oa 2 1 (eI .i64) s4.2)]⟩ ?_
  refine swp_seq ?_
  refine swp_cd h (fun h => ?_) fun h => ?_
  refine swp_skip ?_
  refine nx_n ?_
  refine swp_seq ?_
  refine swp_seqJ h (fun j6 => ⟨75, [(0, vs aA), (1, vs aB), (5, .own 5), (16, vi (x1.length : Int)), (17, vi s4.1)], [(5, oa 2 1 (eI .i64) j6)]⟩) (fun v7 h => ?_) (fun j6 h => ?_)
  refine swp_blk (a := v7) ?_
  refine srk tbok ⟨75, [(0, vs aA), (1, vs aB), (5, .own 5), (6, vi s4.1), (16, vi (x1.length : Int)), (17, vi s4.1)], [(5, oa 2 1 (eI .i64) s4.2)]⟩ ?_
  refine swp_reg ?_
  refine SRun.ck tbok 3 ⟨75, [(0, vs aA), (1, vs aB), (5, .own 5), (16, vi (x1.length : Int)), (17, vi s4.1), (20, .own 5), (21, vi s4.1), (22, vi s4.1)], [(5, oa 2 1 (eI .i64) s4.2)]⟩ ?_
  obtain ⟨x8, hx8, h⟩ := bind_some h
  refine SRun.ls (x_index_own (d := 5) (L := s4.2) (f := (eI .i64)) (ti := ti54) (tj := ti2) (e := 2) (e' := 2) (m := 1) (k := .i64) tbok rfl hx8) ?_
  refine SRun.estep (x_store_own (d := 5) (m := 1) (j := 0) (L := s4.2) (f := (eI .i64)) (x := s4.1) (z := x8) (ti := ti2) (e := 2) (ts := [.int .i64 s4.1]) (vs := [vi s4.1]) (v := vi s4.1) tbok rfl rfl hx8) ?_
  refine SRun.nil ?_
  obtain rfl := inj h
  exact q_bn (q_j (Le.sub0))
  refine swp_reg ?_
  refine SRun.ck tbok 2 ⟨75, [(0, vs aA), (1, vs aB), (5, .own 5), (16, vi (x1.length : Int)), (17, vi (w64 (s4.1 + 1)))], [(5, oa 2 1 (eI .i64) j6)]⟩ ?_
  refine SRun.nil ?_
  obtain rfl := inj h
  exact q_l (Le.sub0)
  refine swp_exit ?_
  obtain rfl := inj h
  exact nx_e (q_re (q_bh (q_j (Le.sub0))))
  refine swp_seq ?_
  refine srk tbok ⟨75, [(0, vs aA), (1, vs aB), (5, .own 5), (26, vi (aA.size : Int)), (27, vi 0)], [(5, oa 2 1 (eI .i64) j2)]⟩ ?_
  refine swp_seqJ h (fun j9 => ⟨75, [(1, vs aB), (5, .own 5)], [(5, oa 2 1 (eI .i64) j9)]⟩) (fun v10 h => ?_) (fun j9 h => ?_)
  refine swp_blk (a := v10) ?_
  refine swp_lpL (r := v10) (s := (0, j2)) _ (fun s11 => ⟨75, [(0, vs aA), (1, vs aB), (5, .own 5), (26, vi (aA.size : Int)), (27, vi s11.1)], [(5, oa 2 1 (eI .i64) s11.2)]⟩) _ (Le.sub0) h (fun s11 v12 h => ?_)
  refine srk tbok ⟨75, [(0, vs aA), (1, vs aB), (5, .own 5), (26, vi (aA.size : Int)), (27, vi s11.1), (28, vb (decide (s11.1 < (aA.size : Int))))], [(5, oa 2 1 (eI .i64) s11.2)]⟩ ?_
  refine swp_seq ?_
  refine swp_cd h (fun h => ?_) fun h => ?_
  refine swp_skip ?_
  refine nx_n ?_
  refine swp_seq ?_
  refine swp_seqJ h (fun j13 => ⟨75, [(0, vs aA), (1, vs aB), (5, .own 5), (26, vi (aA.size : Int)), (27, vi s11.1)], [(5, oa 2 1 (eI .i64) j13)]⟩) (fun v14 h => ?_) (fun j13 h => ?_)
  refine swp_blk (a := v14) ?_
  refine srk tbok ⟨75, [(0, vs aA), (1, vs aB), (5, .own 5), (7, vi s11.1), (26, vi (aA.size : Int)), (27, vi s11.1)], [(5, oa 2 1 (eI .i64) s11.2)]⟩ ?_
  refine srk tbok ⟨75, [(0, vs aA), (1, vs aB), (5, .own 5), (7, vi s11.1), (8, .own 32), (26, vi (aA.size : Int)), (27, vi s11.1)], [(5, oa 2 1 (eI .i64) s11.2), (32, oa 2 1 (eI .i64) ([(w64 (s11.1 + 1))] : List Int))]⟩ ?_
  refine swp_seq ?_
  refine srk tbok ⟨75, [(0, vs aA), (1, vs aB), (5, .own 5), (7, vi s11.1), (8, .own 32), (26, vi (aA.size : Int)), (27, vi s11.1), (34, vi (aB.size : Int)), (35, vi 0)], [(5, oa 2 1 (eI .i64) s11.2), (32, oa 2 1 (eI .i64) ([(w64 (s11.1 + 1))] : List Int))]⟩ ?_
  refine swp_seqJ h (fun j15 => ⟨75, [(0, vs aA), (1, vs aB), (8, .own 8), (26, vi (aA.size : Int)), (27, vi s11.1)], [(8, oa 2 1 (eI .i64) j15)]⟩) (fun v16 h => ?_) (fun j15 h => ?_)
  refine swp_blk (a := v16) ?_
  refine swp_lpL (r := v16) (s := (0, ([(w64 (s11.1 + 1))] : List Int))) _ (fun s17 => ⟨75, [(0, vs aA), (1, vs aB), (5, .own 5), (7, vi s11.1), (8, .own 8), (26, vi (aA.size : Int)), (27, vi s11.1), (34, vi (aB.size : Int)), (35, vi s17.1)], [(5, oa 2 1 (eI .i64) s11.2), (8, oa 2 1 (eI .i64) s17.2)]⟩) _ ((Le.sub' ([(0, vs aA), (1, vs aB), (5, .own 5), (7, vi s11.1), (8, .own 32), (26, vi (aA.size : Int)), (27, vi s11.1), (34, vi (aB.size : Int)), (35, vi 0)] : List (Nat × SV)) ([(5, oa 2 1 (eI .i64) s11.2), (32, oa 2 1 (eI .i64) ([(w64 (s11.1 + 1))] : List Int))] : List (Nat × SO)) (by kernel_rfl) (by kernel_rfl)).trans ((Le.ren' (d := 32) (e := 8) (by kernel_rfl) (by kernel_rfl) (by kernel_rfl)).trans (Le.sub0))) h (fun s17 v18 h => ?_)
  refine srk tbok ⟨75, [(0, vs aA), (1, vs aB), (5, .own 5), (7, vi s11.1), (8, .own 8), (26, vi (aA.size : Int)), (27, vi s11.1), (34, vi (aB.size : Int)), (35, vi s17.1), (36, vb (decide (s17.1 < (aB.size : Int))))], [(5, oa 2 1 (eI .i64) s11.2), (8, oa 2 1 (eI .i64) s17.2)]⟩ ?_
  refine swp_seq ?_
  refine swp_cd h (fun h => ?_) fun h => ?_
  refine swp_skip ?_
  refine nx_n ?_
  refine swp_seq ?_
  refine swp_seqJ h (fun j19 => ⟨75, [(0, vs aA), (1, vs aB), (5, .own 5), (7, vi s11.1), (8, .own 8), (26, vi (aA.size : Int)), (27, vi s11.1), (34, vi (aB.size : Int)), (35, vi s17.1)], [(5, oa 2 1 (eI .i64) s11.2), (8, oa 2 1 (eI .i64) j19)]⟩) (fun v20 h => ?_) (fun j19 h => ?_)
  refine swp_blk (a := v20) ?_
  refine srk tbok ⟨75, [(0, vs aA), (1, vs aB), (5, .own 5), (7, vi s11.1), (8, .own 8), (9, vi s17.1), (26, vi (aA.size : Int)), (27, vi s11.1), (34, vi (aB.size : Int)), (35, vi s17.1)], [(5, oa 2 1 (eI .i64) s11.2), (8, oa 2 1 (eI .i64) s17.2)]⟩ ?_
  refine sr ?_
  refine SRun.ck tbok 2 ⟨75, [(0, vs aA), (1, vs aB), (5, .own 5), (7, vi s11.1), (8, .own 8), (9, vi s17.1), (26, vi (aA.size : Int)), (27, vi s11.1), (34, vi (aB.size : Int)), (35, vi s17.1), (38, .own 5), (39, vi s17.1)], [(5, oa 2 1 (eI .i64) s11.2), (8, oa 2 1 (eI .i64) s17.2)]⟩ ?_
  obtain ⟨x21, hx21, h⟩ := bind_some h
  refine SRun.ls (x_index_own (d := 5) (L := s11.2) (f := (eI .i64)) (ti := ti54) (tj := ti2) (e := 2) (e' := 2) (m := 1) (k := .i64) tbok rfl hx21) ?_
  refine SRun.ls (x_load_own (d := 5) (m := 1) (j := 0) (L := s11.2) (f := (eI .i64)) (ti := ti2) (e := 2) (v := vi x21) tbok rfl hx21) ?_
  refine ckn tbok 1 ⟨75, [(0, vs aA), (1, vs aB), (5, .own 5), (7, vi s11.1), (8, .own 8), (9, vi s17.1), (10, vi x21), (26, vi (aA.size : Int)), (27, vi s11.1), (34, vi (aB.size : Int)), (35, vi s17.1)], [(5, oa 2 1 (eI .i64) s11.2), (8, oa 2 1 (eI .i64) s17.2)]⟩ ?_
  refine swp_seq ?_
  refine swp_seq ?_
  refine swp_dr mixed ?_
  refine DGo.ck tbok false 2 ⟨75, [(0, vs aA), (1, vs aB), (5, .own 5), (7, vi s11.1), (8, .own 8), (9, vi s17.1), (10, vi x21), (26, vi (aA.size : Int)), (27, vi s11.1), (34, vi (aB.size : Int)), (35, vi s17.1), (42, vs aA), (43, vi s11.1)], [(5, oa 2 1 (eI .i64) s11.2), (8, oa 2 1 (eI .i64) s17.2)]⟩ ?_
  obtain ⟨x22, hx22, h⟩ := bind_some h
  refine DGo.step (x_byte (ti := ti9) (k := .i64) hx22 tbok rfl) ?_
  refine DGo.ck tbok false 2 ⟨75, [(0, vs aA), (1, vs aB), (5, .own 5), (7, vi s11.1), (8, .own 8), (9, vi s17.1), (10, vi x21), (26, vi (aA.size : Int)), (27, vi s11.1), (34, vi (aB.size : Int)), (35, vi s17.1), (44, .tr (.int .u8 x22)), (45, vs aB), (46, vi s17.1)], [(5, oa 2 1 (eI .i64) s11.2), (8, oa 2 1 (eI .i64) s17.2)]⟩ ?_
  obtain ⟨x23, hx23, h⟩ := bind_some h
  refine DGo.step (x_byte (ti := ti9) (k := .i64) hx23 tbok rfl) ?_
  refine DGo.ck tbok false 1 ⟨75, [(0, vs aA), (1, vs aB), (5, .own 5), (7, vi s11.1), (8, .own 8), (9, vi s17.1), (10, vi x21), (26, vi (aA.size : Int)), (27, vi s11.1), (34, vi (aB.size : Int)), (35, vi s17.1), (48, vb (x22 != x23))], [(5, oa 2 1 (eI .i64) s11.2), (8, oa 2 1 (eI .i64) s17.2)]⟩ ?_
  refine DGo.nx ?_
  refine swp_seqJ h (fun j24 => ⟨75, [(0, vs aA), (1, vs aB), (5, .own 5), (7, vi s11.1), (8, .own 8), (9, vi s17.1), (10, vi j24), (26, vi (aA.size : Int)), (27, vi s11.1), (34, vi (aB.size : Int)), (35, vi s17.1)], [(5, oa 2 1 (eI .i64) s11.2), (8, oa 2 1 (eI .i64) s17.2)]⟩) (fun v25 h => ?_) (fun j24 h => ?_)
  refine swp_cd h (fun h => ?_) fun h => ?_
  refine swp_reg ?_
  refine SRun.ck tbok 3 ⟨75, [(0, vs aA), (1, vs aB), (5, .own 5), (7, vi s11.1), (8, .own 8), (9, vi s17.1), (10, vi (w64 (x21 + 1))), (26, vi (aA.size : Int)), (27, vi s11.1), (34, vi (aB.size : Int)), (35, vi s17.1)], [(5, oa 2 1 (eI .i64) s11.2), (8, oa 2 1 (eI .i64) s17.2)]⟩ ?_
  refine SRun.nil ?_
  obtain rfl := inj h
  exact q_j (Le.sub0)
  refine swp_skip ?_
  obtain rfl := inj h
  exact q_j (Le.sub0)
  refine swp_dr mixed ?_
  refine DGo.ck tbok false 5 ⟨75, [(0, vs aA), (1, vs aB), (5, .own 5), (7, vi s11.1), (8, .own 8), (9, vi s17.1), (26, vi (aA.size : Int)), (27, vi s11.1), (34, vi (aB.size : Int)), (35, vi s17.1), (51, .own 8), (52, vi j24), (53, .own 5), (55, vi (w64 (s17.1 + 1)))], [(5, oa 2 1 (eI .i64) s11.2), (8, oa 2 1 (eI .i64) s17.2)]⟩ ?_
  obtain ⟨x26, hx26, h⟩ := bind_some h
  refine DGo.step (x_index_own (d := 5) (L := s11.2) (f := (eI .i64)) (ti := ti54) (tj := ti2) (e := 2) (e' := 2) (m := 1) (k := .i64) tbok rfl hx26) ?_
  refine DGo.step (x_load_own (d := 5) (m := 1) (j := 0) (L := s11.2) (f := (eI .i64)) (ti := ti2) (e := 2) (v := vi x26) tbok rfl hx26) ?_
  refine DGo.ck tbok false 3 ⟨75, [(0, vs aA), (1, vs aB), (5, .own 5), (7, vi s11.1), (26, vi (aA.size : Int)), (27, vi s11.1), (34, vi (aB.size : Int)), (35, vi s17.1), (51, .own 8), (52, vi j24), (58, vi (w64 (x26 + 1))), (59, .own 8), (60, vi s17.1)], [(5, oa 2 1 (eI .i64) s11.2), (8, oa 2 1 (eI .i64) s17.2)]⟩ ?_
  obtain ⟨x27, hx27, h⟩ := bind_some h
  refine DGo.step (x_index_own (d := 8) (L := s17.2) (f := (eI .i64)) (ti := ti54) (tj := ti2) (e := 2) (e' := 2) (m := 1) (k := .i64) tbok rfl hx27) ?_
  refine DGo.step (x_load_own (d := 8) (m := 1) (j := 0) (L := s17.2) (f := (eI .i64)) (ti := ti2) (e := 2) (v := vi x27) tbok rfl hx27) ?_
  refine DGo.ck tbok false 3 ⟨75, [(0, vs aA), (1, vs aB), (5, .own 5), (7, vi s11.1), (26, vi (aA.size : Int)), (27, vi s11.1), (34, vi (aB.size : Int)), (35, vi s17.1), (51, .own 8), (65, .own 65)], [(5, oa 2 1 (eI .i64) s11.2), (8, oa 2 1 (eI .i64) s17.2), (65, oa 2 1 (eI .i64) ([(minI (minI j24 (w64 (x26 + 1))) (w64 (x27 + 1)))] : List Int))]⟩ ?_
  refine DGo.seq (by kernel_rfl) (by kernel_rfl) ?_
  obtain ⟨x29, hx29, h⟩ := bind_some h
  refine SRun.estep (x_append (f := (eI .i64)) (t := 54) (ti := ti54) (tj := ti2) (zs := [.int .i64 0]) (e := 2) (m := 1) (d := 8) (xv := .own 65) hx29 tbok rfl rfl rfl rfl (x_src_o (e := 2))) ?_
  refine SRun.ck tbok 1 ⟨75, [(0, vs aA), (1, vs aB), (5, .own 5), (7, vi s11.1), (8, .own 66), (26, vi (aA.size : Int)), (27, vi s11.1), (34, vi (aB.size : Int)), (35, vi s17.1)], [(5, oa 2 1 (eI .i64) s11.2), (66, oa 2 1 (eI .i64) x29)]⟩ ?_
  refine SRun.nil ?_
  obtain rfl := inj h
  exact q_bn (q_j ((Le.sub' ([(0, vs aA), (1, vs aB), (5, .own 5), (7, vi s11.1), (8, .own 66), (26, vi (aA.size : Int)), (27, vi s11.1), (34, vi (aB.size : Int)), (35, vi s17.1)] : List (Nat × SV)) ([(5, oa 2 1 (eI .i64) s11.2), (66, oa 2 1 (eI .i64) x29)] : List (Nat × SO)) (by kernel_rfl) (by kernel_rfl)).trans ((Le.ren' (d := 66) (e := 8) (by kernel_rfl) (by kernel_rfl) (by kernel_rfl)).trans (Le.sub0))))
  refine swp_reg ?_
  refine SRun.ck tbok 2 ⟨75, [(0, vs aA), (1, vs aB), (5, .own 5), (7, vi s11.1), (8, .own 8), (26, vi (aA.size : Int)), (27, vi s11.1), (34, vi (aB.size : Int)), (35, vi (w64 (s17.1 + 1)))], [(5, oa 2 1 (eI .i64) s11.2), (8, oa 2 1 (eI .i64) j19)]⟩ ?_
  refine SRun.nil ?_
  obtain rfl := inj h
  exact q_l (Le.sub0)
  refine swp_exit ?_
  obtain rfl := inj h
  exact nx_e (q_re (q_bh (q_j (Le.sub0))))
  refine swp_reg ?_
  refine SRun.ck tbok 2 ⟨75, [(0, vs aA), (1, vs aB), (5, .own 8), (26, vi (aA.size : Int)), (27, vi s11.1)], [(8, oa 2 1 (eI .i64) j15)]⟩ ?_
  refine SRun.nil ?_
  obtain rfl := inj h
  exact q_bn (q_j ((Le.sub' ([(0, vs aA), (1, vs aB), (5, .own 8), (26, vi (aA.size : Int)), (27, vi s11.1)] : List (Nat × SV)) ([(8, oa 2 1 (eI .i64) j15)] : List (Nat × SO)) (by kernel_rfl) (by kernel_rfl)).trans ((Le.ren' (d := 8) (e := 5) (by kernel_rfl) (by kernel_rfl) (by kernel_rfl)).trans (Le.sub0))))
  refine swp_reg ?_
  refine SRun.ck tbok 2 ⟨75, [(0, vs aA), (1, vs aB), (5, .own 5), (26, vi (aA.size : Int)), (27, vi (w64 (s11.1 + 1)))], [(5, oa 2 1 (eI .i64) j13)]⟩ ?_
  refine SRun.nil ?_
  obtain rfl := inj h
  exact q_l (Le.sub0)
  refine swp_exit ?_
  obtain rfl := inj h
  exact nx_e (q_re (q_bh (q_j (Le.sub0))))
  refine sr ?_
  refine SRun.ck tbok 3 ⟨75, [(70, .own 5), (72, vi (aB.size : Int))], [(5, oa 2 1 (eI .i64) j9)]⟩ ?_
  obtain ⟨x30, hx30, h⟩ := bind_some h
  refine SRun.ls (x_index_own (d := 5) (L := j9) (f := (eI .i64)) (ti := ti54) (tj := ti2) (e := 2) (e' := 2) (m := 1) (k := .i64) tbok rfl hx30) ?_
  refine SRun.ls (x_load_own (d := 5) (m := 1) (j := 0) (L := j9) (f := (eI .i64)) (ti := ti2) (e := 2) (v := vi x30) tbok rfl hx30) ?_
  refine ckn tbok 1 ⟨75, [(4, vi x30)], []⟩ ?_
  refine swp_ret ?_
  obtain rfl := inj h
  exact q_fr (f1 fv)
theorem ents90 : Ents Tryz.prog 90 := ents_of Tryz.func90 (by kernel_rfl) rfl
noncomputable def impl_phraseDistance (aA : ByteArray) (aB : ByteArray) : Option (Int) :=
  ((impl_wordsOf aA).bind fun x1 => ((impl_wordsOf aB).bind fun x2 => (((bif (decide ((x1.length : Int) < (x2.length : Int))) then some (x2, x1) else some (x1, x2))).bind fun (j3 : (List ByteArray) × (List ByteArray)) => (((forS (j3.1.length : Int) (fun (i7 : Int) (s7 : Int) => ((at' j3.1 i7).bind fun x11 => (bif (decide (i7 < (j3.2.length : Int))) then ((at' j3.2 i7).bind fun x12 => ((impl_editDistance x11 x12).bind fun x13 => some (w64 (s7 + x13)))) else some (w64 (s7 + (x11.size : Int)))))) (fun (s7 : Int) => s7) 0 0)).bind fun (j5 : Int) => some j5))))
theorem impl_phraseDistance_run (aA : ByteArray) (aB : ByteArray) (r : Int) (h : impl_phraseDistance aA aB = some r) : SCall Tryz.prog 64 [.v (vs aA), .v (vs aB)] ⟨[.v (vi r)], [], false⟩ := by
  refine scall_in Tryz.func64 rfl [(.tmp 4)] rfl (fun r => ⟨[.v (vi r)], [], false⟩) (r := r) ?_
  unfold impl_phraseDistance at h
  refine srk tbok ⟨46, [(0, vs aA), (1, vs aB)], []⟩ ?_
  refine sr ?_
  refine SRun.ck tbok 1 ⟨46, [(1, vs aB), (10, vs aA)], []⟩ ?_
  obtain ⟨x1, hx1, h⟩ := bind_some h
  refine SRun.ls (xc ents88 (impl_wordsOf_run aA _ hx1)) ?_
  refine SRun.ck tbok 1 ⟨46, [(11, .own 11), (12, vs aB)], [(11, oa 9 1 eS x1)]⟩ ?_
  obtain ⟨x2, hx2, h⟩ := bind_some h
  refine SRun.ls (xc ents88 (impl_wordsOf_run aB _ hx2)) ?_
  refine ckn tbok 2 ⟨46, [(5, .own 11), (6, .own 13)], [(11, oa 9 1 eS x1), (13, oa 9 1 eS x2)]⟩ ?_
  refine swp_seq ?_
  refine srk tbok ⟨46, [(5, .own 11), (6, .own 13), (18, vb (decide ((x1.length : Int) < (x2.length : Int))))], [(11, oa 9 1 eS x1), (13, oa 9 1 eS x2)]⟩ ?_
  refine swp_seqJ h (fun j3 => ⟨46, [(5, .own 5), (6, .own 6)], [(5, oa 9 1 eS j3.1), (6, oa 9 1 eS j3.2)]⟩) (fun v4 h => ?_) (fun j3 h => ?_)
  refine swp_cd h (fun h => ?_) fun h => ?_
  refine swp_reg ?_
  refine SRun.ck tbok 4 ⟨46, [(5, .own 13), (6, .own 11)], [(11, oa 9 1 eS x1), (13, oa 9 1 eS x2)]⟩ ?_
  refine SRun.nil ?_
  obtain rfl := inj h
  exact q_j ((Le.sub' ([(5, .own 13), (6, .own 11)] : List (Nat × SV)) ([(11, oa 9 1 eS x1), (13, oa 9 1 eS x2)] : List (Nat × SO)) (by kernel_rfl) (by kernel_rfl)).trans ((Le.ren' (d := 13) (e := 5) (by kernel_rfl) (by kernel_rfl) (by kernel_rfl)).trans ((Le.ren' (d := 11) (e := 6) (by kernel_rfl) (by kernel_rfl) (by kernel_rfl)).trans (Le.sub0))))
  refine swp_skip ?_
  obtain rfl := inj h
  exact q_j ((Le.sub' ([(5, .own 11), (6, .own 13)] : List (Nat × SV)) ([(11, oa 9 1 eS x1), (13, oa 9 1 eS x2)] : List (Nat × SO)) (by kernel_rfl) (by kernel_rfl)).trans ((Le.ren' (d := 11) (e := 5) (by kernel_rfl) (by kernel_rfl) (by kernel_rfl)).trans ((Le.ren' (d := 13) (e := 6) (by kernel_rfl) (by kernel_rfl) (by kernel_rfl)).trans (Le.sub0))))
  refine srk tbok ⟨46, [(5, .own 5), (6, .own 6), (7, vi 0)], [(5, oa 9 1 eS j3.1), (6, oa 9 1 eS j3.2)]⟩ ?_
  refine swp_seq ?_
  refine srk tbok ⟨46, [(6, .own 6), (7, vi 0), (21, .own 5), (22, vi (j3.1.length : Int)), (23, vi 0)], [(5, oa 9 1 eS j3.1), (6, oa 9 1 eS j3.2)]⟩ ?_
  refine swp_seqJ h (fun j5 => ⟨46, [(7, vi j5)], []⟩) (fun v6 h => ?_) (fun j5 h => ?_)
  refine swp_blk (a := v6) ?_
  refine swp_lpL (r := v6) (s := (0, 0)) _ (fun s7 => ⟨46, [(6, .own 6), (7, vi s7.2), (21, .own 21), (22, vi (j3.1.length : Int)), (23, vi s7.1)], [(21, oa 9 1 eS j3.1), (6, oa 9 1 eS j3.2)]⟩) _ ((Le.sub' ([(6, .own 6), (7, vi 0), (21, .own 5), (22, vi (j3.1.length : Int)), (23, vi 0)] : List (Nat × SV)) ([(5, oa 9 1 eS j3.1), (6, oa 9 1 eS j3.2)] : List (Nat × SO)) (by kernel_rfl) (by kernel_rfl)).trans ((Le.ren' (d := 5) (e := 21) (by kernel_rfl) (by kernel_rfl) (by kernel_rfl)).trans (Le.sub0))) h (fun s7 v8 h => ?_)
  refine srk tbok ⟨46, [(6, .own 6), (7, vi s7.2), (21, .own 21), (22, vi (j3.1.length : Int)), (23, vi s7.1), (24, vb (decide (s7.1 < (j3.1.length : Int))))], [(6, oa 9 1 eS j3.2), (21, oa 9 1 eS j3.1)]⟩ ?_
  refine swp_seq ?_
  refine swp_cd h (fun h => ?_) fun h => ?_
  refine swp_skip ?_
  refine nx_n ?_
  refine swp_seq ?_
  refine swp_seqJ h (fun j9 => ⟨46, [(6, .own 6), (7, vi j9), (21, .own 21), (22, vi (j3.1.length : Int)), (23, vi s7.1)], [(6, oa 9 1 eS j3.2), (21, oa 9 1 eS j3.1)]⟩) (fun v10 h => ?_) (fun j9 h => ?_)
  refine swp_blk (a := v10) ?_
  refine sr ?_
  refine SRun.ck tbok 1 ⟨46, [(6, .own 6), (7, vi s7.2), (21, .own 21), (22, vi (j3.1.length : Int)), (23, vi s7.1), (25, vi s7.1)], [(6, oa 9 1 eS j3.2), (21, oa 9 1 eS j3.1)]⟩ ?_
  obtain ⟨x11, hx11, h⟩ := bind_some h
  refine SRun.ls (x_index_own (d := 21) (L := j3.1) (f := eS) (ti := ti114) (tj := ti9) (e := 9) (e' := 9) (m := 1) (k := .i64) tbok rfl hx11) ?_
  refine SRun.ls (x_load_own (d := 21) (m := 1) (j := 0) (L := j3.1) (f := eS) (ti := ti9) (e := 9) (v := vs x11) tbok rfl hx11) ?_
  refine ckn tbok 2 ⟨46, [(6, .own 6), (7, vi s7.2), (8, vi s7.1), (9, vs x11), (21, .own 21), (22, vi (j3.1.length : Int)), (23, vi s7.1)], [(6, oa 9 1 eS j3.2), (21, oa 9 1 eS j3.1)]⟩ ?_
  refine srk tbok ⟨46, [(6, .own 6), (7, vi s7.2), (8, vi s7.1), (9, vs x11), (21, .own 21), (22, vi (j3.1.length : Int)), (23, vi s7.1), (31, vb (decide (s7.1 < (j3.2.length : Int))))], [(6, oa 9 1 eS j3.2), (21, oa 9 1 eS j3.1)]⟩ ?_
  refine swp_cd h (fun h => ?_) fun h => ?_
  refine swp_reg ?_
  refine SRun.ck tbok 4 ⟨46, [(6, .own 6), (21, .own 21), (22, vi (j3.1.length : Int)), (23, vi s7.1), (32, vi s7.2), (33, vs x11), (34, .own 6), (35, vi s7.1)], [(6, oa 9 1 eS j3.2), (21, oa 9 1 eS j3.1)]⟩ ?_
  obtain ⟨x12, hx12, h⟩ := bind_some h
  refine SRun.ls (x_index_own (d := 6) (L := j3.2) (f := eS) (ti := ti114) (tj := ti9) (e := 9) (e' := 9) (m := 1) (k := .i64) tbok rfl hx12) ?_
  refine SRun.ls (x_load_own (d := 6) (m := 1) (j := 0) (L := j3.2) (f := eS) (ti := ti9) (e := 9) (v := vs x12) tbok rfl hx12) ?_
  obtain ⟨x13, hx13, h⟩ := bind_some h
  refine SRun.ls (xc ents90 (impl_editDistance_run x11 x12 _ hx13)) ?_
  refine SRun.ck tbok 2 ⟨46, [(6, .own 6), (7, vi (w64 (s7.2 + x13))), (21, .own 21), (22, vi (j3.1.length : Int)), (23, vi s7.1)], [(6, oa 9 1 eS j3.2), (21, oa 9 1 eS j3.1)]⟩ ?_
  refine SRun.nil ?_
  obtain rfl := inj h
  exact q_bn (q_j (Le.sub0))
  refine swp_reg ?_
  refine SRun.ck tbok 5 ⟨46, [(6, .own 6), (7, vi (w64 (s7.2 + (x11.size : Int)))), (21, .own 21), (22, vi (j3.1.length : Int)), (23, vi s7.1)], [(6, oa 9 1 eS j3.2), (21, oa 9 1 eS j3.1)]⟩ ?_
  refine SRun.nil ?_
  obtain rfl := inj h
  exact q_bn (q_j (Le.sub0))
  refine swp_reg ?_
  refine SRun.ck tbok 2 ⟨46, [(6, .own 6), (7, vi j9), (21, .own 21), (22, vi (j3.1.length : Int)), (23, vi (w64 (s7.1 + 1)))], [(6, oa 9 1 eS j3.2), (21, oa 9 1 eS j3.1)]⟩ ?_
  refine SRun.nil ?_
  obtain rfl := inj h
  exact q_l (Le.sub0)
  refine swp_exit ?_
  obtain rfl := inj h
  exact nx_e (q_re (q_bh (q_j (Le.sub0))))
  refine srk tbok ⟨46, [(4, vi j5)], []⟩ ?_
  refine swp_ret ?_
  obtain rfl := inj h
  exact q_fr (f1 fv)
theorem ents64 : Ents Tryz.prog 64 := ents_of Tryz.func64 (by kernel_rfl) rfl
noncomputable def impl_squared (aA : Point) (aB : Point) : Option (Int) :=
  some (w64 ((w64 ((w64 (aA.X - aB.X)) * (w64 (aA.X - aB.X)))) + (w64 ((w64 (aA.Y - aB.Y)) * (w64 (aA.Y - aB.Y))))))
theorem impl_squared_run (aA : Point) (aB : Point) (r : Int) (h : impl_squared aA aB = some r) : SCall Tryz.prog 115 [.v (.agg (tc ePoint aA)), .v (.agg (tc ePoint aB))] ⟨[.v (vi r)], [], false⟩ := by
  refine scall_in Tryz.func115 rfl [(.tmp 4)] rfl (fun r => ⟨[.v (vi r)], [], false⟩) (r := r) ?_
  unfold impl_squared at h
  refine srk tbok ⟨28, [(2, .ref 2 0), (3, .ref 3 0)], [(2, .box (tc ePoint aA)), (3, .box (tc ePoint aB))]⟩ ?_
  refine srk tbok ⟨28, [(4, vi (w64 ((w64 ((w64 (aA.X - aB.X)) * (w64 (aA.X - aB.X)))) + (w64 ((w64 (aA.Y - aB.Y)) * (w64 (aA.Y - aB.Y)))))))], []⟩ ?_
  refine swp_ret ?_
  obtain rfl := inj h
  exact q_fr (f1 fv)
theorem ents115 : Ents Tryz.prog 115 := ents_of Tryz.func115 (by kernel_rfl) rfl
noncomputable def internal_stringslite_HasPrefix (aS : ByteArray) (aPrefix : ByteArray) : Option (Bool) :=
  (((bif (decide ((aS.size : Int) ≥ (aPrefix.size : Int))) then ((sub' aS 0 (aPrefix.size : Int)).bind fun x1 => some (x1.toList == aPrefix.toList)) else some false)).bind fun (j2 : Bool) => some j2)
theorem internal_stringslite_HasPrefix_run (aS : ByteArray) (aPrefix : ByteArray) (r : Bool) (h : internal_stringslite_HasPrefix aS aPrefix = some r) : SCall Tryz.prog 169 [.v (vs aS), .v (vs aPrefix)] ⟨[.v (vb r)], [], false⟩ := by
  refine scall_in Tryz.func169 rfl [(.tmp 4)] rfl (fun r => ⟨[.v (vb r)], [], false⟩) (r := r) ?_
  unfold internal_stringslite_HasPrefix at h
  refine srk tbok ⟨18, [(0, vs aS), (1, vs aPrefix)], []⟩ ?_
  refine swp_seq ?_
  refine swp_regJ h (fun j2 => ⟨18, [(4, vb j2)], []⟩) (fun v3 h => ?_) (fun j2 h => ?_)
  refine SRun.ck tbok 6 ⟨18, [(0, vs aS), (1, vs aPrefix), (10, vb (decide ((aS.size : Int) ≥ (aPrefix.size : Int))))], []⟩ ?_
  refine SRun.cu [(10, fun b => b)] h (fun h => ?_) fun h => ?_
  refine SRun.ck tbok 3 ⟨18, [(1, vs aPrefix), (10, vb true), (11, vs aS), (13, vi (aPrefix.size : Int))], []⟩ ?_
  obtain ⟨x1, hx1, h⟩ := bind_some h
  refine SRun.ls (x_sub (ti := ti9) hx1 tbok rfl) ?_
  refine SRun.ck tbok 4 ⟨18, [(4, vb (x1.toList == aPrefix.toList))], []⟩ ?_
  refine SRun.nil ?_
  obtain rfl := inj h
  exact Le.sub0
  refine SRun.ck tbok 8 ⟨18, [(4, vb false)], []⟩ ?_
  refine SRun.nil ?_
  obtain rfl := inj h
  exact Le.sub0
  refine swp_ret ?_
  obtain rfl := inj h
  exact q_fr (f1 fv)
theorem ents169 : Ents Tryz.prog 169 := ents_of Tryz.func169 (by kernel_rfl) rfl
noncomputable def strings_HasPrefix (aS : ByteArray) (aPrefix : ByteArray) : Option (Bool) :=
  ((internal_stringslite_HasPrefix aS aPrefix).bind fun x1 => some x1)
theorem strings_HasPrefix_run (aS : ByteArray) (aPrefix : ByteArray) (r : Bool) (h : strings_HasPrefix aS aPrefix = some r) : SCall Tryz.prog 157 [.v (vs aS), .v (vs aPrefix)] ⟨[.v (vb r)], [], false⟩ := by
  refine scall_in Tryz.func157 rfl [(.tmp 4)] rfl (fun r => ⟨[.v (vb r)], [], false⟩) (r := r) ?_
  unfold strings_HasPrefix at h
  refine srk tbok ⟨8, [(0, vs aS), (1, vs aPrefix)], []⟩ ?_
  refine sr ?_
  refine SRun.ck tbok 2 ⟨8, [(5, vs aS), (6, vs aPrefix)], []⟩ ?_
  obtain ⟨x1, hx1, h⟩ := bind_some h
  refine SRun.ls (xc ents169 (internal_stringslite_HasPrefix_run aS aPrefix _ hx1)) ?_
  refine ckn tbok 1 ⟨8, [(4, vb x1)], []⟩ ?_
  refine swp_ret ?_
  obtain rfl := inj h
  exact q_fr (f1 fv)
theorem ents157 : Ents Tryz.prog 157 := ents_of Tryz.func157 (by kernel_rfl) rfl
noncomputable def impl_Description_steps (aD : Description) : Option (Int) :=
  ((strings_HasPrefix aD.Unit (ByteArray.mk #[109, 105, 108, 101])).bind fun x1 => (bif x1 then some (w64 (4 * aD.Count)) else some (w64 (12 * aD.Count))))
theorem impl_Description_steps_run (aD : Description) (r : Int) (h : impl_Description_steps aD = some r) : SCall Tryz.prog 136 [.v (.agg (tc eDescription aD))] ⟨[.v (vi r)], [], false⟩ := by
  refine scall_in Tryz.func136 rfl [(.tmp 2)] rfl (fun r => ⟨[.v (vi r)], [], false⟩) (r := r) ?_
  unfold impl_Description_steps at h
  refine srk tbok ⟨12, [(1, .ref 1 0)], [(1, .box (tc eDescription aD))]⟩ ?_
  refine swp_seq ?_
  refine sr ?_
  refine SRun.ck tbok 2 ⟨12, [(1, .ref 1 0), (4, vs aD.Unit)], [(1, .box (tc eDescription aD))]⟩ ?_
  obtain ⟨x1, hx1, h⟩ := bind_some h
  refine SRun.ls (xc ents157 (strings_HasPrefix_run aD.Unit (ByteArray.mk #[109, 105, 108, 101]) _ hx1)) ?_
  refine SRun.nx ?_
  refine swp_cd h (fun h => ?_) fun h => ?_
  refine srk tbok ⟨12, [(2, vi (w64 (4 * aD.Count)))], []⟩ ?_
  refine swp_ret ?_
  obtain rfl := inj h
  exact nx_r (q_fr (f1 fv))
  refine swp_skip ?_
  refine nx_n ?_
  refine srk tbok ⟨12, [(2, vi (w64 (12 * aD.Count)))], []⟩ ?_
  refine swp_ret ?_
  obtain rfl := inj h
  exact q_fr (f1 fv)
theorem ents136 : Ents Tryz.prog 136 := ents_of Tryz.func136 (by kernel_rfl) rfl
noncomputable def impl_abs (aX : Int) : Option (Int) :=
  some (maxI aX (w64 (0 - aX)))
theorem impl_abs_run (aX : Int) (r : Int) (h : impl_abs aX = some r) : SCall Tryz.prog 138 [.v (vi aX)] ⟨[.v (vi r)], [], false⟩ := by
  refine scall_in Tryz.func138 rfl [(.tmp 2)] rfl (fun r => ⟨[.v (vi r)], [], false⟩) (r := r) ?_
  unfold impl_abs at h
  refine srk tbok ⟨7, [(0, vi aX)], []⟩ ?_
  refine srk tbok ⟨7, [(2, vi (maxI aX (w64 (0 - aX))))], []⟩ ?_
  refine swp_ret ?_
  obtain rfl := inj h
  exact q_fr (f1 fv)
theorem ents138 : Ents Tryz.prog 138 := ents_of Tryz.func138 (by kernel_rfl) rfl
noncomputable def impl_sign (aX : Int) : Option (Int) :=
  some (maxI (-1) (minI 1 aX))
theorem impl_sign_run (aX : Int) (r : Int) (h : impl_sign aX = some r) : SCall Tryz.prog 158 [.v (vi aX)] ⟨[.v (vi r)], [], false⟩ := by
  refine scall_in Tryz.func158 rfl [(.tmp 2)] rfl (fun r => ⟨[.v (vi r)], [], false⟩) (r := r) ?_
  unfold impl_sign at h
  refine srk tbok ⟨6, [(0, vi aX)], []⟩ ?_
  refine srk tbok ⟨6, [(2, vi (maxI (-1) (minI 1 aX)))], []⟩ ?_
  refine swp_ret ?_
  obtain rfl := inj h
  exact q_fr (f1 fv)
theorem ents158 : Ents Tryz.prog 158 := ents_of Tryz.func158 (by kernel_rfl) rfl
noncomputable def impl_direction (aA : Point) (aB : Point) : Option (Int) :=
  ((((impl_abs (w64 (aB.X - aA.X))).bind fun x3 => ((impl_abs (w64 (aB.Y - aA.Y))).bind fun x4 => (bif (decide ((w64 (2 * x3)) < x4)) then some (0, (w64 (aB.Y - aA.Y))) else ((impl_abs (w64 (aB.Y - aA.Y))).bind fun x5 => ((impl_abs (w64 (aB.X - aA.X))).bind fun x6 => (bif (decide ((w64 (2 * x5)) < x6)) then some ((w64 (aB.X - aA.X)), 0) else some ((w64 (aB.X - aA.X)), (w64 (aB.Y - aA.Y)))))))))).bind fun (j1 : Int × Int) => ((impl_sign j1.2).bind fun x7 => ((impl_sign j1.1).bind fun x8 => ((arr' 3 (w64 (x7 + 1))).bind fun _ => ((arr' 3 (w64 (x8 + 1))).bind fun _ => ((arrN 9 ((0 + (Int.toNat (w64 (x7 + 1))) * 3) + (Int.toNat (w64 (x8 + 1))) * 1)).bind fun _ => some (pickI [5, 4, 3, 6, 0, 2, 7, 0, 1] ((0 + (Int.toNat (w64 (x7 + 1))) * 3) + (Int.toNat (w64 (x8 + 1))) * 1))))))))
theorem impl_direction_run (aA : Point) (aB : Point) (r : Int) (h : impl_direction aA aB = some r) : SCall Tryz.prog 137 [.v (.agg (tc ePoint aA)), .v (.agg (tc ePoint aB))] ⟨[.v (vi r)], [], false⟩ := by
  refine scall_in Tryz.func137 rfl [(.tmp 4)] rfl (fun r => ⟨[.v (vi r)], [], false⟩) (r := r) ?_
  unfold impl_direction at h
  refine srk tbok ⟨45, [(2, .ref 2 0), (3, .ref 3 0)], [(2, .box (tc ePoint aA)), (3, .box (tc ePoint aB))]⟩ ?_
  refine swp_seq ?_
  refine swp_dr mixed ?_
  refine DGo.ck tbok false 12 ⟨45, [(5, vi (w64 (aB.X - aA.X))), (6, vi (w64 (aB.Y - aA.Y)))], []⟩ ?_
  refine DGo.nx ?_
  refine swp_seq ?_
  refine swp_seqJ h (fun j1 => ⟨45, [(5, vi j1.1), (6, vi j1.2)], []⟩) (fun v2 h => ?_) (fun j1 h => ?_)
  refine swp_blk (a := v2) ?_
  refine sr ?_
  refine SRun.ck tbok 1 ⟨45, [(5, vi (w64 (aB.X - aA.X))), (6, vi (w64 (aB.Y - aA.Y))), (19, vi (w64 (aB.X - aA.X)))], []⟩ ?_
  obtain ⟨x3, hx3, h⟩ := bind_some h
  refine SRun.ls (xc ents138 (impl_abs_run (w64 (aB.X - aA.X)) _ hx3)) ?_
  refine SRun.ck tbok 2 ⟨45, [(5, vi (w64 (aB.X - aA.X))), (6, vi (w64 (aB.Y - aA.Y))), (21, vi (w64 (2 * x3))), (22, vi (w64 (aB.Y - aA.Y)))], []⟩ ?_
  obtain ⟨x4, hx4, h⟩ := bind_some h
  refine SRun.ls (xc ents138 (impl_abs_run (w64 (aB.Y - aA.Y)) _ hx4)) ?_
  refine ckn tbok 2 ⟨45, [(5, vi (w64 (aB.X - aA.X))), (6, vi (w64 (aB.Y - aA.Y))), (18, vb (decide ((w64 (2 * x3)) < x4)))], []⟩ ?_
  refine swp_cd h (fun h => ?_) fun h => ?_
  refine swp_reg ?_
  refine SRun.ck tbok 1 ⟨45, [(5, vi 0), (6, vi (w64 (aB.Y - aA.Y)))], []⟩ ?_
  refine SRun.nil ?_
  obtain rfl := inj h
  exact q_bn (q_j (Le.sub0))
  refine sr ?_
  refine SRun.ck tbok 1 ⟨45, [(5, vi (w64 (aB.X - aA.X))), (6, vi (w64 (aB.Y - aA.Y))), (26, vi (w64 (aB.Y - aA.Y)))], []⟩ ?_
  obtain ⟨x5, hx5, h⟩ := bind_some h
  refine SRun.ls (xc ents138 (impl_abs_run (w64 (aB.Y - aA.Y)) _ hx5)) ?_
  refine SRun.ck tbok 2 ⟨45, [(5, vi (w64 (aB.X - aA.X))), (6, vi (w64 (aB.Y - aA.Y))), (28, vi (w64 (2 * x5))), (29, vi (w64 (aB.X - aA.X)))], []⟩ ?_
  obtain ⟨x6, hx6, h⟩ := bind_some h
  refine SRun.ls (xc ents138 (impl_abs_run (w64 (aB.X - aA.X)) _ hx6)) ?_
  refine ckn tbok 2 ⟨45, [(5, vi (w64 (aB.X - aA.X))), (6, vi (w64 (aB.Y - aA.Y))), (25, vb (decide ((w64 (2 * x5)) < x6)))], []⟩ ?_
  refine swp_cd h (fun h => ?_) fun h => ?_
  refine swp_reg ?_
  refine SRun.ck tbok 1 ⟨45, [(5, vi (w64 (aB.X - aA.X))), (6, vi 0)], []⟩ ?_
  refine SRun.nil ?_
  obtain rfl := inj h
  exact q_bn (q_j (Le.sub0))
  refine swp_skip ?_
  obtain rfl := inj h
  exact q_bn (q_j (Le.sub0))
  refine sr ?_
  refine SRun.ls (x_lstep_build (v := .agg [vi 5, vi 4, vi 3]) tbok rfl) ?_
  refine SRun.ls (x_lstep_build (v := .agg [vi 6, vi 0, vi 2]) tbok rfl) ?_
  refine SRun.ls (x_lstep_build (v := .agg [vi 7, vi 0, vi 1]) tbok rfl) ?_
  refine SRun.ls (x_lstep_build (v := .agg [vi 5, vi 4, vi 3, vi 6, vi 0, vi 2, vi 7, vi 0, vi 1]) tbok rfl) ?_
  refine ckn tbok 2 ⟨45, [(5, vi j1.1), (6, vi j1.2), (7, .ref 7 0)], [(7, .box [vi 5, vi 4, vi 3, vi 6, vi 0, vi 2, vi 7, vi 0, vi 1])]⟩ ?_
  refine swp_seq ?_
  refine swp_dr mixed ?_
  refine DGo.ck tbok false 1 ⟨45, [(5, vi j1.1), (7, .ref 7 0), (36, vi j1.2)], [(7, .box [vi 5, vi 4, vi 3, vi 6, vi 0, vi 2, vi 7, vi 0, vi 1])]⟩ ?_
  obtain ⟨x7, hx7, h⟩ := bind_some h
  refine DGo.step (xc ents158 (impl_sign_run j1.2 _ hx7)) ?_
  refine DGo.ck tbok false 2 ⟨45, [(7, .ref 7 0), (38, vi (w64 (x7 + 1))), (39, vi j1.1)], [(7, .box [vi 5, vi 4, vi 3, vi 6, vi 0, vi 2, vi 7, vi 0, vi 1])]⟩ ?_
  obtain ⟨x8, hx8, h⟩ := bind_some h
  refine DGo.step (xc ents158 (impl_sign_run j1.1 _ hx8)) ?_
  refine DGo.ck tbok false 1 ⟨45, [(7, .ref 7 0), (38, vi (w64 (x7 + 1))), (41, vi (w64 (x8 + 1)))], [(7, .box [vi 5, vi 4, vi 3, vi 6, vi 0, vi 2, vi 7, vi 0, vi 1])]⟩ ?_
  obtain ⟨x9, hx9, h⟩ := bind_some h
  refine DGo.step (lstep_indexA (d := 7) (q := 0) (n := 3) (e := 180) (m := 3) (k := .i64) (ti := ti181) (tj := ti180) tbok rfl hx9) ?_
  obtain ⟨x10, hx10, h⟩ := bind_some h
  refine DGo.step (lstep_indexA (d := 7) (q := (0 + (Int.toNat (w64 (x7 + 1))) * 3)) (n := 3) (e := 2) (m := 1) (k := .i64) (ti := ti180) (tj := ti2) tbok rfl hx10) ?_
  obtain ⟨x11, hx11, h⟩ := bind_some h
  refine DGo.step (lstep_load_sym (d := 7) (q := ((0 + (Int.toNat (w64 (x7 + 1))) * 3) + (Int.toNat (w64 (x8 + 1))) * 1)) (k := .i64) (ti := ti2) tbok rfl [5, 4, 3, 6, 0, 2, 7, 0, 1] hx11 (fun _ _ => rfl)) ?_
  refine DGo.ck tbok false 1 ⟨45, [(4, vi (pickI [5, 4, 3, 6, 0, 2, 7, 0, 1] ((0 + (Int.toNat (w64 (x7 + 1))) * 3) + (Int.toNat (w64 (x8 + 1))) * 1)))], []⟩ ?_
  refine DGo.nx ?_
  refine swp_ret ?_
  obtain rfl := inj h
  exact q_fr (f1 fv)
theorem ents137 : Ents Tryz.prog 137 := ents_of Tryz.func137 (by kernel_rfl) rfl
noncomputable def impl_Description_isFrom (aD : Description) (aA : Point) (aP : Point) : Option (Bool) :=
  ((impl_Description_steps aD).bind fun x1 => ((impl_squared aA aP).bind fun x2 => (((bif ((aP.X == aA.X) && (aP.Y == aA.Y)) then some true else ((impl_within (w64 (16 * x2)) (w64 ((w64 (9 * x1)) * x1)) (w64 ((w64 (25 * x1)) * x1))).bind fun x3 => some (!x3)))).bind fun (j4 : Bool) => (bif j4 then some false else ((impl_direction aA aP).bind fun x6 => some (((Int.tmod (w64 ((w64 (x6 - aD.Direction)) + 8)) 8) == 0) || (((Int.tmod (w64 ((w64 (x6 - aD.Direction)) + 8)) 8) == 1) || ((Int.tmod (w64 ((w64 (x6 - aD.Direction)) + 8)) 8) == 7))))))))
theorem impl_Description_isFrom_run (aD : Description) (aA : Point) (aP : Point) (r : Bool) (h : impl_Description_isFrom aD aA aP = some r) : SCall Tryz.prog 116 [.v (.agg (tc eDescription aD)), .v (.agg (tc ePoint aA)), .v (.agg (tc ePoint aP))] ⟨[.v (vb r)], [], false⟩ := by
  refine scall_in Tryz.func116 rfl [(.tmp 6)] rfl (fun r => ⟨[.v (vb r)], [], false⟩) (r := r) ?_
  unfold impl_Description_isFrom at h
  refine srk tbok ⟨50, [(3, .ref 3 0), (4, .ref 4 0), (5, .ref 5 0)], [(3, .box (tc eDescription aD)), (4, .box (tc ePoint aA)), (5, .box (tc ePoint aP))]⟩ ?_
  refine swp_seq ?_
  refine swp_dr mixed ?_
  refine DGo.ck tbok false 1 ⟨50, [(3, .ref 3 0), (4, .ref 4 0), (5, .ref 5 0), (10, .agg (tc eDescription aD))], [(3, .box (tc eDescription aD)), (4, .box (tc ePoint aA)), (5, .box (tc ePoint aP))]⟩ ?_
  obtain ⟨x1, hx1, h⟩ := bind_some h
  refine DGo.step (xc ents136 (impl_Description_steps_run aD _ hx1)) ?_
  refine DGo.ck tbok false 2 ⟨50, [(3, .ref 3 0), (4, .ref 4 0), (5, .ref 5 0), (11, vi x1), (12, .agg (tc ePoint aA)), (13, .agg (tc ePoint aP))], [(3, .box (tc eDescription aD)), (4, .box (tc ePoint aA)), (5, .box (tc ePoint aP))]⟩ ?_
  obtain ⟨x2, hx2, h⟩ := bind_some h
  refine DGo.step (xc ents115 (impl_squared_run aA aP _ hx2)) ?_
  refine DGo.ck tbok false 2 ⟨50, [(3, .ref 3 0), (4, .ref 4 0), (5, .ref 5 0), (7, vi x1), (8, vi x2)], [(3, .box (tc eDescription aD)), (4, .box (tc ePoint aA)), (5, .box (tc ePoint aP))]⟩ ?_
  refine DGo.nx ?_
  refine swp_seq ?_
  refine swp_seq ?_
  refine swp_regJ h (fun j4 => ⟨50, [(3, .ref 3 0), (4, .ref 4 0), (5, .ref 5 0), (31, vb j4)], [(3, .box (tc eDescription aD)), (4, .box (tc ePoint aA)), (5, .box (tc ePoint aP))]⟩) (fun v5 h => ?_) (fun j4 h => ?_)
  refine SRun.ck tbok 2 ⟨50, [(3, .ref 3 0), (4, .ref 4 0), (5, .ref 5 0), (7, vi x1), (8, vi x2), (15, .agg (tc ePoint aP)), (16, .agg (tc ePoint aA))], [(3, .box (tc eDescription aD)), (4, .box (tc ePoint aA)), (5, .box (tc ePoint aP))]⟩ ?_
  refine SRun.ls (x_lstep_eq tbok false (xs := [vi aP.X, vi aP.Y]) (ys := [vi aA.X, vi aA.Y]) (b := ((aP.X == aA.X) && (aP.Y == aA.Y))) rfl) ?_
  refine SRun.ck tbok 1 ⟨50, [(3, .ref 3 0), (4, .ref 4 0), (5, .ref 5 0), (7, vi x1), (8, vi x2), (18, vb ((aP.X == aA.X) && (aP.Y == aA.Y)))], [(3, .box (tc eDescription aD)), (4, .box (tc ePoint aA)), (5, .box (tc ePoint aP))]⟩ ?_
  refine SRun.cu [(18, fun b => b)] h (fun h => ?_) fun h => ?_
  refine SRun.ck tbok 13 ⟨50, [(3, .ref 3 0), (4, .ref 4 0), (5, .ref 5 0), (31, vb true)], [(3, .box (tc eDescription aD)), (4, .box (tc ePoint aA)), (5, .box (tc ePoint aP))]⟩ ?_
  refine SRun.nil ?_
  obtain rfl := inj h
  exact Le.sub0
  refine SRun.ck tbok 10 ⟨50, [(3, .ref 3 0), (4, .ref 4 0), (5, .ref 5 0), (18, vb false), (20, vi (w64 (16 * x2))), (24, vi (w64 ((w64 (9 * x1)) * x1))), (28, vi (w64 ((w64 (25 * x1)) * x1)))], [(3, .box (tc eDescription aD)), (4, .box (tc ePoint aA)), (5, .box (tc ePoint aP))]⟩ ?_
  obtain ⟨x3, hx3, h⟩ := bind_some h
  refine SRun.ls (xc ents109 (impl_within_run (w64 (16 * x2)) (w64 ((w64 (9 * x1)) * x1)) (w64 ((w64 (25 * x1)) * x1)) _ hx3)) ?_
  refine SRun.ck tbok 2 ⟨50, [(3, .ref 3 0), (4, .ref 4 0), (5, .ref 5 0), (31, vb (!x3))], [(3, .box (tc eDescription aD)), (4, .box (tc ePoint aA)), (5, .box (tc ePoint aP))]⟩ ?_
  refine SRun.nil ?_
  obtain rfl := inj h
  exact Le.sub0
  refine swp_cd h (fun h => ?_) fun h => ?_
  refine srk tbok ⟨50, [(6, vb false)], []⟩ ?_
  refine swp_ret ?_
  obtain rfl := inj h
  exact nx_r (q_fr (f1 fv))
  refine swp_skip ?_
  refine nx_n ?_
  refine swp_seq ?_
  refine swp_dr mixed ?_
  refine DGo.ck tbok false 2 ⟨50, [(3, .ref 3 0), (32, .agg (tc ePoint aA)), (33, .agg (tc ePoint aP))], [(3, .box (tc eDescription aD))]⟩ ?_
  obtain ⟨x6, hx6, h⟩ := bind_some h
  refine DGo.step (xc ents137 (impl_direction_run aA aP _ hx6)) ?_
  refine DGo.ck tbok false 6 ⟨50, [(9, vi (Int.tmod (w64 ((w64 (x6 - aD.Direction)) + 8)) 8))], []⟩ ?_
  refine DGo.nx ?_
  refine swp_seq ?_
  refine swp_regP ⟨50, [(6, vb (((Int.tmod (w64 ((w64 (x6 - aD.Direction)) + 8)) 8) == 0) || (((Int.tmod (w64 ((w64 (x6 - aD.Direction)) + 8)) 8) == 1) || ((Int.tmod (w64 ((w64 (x6 - aD.Direction)) + 8)) 8) == 7))))], []⟩ ?_ ?_
  refine SRun.ck tbok 3 ⟨50, [(9, vi (Int.tmod (w64 ((w64 (x6 - aD.Direction)) + 8)) 8)), (42, vb ((Int.tmod (w64 ((w64 (x6 - aD.Direction)) + 8)) 8) == 0))], []⟩ ?_
  generalize ((Int.tmod (w64 ((w64 (x6 - aD.Direction)) + 8)) 8) == 0) = bb
  cases bb
  refine SRun.ck tbok 4 ⟨50, [(9, vi (Int.tmod (w64 ((w64 (x6 - aD.Direction)) + 8)) 8)), (46, vb ((Int.tmod (w64 ((w64 (x6 - aD.Direction)) + 8)) 8) == 1))], []⟩ ?_
  generalize ((Int.tmod (w64 ((w64 (x6 - aD.Direction)) + 8)) 8) == 1) = bb
  cases bb
  refine SRun.ck tbok 4 ⟨50, [(6, vb ((Int.tmod (w64 ((w64 (x6 - aD.Direction)) + 8)) 8) == 7))], []⟩ ?_
  exact SRun.nil (Le.sub0)
  refine SRun.ck tbok 4 ⟨50, [(6, vb true)], []⟩ ?_
  exact SRun.nil (Le.sub0)
  refine SRun.ck tbok 8 ⟨50, [(6, vb true)], []⟩ ?_
  exact SRun.nil (Le.sub0)
  refine swp_ret ?_
  obtain rfl := inj h
  exact q_fr (f1 fv)
theorem ents116 : Ents Tryz.prog 116 := ents_of Tryz.func116 (by kernel_rfl) rfl
noncomputable def impl_turn (aA : Point) (aB : Point) (aC : Point) : Option (Int) :=
  some (w64 ((w64 ((w64 (aB.X - aA.X)) * (w64 (aC.Y - aA.Y)))) - (w64 ((w64 (aB.Y - aA.Y)) * (w64 (aC.X - aA.X))))))
theorem impl_turn_run (aA : Point) (aB : Point) (aC : Point) (r : Int) (h : impl_turn aA aB aC = some r) : SCall Tryz.prog 139 [.v (.agg (tc ePoint aA)), .v (.agg (tc ePoint aB)), .v (.agg (tc ePoint aC))] ⟨[.v (vi r)], [], false⟩ := by
  refine scall_in Tryz.func139 rfl [(.tmp 6)] rfl (fun r => ⟨[.v (vi r)], [], false⟩) (r := r) ?_
  unfold impl_turn at h
  refine srk tbok ⟨30, [(3, .ref 3 0), (4, .ref 4 0), (5, .ref 5 0)], [(3, .box (tc ePoint aA)), (4, .box (tc ePoint aB)), (5, .box (tc ePoint aC))]⟩ ?_
  refine srk tbok ⟨30, [(6, vi (w64 ((w64 ((w64 (aB.X - aA.X)) * (w64 (aC.Y - aA.Y)))) - (w64 ((w64 (aB.Y - aA.Y)) * (w64 (aC.X - aA.X)))))))], []⟩ ?_
  refine swp_ret ?_
  obtain rfl := inj h
  exact q_fr (f1 fv)
theorem ents139 : Ents Tryz.prog 139 := ents_of Tryz.func139 (by kernel_rfl) rfl
noncomputable def impl_isBetween (aA : Point) (aB : Point) (aP : Point) : Option (Bool) :=
  (bif ((aA.X == aB.X) && (aA.Y == aB.Y)) then some ((aP.X == aA.X) && (aP.Y == aA.Y)) else ((((impl_squared aA aB).bind fun x1 => ((impl_within (w64 ((w64 ((w64 (aP.X - aA.X)) * (w64 (aB.X - aA.X)))) + (w64 ((w64 (aP.Y - aA.Y)) * (w64 (aB.Y - aA.Y)))))) 0 x1).bind fun x2 => (bif x2 then ((impl_turn aA aB aP).bind fun x3 => ((impl_abs x3).bind fun x4 => ((impl_squared aA aB).bind fun x5 => some (decide ((w64 (4 * x4)) ≤ x5))))) else some false)))).bind fun (j6 : Bool) => some j6))
theorem impl_isBetween_run (aA : Point) (aB : Point) (aP : Point) (r : Bool) (h : impl_isBetween aA aB aP = some r) : SCall Tryz.prog 117 [.v (.agg (tc ePoint aA)), .v (.agg (tc ePoint aB)), .v (.agg (tc ePoint aP))] ⟨[.v (vb r)], [], false⟩ := by
  refine scall_in Tryz.func117 rfl [(.tmp 6)] rfl (fun r => ⟨[.v (vb r)], [], false⟩) (r := r) ?_
  unfold impl_isBetween at h
  refine srk tbok ⟨54, [(3, .ref 3 0), (4, .ref 4 0), (5, .ref 5 0)], [(3, .box (tc ePoint aA)), (4, .box (tc ePoint aB)), (5, .box (tc ePoint aP))]⟩ ?_
  refine swp_seq ?_
  refine sr ?_
  refine SRun.ck tbok 2 ⟨54, [(3, .ref 3 0), (4, .ref 4 0), (5, .ref 5 0), (8, .agg (tc ePoint aA)), (9, .agg (tc ePoint aB))], [(3, .box (tc ePoint aA)), (4, .box (tc ePoint aB)), (5, .box (tc ePoint aP))]⟩ ?_
  refine SRun.ls (x_lstep_eq tbok false (xs := [vi aA.X, vi aA.Y]) (ys := [vi aB.X, vi aB.Y]) (b := ((aA.X == aB.X) && (aA.Y == aB.Y))) rfl) ?_
  refine SRun.nx ?_
  refine swp_cd h (fun h => ?_) fun h => ?_
  refine sr ?_
  refine SRun.ck tbok 2 ⟨54, [(11, .agg (tc ePoint aP)), (12, .agg (tc ePoint aA))], []⟩ ?_
  refine SRun.ls (x_lstep_eq tbok false (xs := [vi aP.X, vi aP.Y]) (ys := [vi aA.X, vi aA.Y]) (b := ((aP.X == aA.X) && (aP.Y == aA.Y))) rfl) ?_
  refine ckn tbok 1 ⟨54, [(6, vb ((aP.X == aA.X) && (aP.Y == aA.Y)))], []⟩ ?_
  refine swp_ret ?_
  obtain rfl := inj h
  exact nx_r (q_fr (f1 fv))
  refine swp_skip ?_
  refine nx_n ?_
  refine srk tbok ⟨54, [(3, .ref 3 0), (4, .ref 4 0), (5, .ref 5 0), (7, vi (w64 ((w64 ((w64 (aP.X - aA.X)) * (w64 (aB.X - aA.X)))) + (w64 ((w64 (aP.Y - aA.Y)) * (w64 (aB.Y - aA.Y)))))))], [(3, .box (tc ePoint aA)), (4, .box (tc ePoint aB)), (5, .box (tc ePoint aP))]⟩ ?_
  refine swp_seq ?_
  refine swp_drJ mixed h (fun j6 => ⟨54, [(6, vb j6)], []⟩) (fun v7 h => ?_) (fun j6 h => ?_)
  refine DGo.ck tbok false 3 ⟨54, [(3, .ref 3 0), (4, .ref 4 0), (5, .ref 5 0), (37, vi (w64 ((w64 ((w64 (aP.X - aA.X)) * (w64 (aB.X - aA.X)))) + (w64 ((w64 (aP.Y - aA.Y)) * (w64 (aB.Y - aA.Y))))))), (38, .agg (tc ePoint aA)), (39, .agg (tc ePoint aB))], [(3, .box (tc ePoint aA)), (4, .box (tc ePoint aB)), (5, .box (tc ePoint aP))]⟩ ?_
  obtain ⟨x1, hx1, h⟩ := bind_some h
  refine DGo.step (xc ents115 (impl_squared_run aA aB _ hx1)) ?_
  obtain ⟨x2, hx2, h⟩ := bind_some h
  refine DGo.step (xc ents109 (impl_within_run (w64 ((w64 ((w64 (aP.X - aA.X)) * (w64 (aB.X - aA.X)))) + (w64 ((w64 (aP.Y - aA.Y)) * (w64 (aB.Y - aA.Y)))))) 0 x1 _ hx2)) ?_
  refine DGo.ck tbok false 1 ⟨54, [(3, .ref 3 0), (4, .ref 4 0), (5, .ref 5 0), (42, vb x2)], [(3, .box (tc ePoint aA)), (4, .box (tc ePoint aB)), (5, .box (tc ePoint aP))]⟩ ?_
  refine DGo.cu [(42, fun b => b)] h (fun h => ?_) fun h => ?_
  refine DGo.ck tbok false 3 ⟨54, [(3, .ref 3 0), (4, .ref 4 0), (42, vb true), (43, .agg (tc ePoint aA)), (44, .agg (tc ePoint aB)), (45, .agg (tc ePoint aP))], [(3, .box (tc ePoint aA)), (4, .box (tc ePoint aB))]⟩ ?_
  obtain ⟨x3, hx3, h⟩ := bind_some h
  refine DGo.step (xc ents139 (impl_turn_run aA aB aP _ hx3)) ?_
  obtain ⟨x4, hx4, h⟩ := bind_some h
  refine DGo.step (xc ents138 (impl_abs_run x3 _ hx4)) ?_
  refine DGo.ck tbok false 3 ⟨54, [(42, vb true), (48, vi (w64 (4 * x4))), (49, .agg (tc ePoint aA)), (50, .agg (tc ePoint aB))], []⟩ ?_
  obtain ⟨x5, hx5, h⟩ := bind_some h
  refine DGo.step (xc ents115 (impl_squared_run aA aB _ hx5)) ?_
  refine DGo.ck tbok false 3 ⟨54, [(6, vb (decide ((w64 (4 * x4)) ≤ x5)))], []⟩ ?_
  refine DGo.nil (by kernel_rfl) ?_
  obtain rfl := inj h
  exact Le.sub0
  refine DGo.ck tbok false 12 ⟨54, [(6, vb false)], []⟩ ?_
  refine DGo.nil (by kernel_rfl) ?_
  obtain rfl := inj h
  exact Le.sub0
  refine swp_ret ?_
  obtain rfl := inj h
  exact q_fr (f1 fv)
theorem ents117 : Ents Tryz.prog 117 := ents_of Tryz.func117 (by kernel_rfl) rfl
noncomputable def impl_satisfies (aList : (List Site)) (aD : Description) (aP : Point) : Option (Bool) :=
  ((impl_findSite aList aD.A).bind fun x1 => (((bif (aD.Kind == 0) then some (.inr ((aP.X == x1.1.X) && (aP.Y == x1.1.Y))) else (bif (aD.Kind == 1) then ((impl_squared x1.1 aP).bind fun x4 => some (.inr (decide (x4 ≤ 64)))) else (bif (aD.Kind == 2) then ((impl_Description_isFrom aD x1.1 aP).bind fun x5 => some (.inr x5)) else some (.inl ()))))).bind (Sum.elim (fun (_ : Unit) => ((impl_findSite aList aD.B).bind fun x6 => ((impl_isBetween x1.1 x6.1 aP).bind fun x7 => some x7))) some)))
theorem impl_satisfies_run (aList : (List Site)) (aD : Description) (aP : Point) (r : Bool) (h : impl_satisfies aList aD aP = some r) : SCall Tryz.prog 91 [.v (vl eSite aList), .v (.agg (tc eDescription aD)), .v (.agg (tc ePoint aP))] ⟨[.v (vb r)], [], false⟩ := by
  refine scall_in Tryz.func91 rfl [(.tmp 6)] rfl (fun r => ⟨[.v (vb r)], [], false⟩) (r := r) ?_
  unfold impl_satisfies at h
  refine srk tbok ⟨48, [(0, vl eSite aList), (4, .ref 4 0), (5, .ref 5 0)], [(4, .box (tc eDescription aD)), (5, .box (tc ePoint aP))]⟩ ?_
  refine sr ?_
  refine SRun.ck tbok 3 ⟨48, [(0, vl eSite aList), (4, .ref 4 0), (5, .ref 5 0), (12, vl eSite aList), (14, vs aD.A)], [(4, .box (tc eDescription aD)), (5, .box (tc ePoint aP))]⟩ ?_
  obtain ⟨x1, hx1, h⟩ := bind_some h
  refine SRun.ls (xc ents85 (impl_findSite_run aList aD.A _ hx1)) ?_
  refine ckn tbok 6 ⟨48, [(0, vl eSite aList), (4, .ref 4 0), (5, .ref 5 0), (7, .ref 7 0)], [(4, .box (tc eDescription aD)), (5, .box (tc ePoint aP)), (7, .box (tc ePoint x1.1))]⟩ ?_
  refine swp_seq ?_
  refine srk tbok ⟨48, [(0, vl eSite aList), (4, .ref 4 0), (5, .ref 5 0), (7, .ref 7 0), (19, vi aD.Kind)], [(4, .box (tc eDescription aD)), (5, .box (tc ePoint aP)), (7, .box (tc ePoint x1.1))]⟩ ?_
  refine swp_seqE (r := r) h (fun j2 => ⟨48, [(0, vl eSite aList), (4, .ref 4 0), (5, .ref 5 0), (7, .ref 7 0)], [(4, .box (tc eDescription aD)), (5, .box (tc ePoint aP)), (7, .box (tc ePoint x1.1))]⟩) (fun v3 h => ?_) (fun j2 h => ?_)
  refine swp_blk (a := v3) ?_
  refine srk tbok ⟨48, [(0, vl eSite aList), (4, .ref 4 0), (5, .ref 5 0), (7, .ref 7 0), (19, vi aD.Kind), (20, vb (aD.Kind == 0))], [(4, .box (tc eDescription aD)), (5, .box (tc ePoint aP)), (7, .box (tc ePoint x1.1))]⟩ ?_
  refine swp_cd h (fun h => ?_) fun h => ?_
  refine sr ?_
  refine SRun.ck tbok 2 ⟨48, [(22, .agg (tc ePoint aP)), (23, .agg (tc ePoint x1.1))], []⟩ ?_
  refine SRun.ls (x_lstep_eq tbok false (xs := [vi aP.X, vi aP.Y]) (ys := [vi x1.1.X, vi x1.1.Y]) (b := ((aP.X == x1.1.X) && (aP.Y == x1.1.Y))) rfl) ?_
  refine ckn tbok 1 ⟨48, [(6, vb ((aP.X == x1.1.X) && (aP.Y == x1.1.Y)))], []⟩ ?_
  refine swp_ret ?_
  obtain rfl := inj h
  exact q_br (q_rr (q_fr (f1 fv)))
  refine srk tbok ⟨48, [(0, vl eSite aList), (4, .ref 4 0), (5, .ref 5 0), (7, .ref 7 0), (19, vi aD.Kind), (25, vb (aD.Kind == 1))], [(4, .box (tc eDescription aD)), (5, .box (tc ePoint aP)), (7, .box (tc ePoint x1.1))]⟩ ?_
  refine swp_cd h (fun h => ?_) fun h => ?_
  refine sr ?_
  refine SRun.ck tbok 2 ⟨48, [(27, .agg (tc ePoint x1.1)), (28, .agg (tc ePoint aP))], []⟩ ?_
  obtain ⟨x4, hx4, h⟩ := bind_some h
  refine SRun.ls (xc ents115 (impl_squared_run x1.1 aP _ hx4)) ?_
  refine ckn tbok 2 ⟨48, [(6, vb (decide (x4 ≤ 64)))], []⟩ ?_
  refine swp_ret ?_
  obtain rfl := inj h
  exact q_br (q_rr (q_fr (f1 fv)))
  refine srk tbok ⟨48, [(0, vl eSite aList), (4, .ref 4 0), (5, .ref 5 0), (7, .ref 7 0), (31, vb (aD.Kind == 2))], [(4, .box (tc eDescription aD)), (5, .box (tc ePoint aP)), (7, .box (tc ePoint x1.1))]⟩ ?_
  refine swp_cd h (fun h => ?_) fun h => ?_
  refine sr ?_
  refine SRun.ck tbok 3 ⟨48, [(33, .agg (tc eDescription aD)), (34, .agg (tc ePoint x1.1)), (35, .agg (tc ePoint aP))], []⟩ ?_
  obtain ⟨x5, hx5, h⟩ := bind_some h
  refine SRun.ls (xc ents116 (impl_Description_isFrom_run aD x1.1 aP _ hx5)) ?_
  refine ckn tbok 1 ⟨48, [(6, vb x5)], []⟩ ?_
  refine swp_ret ?_
  obtain rfl := inj h
  exact q_br (q_rr (q_fr (f1 fv)))
  refine swp_skip ?_
  obtain rfl := inj h
  exact q_bn (q_l (Le.sub0))
  refine sr ?_
  refine SRun.ck tbok 3 ⟨48, [(5, .ref 5 0), (7, .ref 7 0), (38, vl eSite aList), (40, vs aD.B)], [(5, .box (tc ePoint aP)), (7, .box (tc ePoint x1.1))]⟩ ?_
  obtain ⟨x6, hx6, h⟩ := bind_some h
  refine SRun.ls (xc ents85 (impl_findSite_run aList aD.B _ hx6)) ?_
  refine ckn tbok 6 ⟨48, [(5, .ref 5 0), (7, .ref 7 0), (9, .ref 9 0)], [(5, .box (tc ePoint aP)), (7, .box (tc ePoint x1.1)), (9, .box (tc ePoint x6.1))]⟩ ?_
  refine sr ?_
  refine SRun.ck tbok 3 ⟨48, [(44, .agg (tc ePoint x1.1)), (45, .agg (tc ePoint x6.1)), (46, .agg (tc ePoint aP))], []⟩ ?_
  obtain ⟨x7, hx7, h⟩ := bind_some h
  refine SRun.ls (xc ents117 (impl_isBetween_run x1.1 x6.1 aP _ hx7)) ?_
  refine ckn tbok 1 ⟨48, [(6, vb x7)], []⟩ ?_
  refine swp_ret ?_
  obtain rfl := inj h
  exact q_fr (f1 fv)
theorem ents91 : Ents Tryz.prog 91 := ents_of Tryz.func91 (by kernel_rfl) rfl
noncomputable def impl_countSatisfied (aList : (List Site)) (aDescriptions : (List Description)) (aP : Point) : Option (Int) :=
  (((forS (aDescriptions.length : Int) (fun (i3 : Int) (s3 : Int) => ((at' aDescriptions i3).bind fun x7 => ((impl_satisfies aList x7 aP).bind fun x8 => (bif x8 then some (w64 (s3 + 1)) else some s3)))) (fun (s3 : Int) => s3) 0 0)).bind fun (j1 : Int) => some j1)
theorem impl_countSatisfied_run (aList : (List Site)) (aDescriptions : (List Description)) (aP : Point) (r : Int) (h : impl_countSatisfied aList aDescriptions aP = some r) : SCall Tryz.prog 65 [.v (vl eSite aList), .v (vl eDescription aDescriptions), .v (.agg (tc ePoint aP))] ⟨[.v (vi r)], [], false⟩ := by
  refine scall_in Tryz.func65 rfl [(.tmp 6)] rfl (fun r => ⟨[.v (vi r)], [], false⟩) (r := r) ?_
  unfold impl_countSatisfied at h
  refine srk tbok ⟨24, [(0, vl eSite aList), (1, vl eDescription aDescriptions), (5, .ref 5 0)], [(5, .box (tc ePoint aP))]⟩ ?_
  refine srk tbok ⟨24, [(0, vl eSite aList), (1, vl eDescription aDescriptions), (5, .ref 5 0), (7, vi 0)], [(5, .box (tc ePoint aP))]⟩ ?_
  refine swp_seq ?_
  refine srk tbok ⟨24, [(0, vl eSite aList), (5, .ref 5 0), (7, vi 0), (10, vl eDescription aDescriptions), (11, vi (aDescriptions.length : Int)), (12, vi 0)], [(5, .box (tc ePoint aP))]⟩ ?_
  refine swp_seqJ h (fun j1 => ⟨24, [(7, vi j1)], []⟩) (fun v2 h => ?_) (fun j1 h => ?_)
  refine swp_blk (a := v2) ?_
  refine swp_lpL (r := v2) (s := (0, 0)) _ (fun s3 => ⟨24, [(0, vl eSite aList), (5, .ref 5 0), (7, vi s3.2), (10, vl eDescription aDescriptions), (11, vi (aDescriptions.length : Int)), (12, vi s3.1)], [(5, .box (tc ePoint aP))]⟩) _ (Le.sub0) h (fun s3 v4 h => ?_)
  refine srk tbok ⟨24, [(0, vl eSite aList), (5, .ref 5 0), (7, vi s3.2), (10, vl eDescription aDescriptions), (11, vi (aDescriptions.length : Int)), (12, vi s3.1), (13, vb (decide (s3.1 < (aDescriptions.length : Int))))], [(5, .box (tc ePoint aP))]⟩ ?_
  refine swp_seq ?_
  refine swp_cd h (fun h => ?_) fun h => ?_
  refine swp_skip ?_
  refine nx_n ?_
  refine swp_seq ?_
  refine swp_seqJ h (fun j5 => ⟨24, [(0, vl eSite aList), (5, .ref 5 0), (7, vi j5), (10, vl eDescription aDescriptions), (11, vi (aDescriptions.length : Int)), (12, vi s3.1)], [(5, .box (tc ePoint aP))]⟩) (fun v6 h => ?_) (fun j5 h => ?_)
  refine swp_blk (a := v6) ?_
  refine sr ?_
  obtain ⟨x7, hx7, h⟩ := bind_some h
  refine SRun.ls (x_index (L := aDescriptions) (f := eDescription) (ti := ti36) (tj := ti80) (e := 80) (k := .i64) tbok rfl hx7) ?_
  refine ckn tbok 3 ⟨24, [(0, vl eSite aList), (5, .ref 5 0), (7, vi s3.2), (9, .ref 9 0), (10, vl eDescription aDescriptions), (11, vi (aDescriptions.length : Int)), (12, vi s3.1)], [(5, .box (tc ePoint aP)), (9, .box (tc eDescription x7))]⟩ ?_
  refine sr ?_
  refine SRun.ck tbok 3 ⟨24, [(0, vl eSite aList), (5, .ref 5 0), (7, vi s3.2), (10, vl eDescription aDescriptions), (11, vi (aDescriptions.length : Int)), (12, vi s3.1), (16, vl eSite aList), (17, .agg (tc eDescription x7)), (18, .agg (tc ePoint aP))], [(5, .box (tc ePoint aP))]⟩ ?_
  obtain ⟨x8, hx8, h⟩ := bind_some h
  refine SRun.ls (xc ents91 (impl_satisfies_run aList x7 aP _ hx8)) ?_
  refine SRun.nx ?_
  refine swp_cd h (fun h => ?_) fun h => ?_
  refine swp_reg ?_
  refine SRun.ck tbok 3 ⟨24, [(0, vl eSite aList), (5, .ref 5 0), (7, vi (w64 (s3.2 + 1))), (10, vl eDescription aDescriptions), (11, vi (aDescriptions.length : Int)), (12, vi s3.1)], [(5, .box (tc ePoint aP))]⟩ ?_
  refine SRun.nil ?_
  obtain rfl := inj h
  exact q_bn (q_j (Le.sub0))
  refine swp_skip ?_
  obtain rfl := inj h
  exact q_bn (q_j (Le.sub0))
  refine swp_reg ?_
  refine SRun.ck tbok 2 ⟨24, [(0, vl eSite aList), (5, .ref 5 0), (7, vi j5), (10, vl eDescription aDescriptions), (11, vi (aDescriptions.length : Int)), (12, vi (w64 (s3.1 + 1)))], [(5, .box (tc ePoint aP))]⟩ ?_
  refine SRun.nil ?_
  obtain rfl := inj h
  exact q_l (Le.sub0)
  refine swp_exit ?_
  obtain rfl := inj h
  exact nx_e (q_re (q_bh (q_j (Le.sub0))))
  refine srk tbok ⟨24, [(6, vi j1)], []⟩ ?_
  refine swp_ret ?_
  obtain rfl := inj h
  exact q_fr (f1 fv)
theorem ents65 : Ents Tryz.prog 65 := ents_of Tryz.func65 (by kernel_rfl) rfl
noncomputable def impl_question_answer (aQ : question) (aC : Candidate) : Option (Answer) :=
  ((impl_phraseDistance aQ.text aC.Text).bind fun x1 => ((impl_countSatisfied aQ.sites aQ.descriptions aC.At).bind fun x2 => some (Answer.mk aC.Code x1 x2)))
theorem impl_question_answer_run (aQ : question) (aC : Candidate) (r : Answer) (h : impl_question_answer aQ aC = some r) : SCall Tryz.prog 45 [.v (.agg (tc equestion aQ)), .v (.agg (tc eCandidate aC))] ⟨[.v (.agg (tc eAnswer r))], [], false⟩ := by
  refine scall_in Tryz.func45 rfl [(.cell 4 29)] rfl (fun r => ⟨[.v (.agg (tc eAnswer r))], [], false⟩) (r := r) ?_
  unfold impl_question_answer at h
  refine srk tbok ⟨20, [(2, .ref 2 0), (3, .ref 3 0), (4, .ref 4 0)], [(2, .box (tc equestion aQ)), (3, .box (tc eCandidate aC)), (4, .box [vs (ByteArray.mk #[]), vi 0, vi 0])]⟩ ?_
  refine swp_seq ?_
  refine swp_dr mixed ?_
  refine DGo.ck tbok false 6 ⟨20, [(2, .ref 2 0), (3, .ref 3 0), (4, .ref 4 0), (6, vs aC.Code), (8, vs aQ.text), (10, vs aC.Text)], [(2, .box (tc equestion aQ)), (3, .box (tc eCandidate aC)), (4, .box [vs (ByteArray.mk #[]), vi 0, vi 0])]⟩ ?_
  obtain ⟨x1, hx1, h⟩ := bind_some h
  refine DGo.step (xc ents64 (impl_phraseDistance_run aQ.text aC.Text _ hx1)) ?_
  refine DGo.ck tbok false 6 ⟨20, [(4, .ref 4 0), (6, vs aC.Code), (11, vi x1), (13, vl eSite aQ.sites), (15, vl eDescription aQ.descriptions), (17, .agg (tc ePoint aC.At))], [(4, .box [vs (ByteArray.mk #[]), vi 0, vi 0])]⟩ ?_
  obtain ⟨x2, hx2, h⟩ := bind_some h
  refine DGo.step (xc ents65 (impl_countSatisfied_run aQ.sites aQ.descriptions aC.At _ hx2)) ?_
  refine DGo.step (x_lstep_build (v := .agg [vs aC.Code, vi x1, vi x2]) tbok rfl) ?_
  refine DGo.seq (by kernel_rfl) (by kernel_rfl) ?_
  refine ckn tbok 1 ⟨20, [(4, .ref 4 0)], [(4, .box [vs aC.Code, vi x1, vi x2])]⟩ ?_
  refine swp_ret ?_
  obtain rfl := inj h
  exact q_fr (f1 (fc tbok))
theorem ents45 : Ents Tryz.prog 45 := ents_of Tryz.func45 (by kernel_rfl) rfl
noncomputable def laws_eqPoint (aA : Point) (aB : Point) : Option (Bool) :=
  (bif (aA.X != aB.X) then some false else (bif (aA.Y != aB.Y) then some false else some true))
theorem laws_eqPoint_run (aA : Point) (aB : Point) (r : Bool) (h : laws_eqPoint aA aB = some r) : SCall Tryz.prog 66 [.v (.agg (tc ePoint aA)), .v (.agg (tc ePoint aB))] ⟨[.v (vb r)], [], false⟩ := by
  refine scall_in Tryz.func66 rfl [(.tmp 4)] rfl (fun r => ⟨[.v (vb r)], [], false⟩) (r := r) ?_
  unfold laws_eqPoint at h
  refine srk tbok ⟨15, [(2, .ref 2 0), (3, .ref 3 0)], [(2, .box (tc ePoint aA)), (3, .box (tc ePoint aB))]⟩ ?_
  refine swp_seq ?_
  refine srk tbok ⟨15, [(2, .ref 2 0), (3, .ref 3 0), (9, vb (aA.X != aB.X))], [(2, .box (tc ePoint aA)), (3, .box (tc ePoint aB))]⟩ ?_
  refine swp_cd h (fun h => ?_) fun h => ?_
  refine srk tbok ⟨15, [(4, vb false)], []⟩ ?_
  refine swp_ret ?_
  obtain rfl := inj h
  exact nx_r (q_fr (f1 fv))
  refine swp_skip ?_
  refine nx_n ?_
  refine swp_seq ?_
  refine srk tbok ⟨15, [(14, vb (aA.Y != aB.Y))], []⟩ ?_
  refine swp_cd h (fun h => ?_) fun h => ?_
  refine srk tbok ⟨15, [(4, vb false)], []⟩ ?_
  refine swp_ret ?_
  obtain rfl := inj h
  exact nx_r (q_fr (f1 fv))
  refine swp_skip ?_
  refine nx_n ?_
  refine srk tbok ⟨15, [(4, vb true)], []⟩ ?_
  refine swp_ret ?_
  obtain rfl := inj h
  exact q_fr (f1 fv)
theorem ents66 : Ents Tryz.prog 66 := ents_of Tryz.func66 (by kernel_rfl) rfl
noncomputable def laws_eqCandidate (aA : Candidate) (aB : Candidate) : Option (Bool) :=
  (bif (!(aA.Code.toList == aB.Code.toList)) then some false else (bif (!(aA.Text.toList == aB.Text.toList)) then some false else ((laws_eqPoint aA.At aB.At).bind fun x1 => (bif (!x1) then some false else some true))))
theorem laws_eqCandidate_run (aA : Candidate) (aB : Candidate) (r : Bool) (h : laws_eqCandidate aA aB = some r) : SCall Tryz.prog 46 [.v (.agg (tc eCandidate aA)), .v (.agg (tc eCandidate aB))] ⟨[.v (vb r)], [], false⟩ := by
  refine scall_in Tryz.func46 rfl [(.tmp 4)] rfl (fun r => ⟨[.v (vb r)], [], false⟩) (r := r) ?_
  unfold laws_eqCandidate at h
  refine srk tbok ⟨21, [(2, .ref 2 0), (3, .ref 3 0)], [(2, .box (tc eCandidate aA)), (3, .box (tc eCandidate aB))]⟩ ?_
  refine swp_seq ?_
  refine srk tbok ⟨21, [(2, .ref 2 0), (3, .ref 3 0), (9, vb (!(aA.Code.toList == aB.Code.toList)))], [(2, .box (tc eCandidate aA)), (3, .box (tc eCandidate aB))]⟩ ?_
  refine swp_cd h (fun h => ?_) fun h => ?_
  refine srk tbok ⟨21, [(4, vb false)], []⟩ ?_
  refine swp_ret ?_
  obtain rfl := inj h
  exact nx_r (q_fr (f1 fv))
  refine swp_skip ?_
  refine nx_n ?_
  refine swp_seq ?_
  refine srk tbok ⟨21, [(2, .ref 2 0), (3, .ref 3 0), (14, vb (!(aA.Text.toList == aB.Text.toList)))], [(2, .box (tc eCandidate aA)), (3, .box (tc eCandidate aB))]⟩ ?_
  refine swp_cd h (fun h => ?_) fun h => ?_
  refine srk tbok ⟨21, [(4, vb false)], []⟩ ?_
  refine swp_ret ?_
  obtain rfl := inj h
  exact nx_r (q_fr (f1 fv))
  refine swp_skip ?_
  refine nx_n ?_
  refine swp_seq ?_
  refine sr ?_
  refine SRun.ck tbok 4 ⟨21, [(16, .agg (tc ePoint aA.At)), (18, .agg (tc ePoint aB.At))], []⟩ ?_
  obtain ⟨x1, hx1, h⟩ := bind_some h
  refine SRun.ls (xc ents66 (laws_eqPoint_run aA.At aB.At _ hx1)) ?_
  refine ckn tbok 1 ⟨21, [(20, vb (!x1))], []⟩ ?_
  refine swp_cd h (fun h => ?_) fun h => ?_
  refine srk tbok ⟨21, [(4, vb false)], []⟩ ?_
  refine swp_ret ?_
  obtain rfl := inj h
  exact nx_r (q_fr (f1 fv))
  refine swp_skip ?_
  refine nx_n ?_
  refine srk tbok ⟨21, [(4, vb true)], []⟩ ?_
  refine swp_ret ?_
  obtain rfl := inj h
  exact q_fr (f1 fv)
theorem ents46 : Ents Tryz.prog 46 := ents_of Tryz.func46 (by kernel_rfl) rfl
noncomputable def laws_eqCandidateS (aA : (List Candidate)) (aB : (List Candidate)) : Option (Bool) :=
  (bif ((aA.length : Int) != (aB.length : Int)) then some false else (((forN (aA.length : Int) (fun (i3 : Int) (_ : Unit) => ((at' aA i3).bind fun x7 => ((at' aB i3).bind fun x8 => ((laws_eqCandidate x7 x8).bind fun x9 => (bif (!x9) then some (.inr (.inr false)) else some (.inl ())))))) (fun (_ : Unit) => .inl ()) 0 ())).bind (Sum.elim (fun (_ : Unit) => some true) some)))
theorem laws_eqCandidateS_run (aA : (List Candidate)) (aB : (List Candidate)) (r : Bool) (h : laws_eqCandidateS aA aB = some r) : SCall Tryz.prog 16 [.v (vl eCandidate aA), .v (vl eCandidate aB)] ⟨[.v (vb r)], [], false⟩ := by
  refine scall_in Tryz.func16 rfl [(.tmp 4)] rfl (fun r => ⟨[.v (vb r)], [], false⟩) (r := r) ?_
  unfold laws_eqCandidateS at h
  refine srk tbok ⟨27, [(0, vl eCandidate aA), (1, vl eCandidate aB)], []⟩ ?_
  refine swp_seq ?_
  refine srk tbok ⟨27, [(0, vl eCandidate aA), (1, vl eCandidate aB), (10, vb ((aA.length : Int) != (aB.length : Int)))], []⟩ ?_
  refine swp_cd h (fun h => ?_) fun h => ?_
  refine srk tbok ⟨27, [(4, vb false)], []⟩ ?_
  refine swp_ret ?_
  obtain rfl := inj h
  exact nx_r (q_fr (f1 fv))
  refine swp_skip ?_
  refine nx_n ?_
  refine swp_seq ?_
  refine srk tbok ⟨27, [(0, vl eCandidate aA), (1, vl eCandidate aB), (5, vi 0)], []⟩ ?_
  refine swp_seqE (r := r) h (fun j1 => ⟨27, [], []⟩) (fun v2 h => ?_) (fun j1 h => ?_)
  refine swp_blk (a := v2) ?_
  refine swp_lpL (r := v2) (s := (0, ())) _ (fun s3 => ⟨27, [(0, vl eCandidate aA), (1, vl eCandidate aB), (5, vi s3.1)], []⟩) _ (Le.sub0) h (fun s3 v4 h => ?_)
  refine swp_seq ?_
  refine srk tbok ⟨27, [(0, vl eCandidate aA), (1, vl eCandidate aB), (5, vi s3.1), (14, vb (decide (s3.1 < (aA.length : Int))))], []⟩ ?_
  refine swp_cd h (fun h => ?_) fun h => ?_
  refine swp_skip ?_
  refine nx_n ?_
  refine swp_seq ?_
  refine swp_seqL (r := v4) h (fun j5 => ⟨27, [(0, vl eCandidate aA), (1, vl eCandidate aB), (5, vi s3.1)], []⟩) (fun v6 h => ?_) (fun j5 h => ?_)
  refine swp_blk (a := v6) ?_
  refine swp_seq ?_
  refine swp_dr mixed ?_
  refine DGo.ck tbok false 2 ⟨27, [(0, vl eCandidate aA), (1, vl eCandidate aB), (5, vi s3.1), (17, vl eCandidate aA), (18, vi s3.1)], []⟩ ?_
  obtain ⟨x7, hx7, h⟩ := bind_some h
  refine DGo.step (x_index (L := aA) (f := eCandidate) (ti := ti32) (tj := ti74) (e := 74) (k := .i64) tbok rfl hx7) ?_
  refine DGo.ck tbok false 3 ⟨27, [(0, vl eCandidate aA), (1, vl eCandidate aB), (5, vi s3.1), (20, .agg (tc eCandidate x7)), (21, vl eCandidate aB), (22, vi s3.1)], []⟩ ?_
  obtain ⟨x8, hx8, h⟩ := bind_some h
  refine DGo.step (x_index (L := aB) (f := eCandidate) (ti := ti32) (tj := ti74) (e := 74) (k := .i64) tbok rfl hx8) ?_
  refine DGo.ck tbok false 1 ⟨27, [(0, vl eCandidate aA), (1, vl eCandidate aB), (5, vi s3.1), (20, .agg (tc eCandidate x7)), (24, .agg (tc eCandidate x8))], []⟩ ?_
  obtain ⟨x9, hx9, h⟩ := bind_some h
  refine DGo.step (xc ents46 (laws_eqCandidate_run x7 x8 _ hx9)) ?_
  refine DGo.ck tbok false 1 ⟨27, [(0, vl eCandidate aA), (1, vl eCandidate aB), (5, vi s3.1), (26, vb (!x9))], []⟩ ?_
  refine DGo.nx ?_
  refine swp_cd h (fun h => ?_) fun h => ?_
  refine srk tbok ⟨27, [(4, vb false)], []⟩ ?_
  refine swp_ret ?_
  obtain rfl := inj h
  exact q_br (q_rr (q_rr (q_br (q_rr (q_fr (f1 fv))))))
  refine swp_skip ?_
  obtain rfl := inj h
  exact q_bn (q_l (Le.sub0))
  refine swp_reg ?_
  refine SRun.ck tbok 3 ⟨27, [(0, vl eCandidate aA), (1, vl eCandidate aB), (5, vi (w64 (s3.1 + 1)))], []⟩ ?_
  refine SRun.nil ?_
  obtain rfl := inj h
  exact q_l (Le.sub0)
  refine swp_exit ?_
  obtain rfl := inj h
  exact nx_e (q_re (q_bh (q_l (Le.sub0))))
  refine srk tbok ⟨27, [(4, vb true)], []⟩ ?_
  refine swp_ret ?_
  obtain rfl := inj h
  exact q_fr (f1 fv)
theorem ents16 : Ents Tryz.prog 16 := ents_of Tryz.func16 (by kernel_rfl) rfl
noncomputable def laws_eqSite (aA : Site) (aB : Site) : Option (Bool) :=
  (bif (!(aA.Code.toList == aB.Code.toList)) then some false else ((laws_eqPoint aA.At aB.At).bind fun x1 => (bif (!x1) then some false else some true)))
theorem laws_eqSite_run (aA : Site) (aB : Site) (r : Bool) (h : laws_eqSite aA aB = some r) : SCall Tryz.prog 47 [.v (.agg (tc eSite aA)), .v (.agg (tc eSite aB))] ⟨[.v (vb r)], [], false⟩ := by
  refine scall_in Tryz.func47 rfl [(.tmp 4)] rfl (fun r => ⟨[.v (vb r)], [], false⟩) (r := r) ?_
  unfold laws_eqSite at h
  refine srk tbok ⟨16, [(2, .ref 2 0), (3, .ref 3 0)], [(2, .box (tc eSite aA)), (3, .box (tc eSite aB))]⟩ ?_
  refine swp_seq ?_
  refine srk tbok ⟨16, [(2, .ref 2 0), (3, .ref 3 0), (9, vb (!(aA.Code.toList == aB.Code.toList)))], [(2, .box (tc eSite aA)), (3, .box (tc eSite aB))]⟩ ?_
  refine swp_cd h (fun h => ?_) fun h => ?_
  refine srk tbok ⟨16, [(4, vb false)], []⟩ ?_
  refine swp_ret ?_
  obtain rfl := inj h
  exact nx_r (q_fr (f1 fv))
  refine swp_skip ?_
  refine nx_n ?_
  refine swp_seq ?_
  refine sr ?_
  refine SRun.ck tbok 4 ⟨16, [(11, .agg (tc ePoint aA.At)), (13, .agg (tc ePoint aB.At))], []⟩ ?_
  obtain ⟨x1, hx1, h⟩ := bind_some h
  refine SRun.ls (xc ents66 (laws_eqPoint_run aA.At aB.At _ hx1)) ?_
  refine ckn tbok 1 ⟨16, [(15, vb (!x1))], []⟩ ?_
  refine swp_cd h (fun h => ?_) fun h => ?_
  refine srk tbok ⟨16, [(4, vb false)], []⟩ ?_
  refine swp_ret ?_
  obtain rfl := inj h
  exact nx_r (q_fr (f1 fv))
  refine swp_skip ?_
  refine nx_n ?_
  refine srk tbok ⟨16, [(4, vb true)], []⟩ ?_
  refine swp_ret ?_
  obtain rfl := inj h
  exact q_fr (f1 fv)
theorem ents47 : Ents Tryz.prog 47 := ents_of Tryz.func47 (by kernel_rfl) rfl
noncomputable def laws_eqSiteS (aA : (List Site)) (aB : (List Site)) : Option (Bool) :=
  (bif ((aA.length : Int) != (aB.length : Int)) then some false else (((forN (aA.length : Int) (fun (i3 : Int) (_ : Unit) => ((at' aA i3).bind fun x7 => ((at' aB i3).bind fun x8 => ((laws_eqSite x7 x8).bind fun x9 => (bif (!x9) then some (.inr (.inr false)) else some (.inl ())))))) (fun (_ : Unit) => .inl ()) 0 ())).bind (Sum.elim (fun (_ : Unit) => some true) some)))
theorem laws_eqSiteS_run (aA : (List Site)) (aB : (List Site)) (r : Bool) (h : laws_eqSiteS aA aB = some r) : SCall Tryz.prog 17 [.v (vl eSite aA), .v (vl eSite aB)] ⟨[.v (vb r)], [], false⟩ := by
  refine scall_in Tryz.func17 rfl [(.tmp 4)] rfl (fun r => ⟨[.v (vb r)], [], false⟩) (r := r) ?_
  unfold laws_eqSiteS at h
  refine srk tbok ⟨27, [(0, vl eSite aA), (1, vl eSite aB)], []⟩ ?_
  refine swp_seq ?_
  refine srk tbok ⟨27, [(0, vl eSite aA), (1, vl eSite aB), (10, vb ((aA.length : Int) != (aB.length : Int)))], []⟩ ?_
  refine swp_cd h (fun h => ?_) fun h => ?_
  refine srk tbok ⟨27, [(4, vb false)], []⟩ ?_
  refine swp_ret ?_
  obtain rfl := inj h
  exact nx_r (q_fr (f1 fv))
  refine swp_skip ?_
  refine nx_n ?_
  refine swp_seq ?_
  refine srk tbok ⟨27, [(0, vl eSite aA), (1, vl eSite aB), (5, vi 0)], []⟩ ?_
  refine swp_seqE (r := r) h (fun j1 => ⟨27, [], []⟩) (fun v2 h => ?_) (fun j1 h => ?_)
  refine swp_blk (a := v2) ?_
  refine swp_lpL (r := v2) (s := (0, ())) _ (fun s3 => ⟨27, [(0, vl eSite aA), (1, vl eSite aB), (5, vi s3.1)], []⟩) _ (Le.sub0) h (fun s3 v4 h => ?_)
  refine swp_seq ?_
  refine srk tbok ⟨27, [(0, vl eSite aA), (1, vl eSite aB), (5, vi s3.1), (14, vb (decide (s3.1 < (aA.length : Int))))], []⟩ ?_
  refine swp_cd h (fun h => ?_) fun h => ?_
  refine swp_skip ?_
  refine nx_n ?_
  refine swp_seq ?_
  refine swp_seqL (r := v4) h (fun j5 => ⟨27, [(0, vl eSite aA), (1, vl eSite aB), (5, vi s3.1)], []⟩) (fun v6 h => ?_) (fun j5 h => ?_)
  refine swp_blk (a := v6) ?_
  refine swp_seq ?_
  refine swp_dr mixed ?_
  refine DGo.ck tbok false 2 ⟨27, [(0, vl eSite aA), (1, vl eSite aB), (5, vi s3.1), (17, vl eSite aA), (18, vi s3.1)], []⟩ ?_
  obtain ⟨x7, hx7, h⟩ := bind_some h
  refine DGo.step (x_index (L := aA) (f := eSite) (ti := ti34) (tj := ti78) (e := 78) (k := .i64) tbok rfl hx7) ?_
  refine DGo.ck tbok false 3 ⟨27, [(0, vl eSite aA), (1, vl eSite aB), (5, vi s3.1), (20, .agg (tc eSite x7)), (21, vl eSite aB), (22, vi s3.1)], []⟩ ?_
  obtain ⟨x8, hx8, h⟩ := bind_some h
  refine DGo.step (x_index (L := aB) (f := eSite) (ti := ti34) (tj := ti78) (e := 78) (k := .i64) tbok rfl hx8) ?_
  refine DGo.ck tbok false 1 ⟨27, [(0, vl eSite aA), (1, vl eSite aB), (5, vi s3.1), (20, .agg (tc eSite x7)), (24, .agg (tc eSite x8))], []⟩ ?_
  obtain ⟨x9, hx9, h⟩ := bind_some h
  refine DGo.step (xc ents47 (laws_eqSite_run x7 x8 _ hx9)) ?_
  refine DGo.ck tbok false 1 ⟨27, [(0, vl eSite aA), (1, vl eSite aB), (5, vi s3.1), (26, vb (!x9))], []⟩ ?_
  refine DGo.nx ?_
  refine swp_cd h (fun h => ?_) fun h => ?_
  refine srk tbok ⟨27, [(4, vb false)], []⟩ ?_
  refine swp_ret ?_
  obtain rfl := inj h
  exact q_br (q_rr (q_rr (q_br (q_rr (q_fr (f1 fv))))))
  refine swp_skip ?_
  obtain rfl := inj h
  exact q_bn (q_l (Le.sub0))
  refine swp_reg ?_
  refine SRun.ck tbok 3 ⟨27, [(0, vl eSite aA), (1, vl eSite aB), (5, vi (w64 (s3.1 + 1)))], []⟩ ?_
  refine SRun.nil ?_
  obtain rfl := inj h
  exact q_l (Le.sub0)
  refine swp_exit ?_
  obtain rfl := inj h
  exact nx_e (q_re (q_bh (q_l (Le.sub0))))
  refine srk tbok ⟨27, [(4, vb true)], []⟩ ?_
  refine swp_ret ?_
  obtain rfl := inj h
  exact q_fr (f1 fv)
theorem ents17 : Ents Tryz.prog 17 := ents_of Tryz.func17 (by kernel_rfl) rfl
noncomputable def laws_eqDescription (aA : Description) (aB : Description) : Option (Bool) :=
  (bif (aA.Kind != aB.Kind) then some false else (bif (aA.Count != aB.Count) then some false else (bif (!(aA.Unit.toList == aB.Unit.toList)) then some false else (bif (aA.Direction != aB.Direction) then some false else (bif (!(aA.A.toList == aB.A.toList)) then some false else (bif (!(aA.B.toList == aB.B.toList)) then some false else some true))))))
theorem laws_eqDescription_run (aA : Description) (aB : Description) (r : Bool) (h : laws_eqDescription aA aB = some r) : SCall Tryz.prog 48 [.v (.agg (tc eDescription aA)), .v (.agg (tc eDescription aB))] ⟨[.v (vb r)], [], false⟩ := by
  refine scall_in Tryz.func48 rfl [(.tmp 4)] rfl (fun r => ⟨[.v (vb r)], [], false⟩) (r := r) ?_
  unfold laws_eqDescription at h
  refine srk tbok ⟨35, [(2, .ref 2 0), (3, .ref 3 0)], [(2, .box (tc eDescription aA)), (3, .box (tc eDescription aB))]⟩ ?_
  refine swp_seq ?_
  refine srk tbok ⟨35, [(2, .ref 2 0), (3, .ref 3 0), (9, vb (aA.Kind != aB.Kind))], [(2, .box (tc eDescription aA)), (3, .box (tc eDescription aB))]⟩ ?_
  refine swp_cd h (fun h => ?_) fun h => ?_
  refine srk tbok ⟨35, [(4, vb false)], []⟩ ?_
  refine swp_ret ?_
  obtain rfl := inj h
  exact nx_r (q_fr (f1 fv))
  refine swp_skip ?_
  refine nx_n ?_
  refine swp_seq ?_
  refine srk tbok ⟨35, [(2, .ref 2 0), (3, .ref 3 0), (14, vb (aA.Count != aB.Count))], [(2, .box (tc eDescription aA)), (3, .box (tc eDescription aB))]⟩ ?_
  refine swp_cd h (fun h => ?_) fun h => ?_
  refine srk tbok ⟨35, [(4, vb false)], []⟩ ?_
  refine swp_ret ?_
  obtain rfl := inj h
  exact nx_r (q_fr (f1 fv))
  refine swp_skip ?_
  refine nx_n ?_
  refine swp_seq ?_
  refine srk tbok ⟨35, [(2, .ref 2 0), (3, .ref 3 0), (19, vb (!(aA.Unit.toList == aB.Unit.toList)))], [(2, .box (tc eDescription aA)), (3, .box (tc eDescription aB))]⟩ ?_
  refine swp_cd h (fun h => ?_) fun h => ?_
  refine srk tbok ⟨35, [(4, vb false)], []⟩ ?_
  refine swp_ret ?_
  obtain rfl := inj h
  exact nx_r (q_fr (f1 fv))
  refine swp_skip ?_
  refine nx_n ?_
  refine swp_seq ?_
  refine srk tbok ⟨35, [(2, .ref 2 0), (3, .ref 3 0), (24, vb (aA.Direction != aB.Direction))], [(2, .box (tc eDescription aA)), (3, .box (tc eDescription aB))]⟩ ?_
  refine swp_cd h (fun h => ?_) fun h => ?_
  refine srk tbok ⟨35, [(4, vb false)], []⟩ ?_
  refine swp_ret ?_
  obtain rfl := inj h
  exact nx_r (q_fr (f1 fv))
  refine swp_skip ?_
  refine nx_n ?_
  refine swp_seq ?_
  refine srk tbok ⟨35, [(2, .ref 2 0), (3, .ref 3 0), (29, vb (!(aA.A.toList == aB.A.toList)))], [(2, .box (tc eDescription aA)), (3, .box (tc eDescription aB))]⟩ ?_
  refine swp_cd h (fun h => ?_) fun h => ?_
  refine srk tbok ⟨35, [(4, vb false)], []⟩ ?_
  refine swp_ret ?_
  obtain rfl := inj h
  exact nx_r (q_fr (f1 fv))
  refine swp_skip ?_
  refine nx_n ?_
  refine swp_seq ?_
  refine srk tbok ⟨35, [(34, vb (!(aA.B.toList == aB.B.toList)))], []⟩ ?_
  refine swp_cd h (fun h => ?_) fun h => ?_
  refine srk tbok ⟨35, [(4, vb false)], []⟩ ?_
  refine swp_ret ?_
  obtain rfl := inj h
  exact nx_r (q_fr (f1 fv))
  refine swp_skip ?_
  refine nx_n ?_
  refine srk tbok ⟨35, [(4, vb true)], []⟩ ?_
  refine swp_ret ?_
  obtain rfl := inj h
  exact q_fr (f1 fv)
theorem ents48 : Ents Tryz.prog 48 := ents_of Tryz.func48 (by kernel_rfl) rfl
noncomputable def laws_eqDescriptionS (aA : (List Description)) (aB : (List Description)) : Option (Bool) :=
  (bif ((aA.length : Int) != (aB.length : Int)) then some false else (((forN (aA.length : Int) (fun (i3 : Int) (_ : Unit) => ((at' aA i3).bind fun x7 => ((at' aB i3).bind fun x8 => ((laws_eqDescription x7 x8).bind fun x9 => (bif (!x9) then some (.inr (.inr false)) else some (.inl ())))))) (fun (_ : Unit) => .inl ()) 0 ())).bind (Sum.elim (fun (_ : Unit) => some true) some)))
theorem laws_eqDescriptionS_run (aA : (List Description)) (aB : (List Description)) (r : Bool) (h : laws_eqDescriptionS aA aB = some r) : SCall Tryz.prog 18 [.v (vl eDescription aA), .v (vl eDescription aB)] ⟨[.v (vb r)], [], false⟩ := by
  refine scall_in Tryz.func18 rfl [(.tmp 4)] rfl (fun r => ⟨[.v (vb r)], [], false⟩) (r := r) ?_
  unfold laws_eqDescriptionS at h
  refine srk tbok ⟨27, [(0, vl eDescription aA), (1, vl eDescription aB)], []⟩ ?_
  refine swp_seq ?_
  refine srk tbok ⟨27, [(0, vl eDescription aA), (1, vl eDescription aB), (10, vb ((aA.length : Int) != (aB.length : Int)))], []⟩ ?_
  refine swp_cd h (fun h => ?_) fun h => ?_
  refine srk tbok ⟨27, [(4, vb false)], []⟩ ?_
  refine swp_ret ?_
  obtain rfl := inj h
  exact nx_r (q_fr (f1 fv))
  refine swp_skip ?_
  refine nx_n ?_
  refine swp_seq ?_
  refine srk tbok ⟨27, [(0, vl eDescription aA), (1, vl eDescription aB), (5, vi 0)], []⟩ ?_
  refine swp_seqE (r := r) h (fun j1 => ⟨27, [], []⟩) (fun v2 h => ?_) (fun j1 h => ?_)
  refine swp_blk (a := v2) ?_
  refine swp_lpL (r := v2) (s := (0, ())) _ (fun s3 => ⟨27, [(0, vl eDescription aA), (1, vl eDescription aB), (5, vi s3.1)], []⟩) _ (Le.sub0) h (fun s3 v4 h => ?_)
  refine swp_seq ?_
  refine srk tbok ⟨27, [(0, vl eDescription aA), (1, vl eDescription aB), (5, vi s3.1), (14, vb (decide (s3.1 < (aA.length : Int))))], []⟩ ?_
  refine swp_cd h (fun h => ?_) fun h => ?_
  refine swp_skip ?_
  refine nx_n ?_
  refine swp_seq ?_
  refine swp_seqL (r := v4) h (fun j5 => ⟨27, [(0, vl eDescription aA), (1, vl eDescription aB), (5, vi s3.1)], []⟩) (fun v6 h => ?_) (fun j5 h => ?_)
  refine swp_blk (a := v6) ?_
  refine swp_seq ?_
  refine swp_dr mixed ?_
  refine DGo.ck tbok false 2 ⟨27, [(0, vl eDescription aA), (1, vl eDescription aB), (5, vi s3.1), (17, vl eDescription aA), (18, vi s3.1)], []⟩ ?_
  obtain ⟨x7, hx7, h⟩ := bind_some h
  refine DGo.step (x_index (L := aA) (f := eDescription) (ti := ti36) (tj := ti80) (e := 80) (k := .i64) tbok rfl hx7) ?_
  refine DGo.ck tbok false 3 ⟨27, [(0, vl eDescription aA), (1, vl eDescription aB), (5, vi s3.1), (20, .agg (tc eDescription x7)), (21, vl eDescription aB), (22, vi s3.1)], []⟩ ?_
  obtain ⟨x8, hx8, h⟩ := bind_some h
  refine DGo.step (x_index (L := aB) (f := eDescription) (ti := ti36) (tj := ti80) (e := 80) (k := .i64) tbok rfl hx8) ?_
  refine DGo.ck tbok false 1 ⟨27, [(0, vl eDescription aA), (1, vl eDescription aB), (5, vi s3.1), (20, .agg (tc eDescription x7)), (24, .agg (tc eDescription x8))], []⟩ ?_
  obtain ⟨x9, hx9, h⟩ := bind_some h
  refine DGo.step (xc ents48 (laws_eqDescription_run x7 x8 _ hx9)) ?_
  refine DGo.ck tbok false 1 ⟨27, [(0, vl eDescription aA), (1, vl eDescription aB), (5, vi s3.1), (26, vb (!x9))], []⟩ ?_
  refine DGo.nx ?_
  refine swp_cd h (fun h => ?_) fun h => ?_
  refine srk tbok ⟨27, [(4, vb false)], []⟩ ?_
  refine swp_ret ?_
  obtain rfl := inj h
  exact q_br (q_rr (q_rr (q_br (q_rr (q_fr (f1 fv))))))
  refine swp_skip ?_
  obtain rfl := inj h
  exact q_bn (q_l (Le.sub0))
  refine swp_reg ?_
  refine SRun.ck tbok 3 ⟨27, [(0, vl eDescription aA), (1, vl eDescription aB), (5, vi (w64 (s3.1 + 1)))], []⟩ ?_
  refine SRun.nil ?_
  obtain rfl := inj h
  exact q_l (Le.sub0)
  refine swp_exit ?_
  obtain rfl := inj h
  exact nx_e (q_re (q_bh (q_l (Le.sub0))))
  refine srk tbok ⟨27, [(4, vb true)], []⟩ ?_
  refine swp_ret ?_
  obtain rfl := inj h
  exact q_fr (f1 fv)
theorem ents18 : Ents Tryz.prog 18 := ents_of Tryz.func18 (by kernel_rfl) rfl
noncomputable def spec_l30Before (aA : Answer) (aB : Answer) : Option (Bool) :=
  some ((decide ((w64 ((w64 (10 * aA.Satisfied)) - aA.Distance)) > (w64 ((w64 (10 * aB.Satisfied)) - aB.Distance)))) || (((w64 ((w64 (10 * aA.Satisfied)) - aA.Distance)) == (w64 ((w64 (10 * aB.Satisfied)) - aB.Distance))) && (Op.bytesLess aA.Code.toList aB.Code.toList)))
theorem spec_l30Before_run (aA : Answer) (aB : Answer) (r : Bool) (h : spec_l30Before aA aB = some r) : SCall Tryz.prog 70 [.v (.agg (tc eAnswer aA)), .v (.agg (tc eAnswer aB))] ⟨[.v (vb r)], [], false⟩ := by
  refine scall_in Tryz.func70 rfl [(.tmp 4)] rfl (fun r => ⟨[.v (vb r)], [], false⟩) (r := r) ?_
  unfold spec_l30Before at h
  refine srk tbok ⟨34, [(2, .ref 2 0), (3, .ref 3 0)], [(2, .box (tc eAnswer aA)), (3, .box (tc eAnswer aB))]⟩ ?_
  refine swp_seq ?_
  refine swp_dr mixed ?_
  refine DGo.ck tbok false 14 ⟨34, [(2, .ref 2 0), (3, .ref 3 0), (5, vi (w64 ((w64 (10 * aA.Satisfied)) - aA.Distance))), (6, vi (w64 ((w64 (10 * aB.Satisfied)) - aB.Distance)))], [(2, .box (tc eAnswer aA)), (3, .box (tc eAnswer aB))]⟩ ?_
  refine DGo.nx ?_
  refine swp_seq ?_
  refine swp_regP ⟨34, [(4, vb ((decide ((w64 ((w64 (10 * aA.Satisfied)) - aA.Distance)) > (w64 ((w64 (10 * aB.Satisfied)) - aB.Distance)))) || (((w64 ((w64 (10 * aA.Satisfied)) - aA.Distance)) == (w64 ((w64 (10 * aB.Satisfied)) - aB.Distance))) && (Op.bytesLess aA.Code.toList aB.Code.toList))))], []⟩ ?_ ?_
  refine SRun.ck tbok 4 ⟨34, [(2, .ref 2 0), (3, .ref 3 0), (5, vi (w64 ((w64 (10 * aA.Satisfied)) - aA.Distance))), (6, vi (w64 ((w64 (10 * aB.Satisfied)) - aB.Distance))), (22, vb (decide ((w64 ((w64 (10 * aA.Satisfied)) - aA.Distance)) > (w64 ((w64 (10 * aB.Satisfied)) - aB.Distance)))))], [(2, .box (tc eAnswer aA)), (3, .box (tc eAnswer aB))]⟩ ?_
  generalize (decide ((w64 ((w64 (10 * aA.Satisfied)) - aA.Distance)) > (w64 ((w64 (10 * aB.Satisfied)) - aB.Distance)))) = bb
  cases bb
  refine SRun.ck tbok 4 ⟨34, [(2, .ref 2 0), (3, .ref 3 0), (22, vb false), (26, vb ((w64 ((w64 (10 * aA.Satisfied)) - aA.Distance)) == (w64 ((w64 (10 * aB.Satisfied)) - aB.Distance))))], [(2, .box (tc eAnswer aA)), (3, .box (tc eAnswer aB))]⟩ ?_
  generalize ((w64 ((w64 (10 * aA.Satisfied)) - aA.Distance)) == (w64 ((w64 (10 * aB.Satisfied)) - aB.Distance))) = bb
  cases bb
  refine SRun.ck tbok 8 ⟨34, [(4, vb false)], []⟩ ?_
  exact SRun.nil (Le.sub0)
  refine SRun.ck tbok 8 ⟨34, [(4, vb (Op.bytesLess aA.Code.toList aB.Code.toList))], []⟩ ?_
  exact SRun.nil (Le.sub0)
  refine SRun.ck tbok 12 ⟨34, [(4, vb true)], []⟩ ?_
  exact SRun.nil (Le.sub0)
  refine swp_ret ?_
  obtain rfl := inj h
  exact q_fr (f1 fv)
theorem ents70 : Ents Tryz.prog 70 := ents_of Tryz.func70 (by kernel_rfl) rfl
noncomputable def spec_l30Ranked (aList : (List Candidate)) (aText : ByteArray) (aSites : (List Site)) (aDescriptions : (List Description)) : Option ((List Answer)) :=
  (((forS (aList.length : Int) (fun (i3 : Int) (s3 : (List Answer)) => ((at' aList i3).bind fun x7 => ((spec_l30Answer x7 aText aSites aDescriptions).bind fun x8 => (((loop (fun (s11 : Int) => (((bif (decide (s11 < (s3.length : Int))) then ((at' s3 s11).bind fun x13 => ((spec_l30Before x13 x8).bind fun x14 => some x14)) else some false)).bind fun (j15 : Bool) => (bif j15 then some (.inl (w64 (s11 + 1))) else some (.inr s11)))) 0)).bind fun (j9 : Int) => ((part' s3 0 j9).bind fun x17 => ((app' ([] : List Answer) x17).bind fun x18 => ((app' x18 ([x8] : List Answer)).bind fun x19 => ((part' s3 j9 (s3.length : Int)).bind fun x20 => ((app' x19 x20).bind fun x21 => some x21))))))))) (fun (s3 : (List Answer)) => s3) 0 ([] : List Answer))).bind fun (j1 : (List Answer)) => some j1)
theorem spec_l30Ranked_run (aList : (List Candidate)) (aText : ByteArray) (aSites : (List Site)) (aDescriptions : (List Description)) (r : (List Answer)) (h : spec_l30Ranked aList aText aSites aDescriptions = some r) : SCall Tryz.prog 50 [.v (vl eCandidate aList), .v (vs aText), .v (vl eSite aSites), .v (vl eDescription aDescriptions)] ⟨[.own 29 3 r.length (r.map eAnswer)], [], false⟩ := by
  refine scall_in Tryz.func50 rfl [(.tmp 8)] rfl (fun r => ⟨[.own 29 3 r.length (r.map eAnswer)], [], false⟩) (r := r) ?_
  unfold spec_l30Ranked at h
  refine srk tbok ⟨55, [(0, vl eCandidate aList), (1, vs aText), (2, vl eSite aSites), (3, vl eDescription aDescriptions)], []⟩ ?_
  refine srk tbok ⟨55, [(0, vl eCandidate aList), (1, vs aText), (2, vl eSite aSites), (3, vl eDescription aDescriptions), (9, .own 13)], [(13, oa 29 3 eAnswer ([] : List Answer))]⟩ ?_
  refine swp_seq ?_
  refine srk tbok ⟨55, [(0, vl eCandidate aList), (1, vs aText), (2, vl eSite aSites), (3, vl eDescription aDescriptions), (9, .own 13), (10, vi 0)], [(13, oa 29 3 eAnswer ([] : List Answer))]⟩ ?_
  refine swp_seqJ h (fun j1 => ⟨55, [(9, .own 9)], [(9, oa 29 3 eAnswer j1)]⟩) (fun v2 h => ?_) (fun j1 h => ?_)
  refine swp_blk (a := v2) ?_
  refine swp_lpL (r := v2) (s := (0, ([] : List Answer))) _ (fun s3 => ⟨55, [(0, vl eCandidate aList), (1, vs aText), (2, vl eSite aSites), (3, vl eDescription aDescriptions), (9, .own 9), (10, vi s3.1)], [(9, oa 29 3 eAnswer s3.2)]⟩) _ ((Le.sub' ([(0, vl eCandidate aList), (1, vs aText), (2, vl eSite aSites), (3, vl eDescription aDescriptions), (9, .own 13), (10, vi 0)] : List (Nat × SV)) ([(13, oa 29 3 eAnswer ([] : List Answer))] : List (Nat × SO)) (by kernel_rfl) (by kernel_rfl)).trans ((Le.ren' (d := 13) (e := 9) (by kernel_rfl) (by kernel_rfl) (by kernel_rfl)).trans (Le.sub0))) h (fun s3 v4 h => ?_)
  refine swp_seq ?_
  refine srk tbok ⟨55, [(0, vl eCandidate aList), (1, vs aText), (2, vl eSite aSites), (3, vl eDescription aDescriptions), (9, .own 9), (10, vi s3.1), (17, vb (decide (s3.1 < (aList.length : Int))))], [(9, oa 29 3 eAnswer s3.2)]⟩ ?_
  refine swp_cd h (fun h => ?_) fun h => ?_
  refine swp_skip ?_
  refine nx_n ?_
  refine swp_seq ?_
  refine swp_seqJ h (fun j5 => ⟨55, [(0, vl eCandidate aList), (1, vs aText), (2, vl eSite aSites), (3, vl eDescription aDescriptions), (9, .own 9), (10, vi s3.1)], [(9, oa 29 3 eAnswer j5)]⟩) (fun v6 h => ?_) (fun j5 h => ?_)
  refine swp_blk (a := v6) ?_
  refine sr ?_
  refine SRun.ck tbok 2 ⟨55, [(0, vl eCandidate aList), (1, vs aText), (2, vl eSite aSites), (3, vl eDescription aDescriptions), (9, .own 9), (10, vi s3.1), (20, vl eCandidate aList), (21, vi s3.1)], [(9, oa 29 3 eAnswer s3.2)]⟩ ?_
  obtain ⟨x7, hx7, h⟩ := bind_some h
  refine SRun.ls (x_index (L := aList) (f := eCandidate) (ti := ti32) (tj := ti74) (e := 74) (k := .i64) tbok rfl hx7) ?_
  refine SRun.ck tbok 4 ⟨55, [(0, vl eCandidate aList), (1, vs aText), (2, vl eSite aSites), (3, vl eDescription aDescriptions), (9, .own 9), (10, vi s3.1), (23, .agg (tc eCandidate x7)), (24, vs aText), (25, vl eSite aSites), (26, vl eDescription aDescriptions)], [(9, oa 29 3 eAnswer s3.2)]⟩ ?_
  obtain ⟨x8, hx8, h⟩ := bind_some h
  refine SRun.ls (xc ents38 (spec_l30Answer_run x7 aText aSites aDescriptions _ hx8)) ?_
  refine ckn tbok 2 ⟨55, [(0, vl eCandidate aList), (1, vs aText), (2, vl eSite aSites), (3, vl eDescription aDescriptions), (9, .own 9), (10, vi s3.1), (11, .ref 11 0)], [(9, oa 29 3 eAnswer s3.2), (11, .box (tc eAnswer x8))]⟩ ?_
  refine srk tbok ⟨55, [(0, vl eCandidate aList), (1, vs aText), (2, vl eSite aSites), (3, vl eDescription aDescriptions), (9, .own 9), (10, vi s3.1), (11, .ref 11 0), (12, vi 0)], [(9, oa 29 3 eAnswer s3.2), (11, .box (tc eAnswer x8))]⟩ ?_
  refine swp_seq ?_
  refine swp_seqJ h (fun j9 => ⟨55, [(0, vl eCandidate aList), (1, vs aText), (2, vl eSite aSites), (3, vl eDescription aDescriptions), (9, .own 9), (10, vi s3.1), (11, .ref 11 0), (12, vi j9)], [(9, oa 29 3 eAnswer s3.2), (11, .box (tc eAnswer x8))]⟩) (fun v10 h => ?_) (fun j9 h => ?_)
  refine swp_blk (a := v10) ?_
  refine swp_lpL (r := v10) (s := 0) _ (fun s11 => ⟨55, [(0, vl eCandidate aList), (1, vs aText), (2, vl eSite aSites), (3, vl eDescription aDescriptions), (9, .own 9), (10, vi s3.1), (11, .ref 11 0), (12, vi s11)], [(9, oa 29 3 eAnswer s3.2), (11, .box (tc eAnswer x8))]⟩) _ (Le.sub0) h (fun s11 v12 h => ?_)
  refine swp_seq ?_
  refine swp_seq ?_
  refine swp_drJ mixed h (fun j15 => ⟨55, [(0, vl eCandidate aList), (1, vs aText), (2, vl eSite aSites), (3, vl eDescription aDescriptions), (9, .own 9), (10, vi s3.1), (11, .ref 11 0), (12, vi s11), (39, vb j15)], [(9, oa 29 3 eAnswer s3.2), (11, .box (tc eAnswer x8))]⟩) (fun v16 h => ?_) (fun j15 h => ?_)
  refine DGo.ck tbok false 5 ⟨55, [(0, vl eCandidate aList), (1, vs aText), (2, vl eSite aSites), (3, vl eDescription aDescriptions), (9, .own 9), (10, vi s3.1), (11, .ref 11 0), (12, vi s11), (32, vb (decide (s11 < (s3.2.length : Int))))], [(9, oa 29 3 eAnswer s3.2), (11, .box (tc eAnswer x8))]⟩ ?_
  refine DGo.cu [(32, fun b => b)] h (fun h => ?_) fun h => ?_
  refine DGo.ck tbok false 2 ⟨55, [(0, vl eCandidate aList), (1, vs aText), (2, vl eSite aSites), (3, vl eDescription aDescriptions), (9, .own 9), (10, vi s3.1), (11, .ref 11 0), (12, vi s11), (32, vb true), (33, .own 9), (34, vi s11)], [(9, oa 29 3 eAnswer s3.2), (11, .box (tc eAnswer x8))]⟩ ?_
  obtain ⟨x13, hx13, h⟩ := bind_some h
  refine DGo.step (x_index_own (d := 9) (L := s3.2) (f := eAnswer) (ti := ti43) (tj := ti29) (e := 29) (e' := 29) (m := 3) (k := .i64) tbok rfl hx13) ?_
  refine DGo.step (x_load_own (d := 9) (m := 3) (j := 0) (L := s3.2) (f := eAnswer) (ti := ti29) (e := 29) (v := .agg (tc eAnswer x13)) tbok rfl hx13) ?_
  refine DGo.ck tbok false 1 ⟨55, [(0, vl eCandidate aList), (1, vs aText), (2, vl eSite aSites), (3, vl eDescription aDescriptions), (9, .own 9), (10, vi s3.1), (11, .ref 11 0), (12, vi s11), (32, vb true), (36, .agg (tc eAnswer x13)), (37, .agg (tc eAnswer x8))], [(9, oa 29 3 eAnswer s3.2), (11, .box (tc eAnswer x8))]⟩ ?_
  obtain ⟨x14, hx14, h⟩ := bind_some h
  refine DGo.step (xc ents70 (spec_l30Before_run x13 x8 _ hx14)) ?_
  refine DGo.ck tbok false 1 ⟨55, [(0, vl eCandidate aList), (1, vs aText), (2, vl eSite aSites), (3, vl eDescription aDescriptions), (9, .own 9), (10, vi s3.1), (11, .ref 11 0), (12, vi s11), (39, vb x14)], [(9, oa 29 3 eAnswer s3.2), (11, .box (tc eAnswer x8))]⟩ ?_
  refine DGo.nil (by kernel_rfl) ?_
  obtain rfl := inj h
  exact Le.sub0
  refine DGo.ck tbok false 7 ⟨55, [(0, vl eCandidate aList), (1, vs aText), (2, vl eSite aSites), (3, vl eDescription aDescriptions), (9, .own 9), (10, vi s3.1), (11, .ref 11 0), (12, vi s11), (39, vb false)], [(9, oa 29 3 eAnswer s3.2), (11, .box (tc eAnswer x8))]⟩ ?_
  refine DGo.nil (by kernel_rfl) ?_
  obtain rfl := inj h
  exact Le.sub0
  refine swp_cd h (fun h => ?_) fun h => ?_
  refine swp_skip ?_
  refine nx_n ?_
  refine swp_blk (a := v12) ?_
  refine swp_reg ?_
  refine SRun.ck tbok 3 ⟨55, [(0, vl eCandidate aList), (1, vs aText), (2, vl eSite aSites), (3, vl eDescription aDescriptions), (9, .own 9), (10, vi s3.1), (11, .ref 11 0), (12, vi (w64 (s11 + 1)))], [(9, oa 29 3 eAnswer s3.2), (11, .box (tc eAnswer x8))]⟩ ?_
  refine SRun.nil ?_
  obtain rfl := inj h
  exact q_bn (q_l (Le.sub0))
  refine swp_exit ?_
  obtain rfl := inj h
  exact nx_e (q_re (q_bh (q_j (Le.sub0))))
  refine swp_le (Le.frz' (d := 9) (e := 29) (m := 3) (n := s3.2.length) (es := s3.2.map eAnswer) (by kernel_rfl) (by kernel_rfl)) ?_
  obtain ⟨x17, hx17, h⟩ := bind_some h
  obtain ⟨x18, hx18, h⟩ := bind_some h
  obtain ⟨x19, hx19, h⟩ := bind_some h
  obtain ⟨x20, hx20, h⟩ := bind_some h
  obtain ⟨x21, hx21, h⟩ := bind_some h
  refine swp_dr mixed ?_
  refine DGo.enum (σE := ⟨55, [(0, vl eCandidate aList), (1, vs aText), (2, vl eSite aSites), (3, vl eDescription aDescriptions), (9, .own 53), (10, vi s3.1)], [(53, oa 29 3 eAnswer x21)]⟩) (n := 13) (L0 := #[false, false, false, false, false, false, false, false, false, false, false, false, false]) (by kernel_rfl) (by kernel_rfl) (fun K hk => ?_) ?_
  refine DE.share (fuel := 0) (L := #[true, true, true, true, true, true, true, true, true, true, true, true, true]) (σ := ⟨55, [(0, vl eCandidate aList), (1, vs aText), (2, vl eSite aSites), (3, vl eDescription aDescriptions), (9, .own 53), (10, vi s3.1)], [(53, oa 29 3 eAnswer x21)]⟩) ?_ (fun d37 => ?_)
  exact DE.done (by kernel_rfl) hk
  refine DE.share (fuel := 1) (L := #[true, true, true, true, true, true, true, true, true, true, true, true, false]) (σ := ⟨55, [(0, vl eCandidate aList), (1, vs aText), (2, vl eSite aSites), (3, vl eDescription aDescriptions), (9, vl eAnswer s3.2), (10, vi s3.1), (53, .own 53)], [(53, oa 29 3 eAnswer x21)]⟩) ?_ (fun d36 => ?_)
  exact DE.take (i := 12) (L' := #[true, true, true, true, true, true, true, true, true, true, true, true, true]) rfl (.inr rfl) rfl (by kernel_rfl) (by kernel_rfl) (by kernel_rfl) (EStep.le (EStep.ofN2 tbok (σ' := ⟨55, [(9, .own 53), (0, vl eCandidate aList), (1, vs aText), (2, vl eSite aSites), (3, vl eDescription aDescriptions), (10, vi s3.1), (53, .own 53)], [(53, oa 29 3 eAnswer x21)]⟩) (by kernel_rfl)) Le.sub0) (by kernel_rfl) d37
  refine DE.share (fuel := 2) (L := #[true, true, true, true, true, true, true, true, true, true, true, false, false]) (σ := ⟨55, [(0, vl eCandidate aList), (1, vs aText), (2, vl eSite aSites), (3, vl eDescription aDescriptions), (9, vl eAnswer s3.2), (10, vi s3.1), (49, .own 49), (52, vl eAnswer x20)], [(49, oa 29 3 eAnswer x19)]⟩) ?_ (fun d35 => ?_)
  exact DE.all [11] (by kernel_rfl) (by simp) (List.forall_mem_cons.2 ⟨DEs.mk (i := 11) (L' := #[true, true, true, true, true, true, true, true, true, true, true, true, false]) rfl (EStep.le (x_append (f := eAnswer) (t := 43) (ti := ti43) (tj := ti29) (zs := [.string (ByteArray.mk #[]), .int .i64 0, .int .i64 0]) (e := 29) (m := 3) (d := 49) (xv := vl eAnswer x20) hx21 tbok rfl rfl rfl rfl (src_e (fun _ => rfl))) Le.sub0) (by kernel_rfl) d36, (fun _ h => absurd h List.not_mem_nil)⟩)
  refine DE.share (fuel := 3) (L := #[true, true, true, true, true, true, true, false, true, true, true, false, false]) (σ := ⟨55, [(0, vl eCandidate aList), (1, vs aText), (2, vl eSite aSites), (3, vl eDescription aDescriptions), (9, vl eAnswer s3.2), (10, vi s3.1), (46, .own 46), (48, .own 48), (52, vl eAnswer x20)], [(46, oa 29 3 eAnswer x18), (48, oa 29 3 eAnswer ([x8] : List Answer))]⟩) ?_ (fun d34 => ?_)
  exact DE.all [7] (by kernel_rfl) (by simp) (List.forall_mem_cons.2 ⟨DEs.mk (i := 7) (L' := #[true, true, true, true, true, true, true, true, true, true, true, false, false]) rfl (EStep.le (x_append (f := eAnswer) (t := 43) (ti := ti43) (tj := ti29) (zs := [.string (ByteArray.mk #[]), .int .i64 0, .int .i64 0]) (e := 29) (m := 3) (d := 46) (xv := .own 48) hx19 tbok rfl rfl rfl rfl (x_src_o (e := 29))) Le.sub0) (by kernel_rfl) d35, (fun _ h => absurd h List.not_mem_nil)⟩)
  refine DE.share (fuel := 3) (L := #[true, true, true, true, true, true, true, true, true, true, false, false, false]) (σ := ⟨55, [(0, vl eCandidate aList), (1, vs aText), (2, vl eSite aSites), (3, vl eDescription aDescriptions), (9, vl eAnswer s3.2), (10, vi s3.1), (49, .own 49), (50, vl eAnswer s3.2), (51, vi j9)], [(49, oa 29 3 eAnswer x19)]⟩) ?_ (fun d33 => ?_)
  exact DE.all [10] (by kernel_rfl) (by simp) (List.forall_mem_cons.2 ⟨DEs.mk (i := 10) (L' := #[true, true, true, true, true, true, true, true, true, true, true, false, false]) rfl (EStep.le (EStep.ofL (x_slice (m := 3) (f := eAnswer) (ti := ti43) (tj := ti29) (e := 29) hx20 (fun _ => rfl) tbok rfl) (by kernel_rfl)) Le.sub0) (by kernel_rfl) d35, (fun _ h => absurd h List.not_mem_nil)⟩)
  refine DE.share (fuel := 4) (L := #[true, true, true, true, false, true, true, false, true, true, true, false, false]) (σ := ⟨55, [(0, vl eCandidate aList), (1, vs aText), (2, vl eSite aSites), (3, vl eDescription aDescriptions), (9, vl eAnswer s3.2), (10, vi s3.1), (42, .own 42), (45, vl eAnswer x17), (48, .own 48), (52, vl eAnswer x20)], [(42, oa 29 3 eAnswer ([] : List Answer)), (48, oa 29 3 eAnswer ([x8] : List Answer))]⟩) ?_ (fun d32 => ?_)
  exact DE.all [4] (by kernel_rfl) (by simp) (List.forall_mem_cons.2 ⟨DEs.mk (i := 4) (L' := #[true, true, true, true, true, true, true, false, true, true, true, false, false]) rfl (EStep.le (x_append (f := eAnswer) (t := 43) (ti := ti43) (tj := ti29) (zs := [.string (ByteArray.mk #[]), .int .i64 0, .int .i64 0]) (e := 29) (m := 3) (d := 42) (xv := vl eAnswer x17) hx18 tbok rfl rfl rfl rfl (src_e (fun _ => rfl))) Le.sub0) (by kernel_rfl) d34, (fun _ h => absurd h List.not_mem_nil)⟩)
  refine DE.share (fuel := 4) (L := #[true, true, true, true, true, true, false, false, true, true, true, false, false]) (σ := ⟨55, [(0, vl eCandidate aList), (1, vs aText), (2, vl eSite aSites), (3, vl eDescription aDescriptions), (9, vl eAnswer s3.2), (10, vi s3.1), (46, .own 46), (47, .agg (tc eAnswer x8)), (52, vl eAnswer x20)], [(46, oa 29 3 eAnswer x18)]⟩) ?_ (fun d31 => ?_)
  exact DE.all [6] (by kernel_rfl) (by simp) (List.forall_mem_cons.2 ⟨DEs.mk (i := 6) (L' := #[true, true, true, true, true, true, true, false, true, true, true, false, false]) rfl (EStep.le (EStep.ofN2 tbok (σ' := ⟨55, [(48, .own 48), (0, vl eCandidate aList), (1, vs aText), (2, vl eSite aSites), (3, vl eDescription aDescriptions), (9, vl eAnswer s3.2), (10, vi s3.1), (46, .own 46), (47, .agg (tc eAnswer x8)), (52, vl eAnswer x20)], [(48, oa 29 3 eAnswer ([x8] : List Answer)), (46, oa 29 3 eAnswer x18)]⟩) (by kernel_rfl)) Le.sub0) (by kernel_rfl) d34, (fun _ h => absurd h List.not_mem_nil)⟩)
  refine DE.share (fuel := 4) (L := #[true, true, true, true, true, true, true, false, true, true, false, false, false]) (σ := ⟨55, [(0, vl eCandidate aList), (1, vs aText), (2, vl eSite aSites), (3, vl eDescription aDescriptions), (9, vl eAnswer s3.2), (10, vi s3.1), (46, .own 46), (48, .own 48), (50, vl eAnswer s3.2), (51, vi j9)], [(46, oa 29 3 eAnswer x18), (48, oa 29 3 eAnswer ([x8] : List Answer))]⟩) ?_ (fun d30 => ?_)
  exact DE.all [7, 10] (by kernel_rfl) (by simp) (List.forall_mem_cons.2 ⟨DEs.mk (i := 7) (L' := #[true, true, true, true, true, true, true, true, true, true, false, false, false]) rfl (EStep.le (x_append (f := eAnswer) (t := 43) (ti := ti43) (tj := ti29) (zs := [.string (ByteArray.mk #[]), .int .i64 0, .int .i64 0]) (e := 29) (m := 3) (d := 46) (xv := .own 48) hx19 tbok rfl rfl rfl rfl (x_src_o (e := 29))) Le.sub0) (by kernel_rfl) d33, (List.forall_mem_cons.2 ⟨DEs.mk (i := 10) (L' := #[true, true, true, true, true, true, true, false, true, true, true, false, false]) rfl (EStep.le (EStep.ofL (x_slice (m := 3) (f := eAnswer) (ti := ti43) (tj := ti29) (e := 29) hx20 (fun _ => rfl) tbok rfl) (by kernel_rfl)) Le.sub0) (by kernel_rfl) d34, (fun _ h => absurd h List.not_mem_nil)⟩)⟩)
  refine DE.share (fuel := 5) (L := #[false, true, true, true, false, true, true, false, true, true, true, false, false]) (σ := ⟨55, [(0, vl eCandidate aList), (1, vs aText), (2, vl eSite aSites), (3, vl eDescription aDescriptions), (9, vl eAnswer s3.2), (10, vi s3.1), (45, vl eAnswer x17), (48, .own 48), (52, vl eAnswer x20)], [(48, oa 29 3 eAnswer ([x8] : List Answer))]⟩) ?_ (fun d29 => ?_)
  exact DE.all [0] (by kernel_rfl) (by simp) (List.forall_mem_cons.2 ⟨DEs.mk (i := 0) (L' := #[true, true, true, true, false, true, true, false, true, true, true, false, false]) rfl (EStep.le (EStep.ofN2 tbok (σ' := ⟨55, [(42, .own 42), (0, vl eCandidate aList), (1, vs aText), (2, vl eSite aSites), (3, vl eDescription aDescriptions), (9, vl eAnswer s3.2), (10, vi s3.1), (45, vl eAnswer x17), (48, .own 48), (52, vl eAnswer x20)], [(42, oa 29 3 eAnswer ([] : List Answer)), (48, oa 29 3 eAnswer ([x8] : List Answer))]⟩) (by kernel_rfl)) Le.sub0) (by kernel_rfl) d32, (fun _ h => absurd h List.not_mem_nil)⟩)
  refine DE.share (fuel := 5) (L := #[true, true, true, false, false, true, true, false, true, true, true, false, false]) (σ := ⟨55, [(0, vl eCandidate aList), (1, vs aText), (2, vl eSite aSites), (3, vl eDescription aDescriptions), (9, vl eAnswer s3.2), (10, vi s3.1), (42, .own 42), (43, vl eAnswer s3.2), (44, vi j9), (48, .own 48), (52, vl eAnswer x20)], [(42, oa 29 3 eAnswer ([] : List Answer)), (48, oa 29 3 eAnswer ([x8] : List Answer))]⟩) ?_ (fun d28 => ?_)
  exact DE.all [3] (by kernel_rfl) (by simp) (List.forall_mem_cons.2 ⟨DEs.mk (i := 3) (L' := #[true, true, true, true, false, true, true, false, true, true, true, false, false]) rfl (EStep.le (EStep.ofL (x_slice (m := 3) (f := eAnswer) (ti := ti43) (tj := ti29) (e := 29) hx17 (fun _ => rfl) tbok rfl) (by kernel_rfl)) Le.sub0) (by kernel_rfl) d32, (fun _ h => absurd h List.not_mem_nil)⟩)
  refine DE.share (fuel := 5) (L := #[true, true, true, true, false, true, false, false, true, true, true, false, false]) (σ := ⟨55, [(0, vl eCandidate aList), (1, vs aText), (2, vl eSite aSites), (3, vl eDescription aDescriptions), (9, vl eAnswer s3.2), (10, vi s3.1), (42, .own 42), (45, vl eAnswer x17), (47, .agg (tc eAnswer x8)), (52, vl eAnswer x20)], [(42, oa 29 3 eAnswer ([] : List Answer))]⟩) ?_ (fun d27 => ?_)
  exact DE.all [4, 6] (by kernel_rfl) (by simp) (List.forall_mem_cons.2 ⟨DEs.mk (i := 4) (L' := #[true, true, true, true, true, true, false, false, true, true, true, false, false]) rfl (EStep.le (x_append (f := eAnswer) (t := 43) (ti := ti43) (tj := ti29) (zs := [.string (ByteArray.mk #[]), .int .i64 0, .int .i64 0]) (e := 29) (m := 3) (d := 42) (xv := vl eAnswer x17) hx18 tbok rfl rfl rfl rfl (src_e (fun _ => rfl))) Le.sub0) (by kernel_rfl) d31, (List.forall_mem_cons.2 ⟨DEs.mk (i := 6) (L' := #[true, true, true, true, false, true, true, false, true, true, true, false, false]) rfl (EStep.le (EStep.ofN2 tbok (σ' := ⟨55, [(48, .own 48), (0, vl eCandidate aList), (1, vs aText), (2, vl eSite aSites), (3, vl eDescription aDescriptions), (9, vl eAnswer s3.2), (10, vi s3.1), (42, .own 42), (45, vl eAnswer x17), (47, .agg (tc eAnswer x8)), (52, vl eAnswer x20)], [(48, oa 29 3 eAnswer ([x8] : List Answer)), (42, oa 29 3 eAnswer ([] : List Answer))]⟩) (by kernel_rfl)) Le.sub0) (by kernel_rfl) d32, (fun _ h => absurd h List.not_mem_nil)⟩)⟩)
  refine DE.share (fuel := 5) (L := #[true, true, true, true, false, true, true, false, true, true, false, false, false]) (σ := ⟨55, [(0, vl eCandidate aList), (1, vs aText), (2, vl eSite aSites), (3, vl eDescription aDescriptions), (9, vl eAnswer s3.2), (10, vi s3.1), (42, .own 42), (45, vl eAnswer x17), (48, .own 48), (50, vl eAnswer s3.2), (51, vi j9)], [(42, oa 29 3 eAnswer ([] : List Answer)), (48, oa 29 3 eAnswer ([x8] : List Answer))]⟩) ?_ (fun d26 => ?_)
  exact DE.all [4, 10] (by kernel_rfl) (by simp) (List.forall_mem_cons.2 ⟨DEs.mk (i := 4) (L' := #[true, true, true, true, true, true, true, false, true, true, false, false, false]) rfl (EStep.le (x_append (f := eAnswer) (t := 43) (ti := ti43) (tj := ti29) (zs := [.string (ByteArray.mk #[]), .int .i64 0, .int .i64 0]) (e := 29) (m := 3) (d := 42) (xv := vl eAnswer x17) hx18 tbok rfl rfl rfl rfl (src_e (fun _ => rfl))) Le.sub0) (by kernel_rfl) d30, (List.forall_mem_cons.2 ⟨DEs.mk (i := 10) (L' := #[true, true, true, true, false, true, true, false, true, true, true, false, false]) rfl (EStep.le (EStep.ofL (x_slice (m := 3) (f := eAnswer) (ti := ti43) (tj := ti29) (e := 29) hx20 (fun _ => rfl) tbok rfl) (by kernel_rfl)) Le.sub0) (by kernel_rfl) d32, (fun _ h => absurd h List.not_mem_nil)⟩)⟩)
  refine DE.share (fuel := 5) (L := #[true, true, true, true, true, false, false, false, true, true, true, false, false]) (σ := ⟨55, [(0, vl eCandidate aList), (1, vs aText), (2, vl eSite aSites), (3, vl eDescription aDescriptions), (9, vl eAnswer s3.2), (10, vi s3.1), (11, .ref 11 0), (46, .own 46), (52, vl eAnswer x20)], [(11, .box (tc eAnswer x8)), (46, oa 29 3 eAnswer x18)]⟩) ?_ (fun d25 => ?_)
  exact DE.all [5] (by kernel_rfl) (by simp) (List.forall_mem_cons.2 ⟨DEs.mk (i := 5) (L' := #[true, true, true, true, true, true, false, false, true, true, true, false, false]) rfl (EStep.le (EStep.ofN2 tbok (σ' := ⟨55, [(47, .agg (tc eAnswer x8)), (0, vl eCandidate aList), (1, vs aText), (2, vl eSite aSites), (3, vl eDescription aDescriptions), (9, vl eAnswer s3.2), (10, vi s3.1), (11, .ref 11 0), (46, .own 46), (52, vl eAnswer x20)], [(11, .box (tc eAnswer x8)), (46, oa 29 3 eAnswer x18)]⟩) (by kernel_rfl)) Le.sub0) (by kernel_rfl) d31, (fun _ h => absurd h List.not_mem_nil)⟩)
  refine DE.share (fuel := 5) (L := #[true, true, true, true, true, true, false, false, true, true, false, false, false]) (σ := ⟨55, [(0, vl eCandidate aList), (1, vs aText), (2, vl eSite aSites), (3, vl eDescription aDescriptions), (9, vl eAnswer s3.2), (10, vi s3.1), (46, .own 46), (47, .agg (tc eAnswer x8)), (50, vl eAnswer s3.2), (51, vi j9)], [(46, oa 29 3 eAnswer x18)]⟩) ?_ (fun d24 => ?_)
  exact DE.all [6, 10] (by kernel_rfl) (by simp) (List.forall_mem_cons.2 ⟨DEs.mk (i := 6) (L' := #[true, true, true, true, true, true, true, false, true, true, false, false, false]) rfl (EStep.le (EStep.ofN2 tbok (σ' := ⟨55, [(48, .own 48), (0, vl eCandidate aList), (1, vs aText), (2, vl eSite aSites), (3, vl eDescription aDescriptions), (9, vl eAnswer s3.2), (10, vi s3.1), (46, .own 46), (47, .agg (tc eAnswer x8)), (50, vl eAnswer s3.2), (51, vi j9)], [(48, oa 29 3 eAnswer ([x8] : List Answer)), (46, oa 29 3 eAnswer x18)]⟩) (by kernel_rfl)) Le.sub0) (by kernel_rfl) d30, (List.forall_mem_cons.2 ⟨DEs.mk (i := 10) (L' := #[true, true, true, true, true, true, false, false, true, true, true, false, false]) rfl (EStep.le (EStep.ofL (x_slice (m := 3) (f := eAnswer) (ti := ti43) (tj := ti29) (e := 29) hx20 (fun _ => rfl) tbok rfl) (by kernel_rfl)) Le.sub0) (by kernel_rfl) d31, (fun _ h => absurd h List.not_mem_nil)⟩)⟩)
  refine DE.share (fuel := 6) (L := #[false, true, true, false, false, true, true, false, true, true, true, false, false]) (σ := ⟨55, [(0, vl eCandidate aList), (1, vs aText), (2, vl eSite aSites), (3, vl eDescription aDescriptions), (9, vl eAnswer s3.2), (10, vi s3.1), (43, vl eAnswer s3.2), (44, vi j9), (48, .own 48), (52, vl eAnswer x20)], [(48, oa 29 3 eAnswer ([x8] : List Answer))]⟩) ?_ (fun d23 => ?_)
  exact DE.all [0, 3] (by kernel_rfl) (by simp) (List.forall_mem_cons.2 ⟨DEs.mk (i := 0) (L' := #[true, true, true, false, false, true, true, false, true, true, true, false, false]) rfl (EStep.le (EStep.ofN2 tbok (σ' := ⟨55, [(42, .own 42), (0, vl eCandidate aList), (1, vs aText), (2, vl eSite aSites), (3, vl eDescription aDescriptions), (9, vl eAnswer s3.2), (10, vi s3.1), (43, vl eAnswer s3.2), (44, vi j9), (48, .own 48), (52, vl eAnswer x20)], [(42, oa 29 3 eAnswer ([] : List Answer)), (48, oa 29 3 eAnswer ([x8] : List Answer))]⟩) (by kernel_rfl)) Le.sub0) (by kernel_rfl) d28, (List.forall_mem_cons.2 ⟨DEs.mk (i := 3) (L' := #[false, true, true, true, false, true, true, false, true, true, true, false, false]) rfl (EStep.le (EStep.ofL (x_slice (m := 3) (f := eAnswer) (ti := ti43) (tj := ti29) (e := 29) hx17 (fun _ => rfl) tbok rfl) (by kernel_rfl)) Le.sub0) (by kernel_rfl) d29, (fun _ h => absurd h List.not_mem_nil)⟩)⟩)
  refine DE.share (fuel := 6) (L := #[false, true, true, true, false, true, false, false, true, true, true, false, false]) (σ := ⟨55, [(0, vl eCandidate aList), (1, vs aText), (2, vl eSite aSites), (3, vl eDescription aDescriptions), (9, vl eAnswer s3.2), (10, vi s3.1), (45, vl eAnswer x17), (47, .agg (tc eAnswer x8)), (52, vl eAnswer x20)], []⟩) ?_ (fun d22 => ?_)
  exact DE.all [0, 6] (by kernel_rfl) (by simp) (List.forall_mem_cons.2 ⟨DEs.mk (i := 0) (L' := #[true, true, true, true, false, true, false, false, true, true, true, false, false]) rfl (EStep.le (EStep.ofN2 tbok (σ' := ⟨55, [(42, .own 42), (0, vl eCandidate aList), (1, vs aText), (2, vl eSite aSites), (3, vl eDescription aDescriptions), (9, vl eAnswer s3.2), (10, vi s3.1), (45, vl eAnswer x17), (47, .agg (tc eAnswer x8)), (52, vl eAnswer x20)], [(42, oa 29 3 eAnswer ([] : List Answer))]⟩) (by kernel_rfl)) Le.sub0) (by kernel_rfl) d27, (List.forall_mem_cons.2 ⟨DEs.mk (i := 6) (L' := #[false, true, true, true, false, true, true, false, true, true, true, false, false]) rfl (EStep.le (EStep.ofN2 tbok (σ' := ⟨55, [(48, .own 48), (0, vl eCandidate aList), (1, vs aText), (2, vl eSite aSites), (3, vl eDescription aDescriptions), (9, vl eAnswer s3.2), (10, vi s3.1), (45, vl eAnswer x17), (47, .agg (tc eAnswer x8)), (52, vl eAnswer x20)], [(48, oa 29 3 eAnswer ([x8] : List Answer))]⟩) (by kernel_rfl)) Le.sub0) (by kernel_rfl) d29, (fun _ h => absurd h List.not_mem_nil)⟩)⟩)
  refine DE.share (fuel := 6) (L := #[false, true, true, true, false, true, true, false, true, true, false, false, false]) (σ := ⟨55, [(0, vl eCandidate aList), (1, vs aText), (2, vl eSite aSites), (3, vl eDescription aDescriptions), (9, vl eAnswer s3.2), (10, vi s3.1), (45, vl eAnswer x17), (48, .own 48), (50, vl eAnswer s3.2), (51, vi j9)], [(48, oa 29 3 eAnswer ([x8] : List Answer))]⟩) ?_ (fun d21 => ?_)
  exact DE.all [0, 10] (by kernel_rfl) (by simp) (List.forall_mem_cons.2 ⟨DEs.mk (i := 0) (L' := #[true, true, true, true, false, true, true, false, true, true, false, false, false]) rfl (EStep.le (EStep.ofN2 tbok (σ' := ⟨55, [(42, .own 42), (0, vl eCandidate aList), (1, vs aText), (2, vl eSite aSites), (3, vl eDescription aDescriptions), (9, vl eAnswer s3.2), (10, vi s3.1), (45, vl eAnswer x17), (48, .own 48), (50, vl eAnswer s3.2), (51, vi j9)], [(42, oa 29 3 eAnswer ([] : List Answer)), (48, oa 29 3 eAnswer ([x8] : List Answer))]⟩) (by kernel_rfl)) Le.sub0) (by kernel_rfl) d26, (List.forall_mem_cons.2 ⟨DEs.mk (i := 10) (L' := #[false, true, true, true, false, true, true, false, true, true, true, false, false]) rfl (EStep.le (EStep.ofL (x_slice (m := 3) (f := eAnswer) (ti := ti43) (tj := ti29) (e := 29) hx20 (fun _ => rfl) tbok rfl) (by kernel_rfl)) Le.sub0) (by kernel_rfl) d29, (fun _ h => absurd h List.not_mem_nil)⟩)⟩)
  refine DE.share (fuel := 6) (L := #[true, true, true, false, false, true, false, false, true, true, true, false, false]) (σ := ⟨55, [(0, vl eCandidate aList), (1, vs aText), (2, vl eSite aSites), (3, vl eDescription aDescriptions), (9, vl eAnswer s3.2), (10, vi s3.1), (42, .own 42), (43, vl eAnswer s3.2), (44, vi j9), (47, .agg (tc eAnswer x8)), (52, vl eAnswer x20)], [(42, oa 29 3 eAnswer ([] : List Answer))]⟩) ?_ (fun d20 => ?_)
  exact DE.all [3, 6] (by kernel_rfl) (by simp) (List.forall_mem_cons.2 ⟨DEs.mk (i := 3) (L' := #[true, true, true, true, false, true, false, false, true, true, true, false, false]) rfl (EStep.le (EStep.ofL (x_slice (m := 3) (f := eAnswer) (ti := ti43) (tj := ti29) (e := 29) hx17 (fun _ => rfl) tbok rfl) (by kernel_rfl)) Le.sub0) (by kernel_rfl) d27, (List.forall_mem_cons.2 ⟨DEs.mk (i := 6) (L' := #[true, true, true, false, false, true, true, false, true, true, true, false, false]) rfl (EStep.le (EStep.ofN2 tbok (σ' := ⟨55, [(48, .own 48), (0, vl eCandidate aList), (1, vs aText), (2, vl eSite aSites), (3, vl eDescription aDescriptions), (9, vl eAnswer s3.2), (10, vi s3.1), (42, .own 42), (43, vl eAnswer s3.2), (44, vi j9), (47, .agg (tc eAnswer x8)), (52, vl eAnswer x20)], [(48, oa 29 3 eAnswer ([x8] : List Answer)), (42, oa 29 3 eAnswer ([] : List Answer))]⟩) (by kernel_rfl)) Le.sub0) (by kernel_rfl) d28, (fun _ h => absurd h List.not_mem_nil)⟩)⟩)
  refine DE.share (fuel := 6) (L := #[true, true, true, false, false, true, true, false, true, true, false, false, false]) (σ := ⟨55, [(0, vl eCandidate aList), (1, vs aText), (2, vl eSite aSites), (3, vl eDescription aDescriptions), (9, vl eAnswer s3.2), (10, vi s3.1), (42, .own 42), (43, vl eAnswer s3.2), (44, vi j9), (48, .own 48), (50, vl eAnswer s3.2), (51, vi j9)], [(42, oa 29 3 eAnswer ([] : List Answer)), (48, oa 29 3 eAnswer ([x8] : List Answer))]⟩) ?_ (fun d19 => ?_)
  exact DE.all [3, 10] (by kernel_rfl) (by simp) (List.forall_mem_cons.2 ⟨DEs.mk (i := 3) (L' := #[true, true, true, true, false, true, true, false, true, true, false, false, false]) rfl (EStep.le (EStep.ofL (x_slice (m := 3) (f := eAnswer) (ti := ti43) (tj := ti29) (e := 29) hx17 (fun _ => rfl) tbok rfl) (by kernel_rfl)) Le.sub0) (by kernel_rfl) d26, (List.forall_mem_cons.2 ⟨DEs.mk (i := 10) (L' := #[true, true, true, false, false, true, true, false, true, true, true, false, false]) rfl (EStep.le (EStep.ofL (x_slice (m := 3) (f := eAnswer) (ti := ti43) (tj := ti29) (e := 29) hx20 (fun _ => rfl) tbok rfl) (by kernel_rfl)) Le.sub0) (by kernel_rfl) d28, (fun _ h => absurd h List.not_mem_nil)⟩)⟩)
  refine DE.share (fuel := 6) (L := #[true, true, true, true, false, false, false, false, true, true, true, false, false]) (σ := ⟨55, [(0, vl eCandidate aList), (1, vs aText), (2, vl eSite aSites), (3, vl eDescription aDescriptions), (9, vl eAnswer s3.2), (10, vi s3.1), (11, .ref 11 0), (42, .own 42), (45, vl eAnswer x17), (52, vl eAnswer x20)], [(11, .box (tc eAnswer x8)), (42, oa 29 3 eAnswer ([] : List Answer))]⟩) ?_ (fun d18 => ?_)
  exact DE.all [4, 5] (by kernel_rfl) (by simp) (List.forall_mem_cons.2 ⟨DEs.mk (i := 4) (L' := #[true, true, true, true, true, false, false, false, true, true, true, false, false]) rfl (EStep.le (x_append (f := eAnswer) (t := 43) (ti := ti43) (tj := ti29) (zs := [.string (ByteArray.mk #[]), .int .i64 0, .int .i64 0]) (e := 29) (m := 3) (d := 42) (xv := vl eAnswer x17) hx18 tbok rfl rfl rfl rfl (src_e (fun _ => rfl))) Le.sub0) (by kernel_rfl) d25, (List.forall_mem_cons.2 ⟨DEs.mk (i := 5) (L' := #[true, true, true, true, false, true, false, false, true, true, true, false, false]) rfl (EStep.le (EStep.ofN2 tbok (σ' := ⟨55, [(47, .agg (tc eAnswer x8)), (0, vl eCandidate aList), (1, vs aText), (2, vl eSite aSites), (3, vl eDescription aDescriptions), (9, vl eAnswer s3.2), (10, vi s3.1), (11, .ref 11 0), (42, .own 42), (45, vl eAnswer x17), (52, vl eAnswer x20)], [(11, .box (tc eAnswer x8)), (42, oa 29 3 eAnswer ([] : List Answer))]⟩) (by kernel_rfl)) Le.sub0) (by kernel_rfl) d27, (fun _ h => absurd h List.not_mem_nil)⟩)⟩)
  refine DE.share (fuel := 6) (L := #[true, true, true, true, false, true, false, false, true, true, false, false, false]) (σ := ⟨55, [(0, vl eCandidate aList), (1, vs aText), (2, vl eSite aSites), (3, vl eDescription aDescriptions), (9, vl eAnswer s3.2), (10, vi s3.1), (42, .own 42), (45, vl eAnswer x17), (47, .agg (tc eAnswer x8)), (50, vl eAnswer s3.2), (51, vi j9)], [(42, oa 29 3 eAnswer ([] : List Answer))]⟩) ?_ (fun d17 => ?_)
  exact DE.all [4, 6, 10] (by kernel_rfl) (by simp) (List.forall_mem_cons.2 ⟨DEs.mk (i := 4) (L' := #[true, true, true, true, true, true, false, false, true, true, false, false, false]) rfl (EStep.le (x_append (f := eAnswer) (t := 43) (ti := ti43) (tj := ti29) (zs := [.string (ByteArray.mk #[]), .int .i64 0, .int .i64 0]) (e := 29) (m := 3) (d := 42) (xv := vl eAnswer x17) hx18 tbok rfl rfl rfl rfl (src_e (fun _ => rfl))) Le.sub0) (by kernel_rfl) d24, (List.forall_mem_cons.2 ⟨DEs.mk (i := 6) (L' := #[true, true, true, true, false, true, true, false, true, true, false, false, false]) rfl (EStep.le (EStep.ofN2 tbok (σ' := ⟨55, [(48, .own 48), (0, vl eCandidate aList), (1, vs aText), (2, vl eSite aSites), (3, vl eDescription aDescriptions), (9, vl eAnswer s3.2), (10, vi s3.1), (42, .own 42), (45, vl eAnswer x17), (47, .agg (tc eAnswer x8)), (50, vl eAnswer s3.2), (51, vi j9)], [(48, oa 29 3 eAnswer ([x8] : List Answer)), (42, oa 29 3 eAnswer ([] : List Answer))]⟩) (by kernel_rfl)) Le.sub0) (by kernel_rfl) d26, (List.forall_mem_cons.2 ⟨DEs.mk (i := 10) (L' := #[true, true, true, true, false, true, false, false, true, true, true, false, false]) rfl (EStep.le (EStep.ofL (x_slice (m := 3) (f := eAnswer) (ti := ti43) (tj := ti29) (e := 29) hx20 (fun _ => rfl) tbok rfl) (by kernel_rfl)) Le.sub0) (by kernel_rfl) d27, (fun _ h => absurd h List.not_mem_nil)⟩)⟩)⟩)
  refine DE.share (fuel := 6) (L := #[true, true, true, true, true, false, false, false, true, true, false, false, false]) (σ := ⟨55, [(0, vl eCandidate aList), (1, vs aText), (2, vl eSite aSites), (3, vl eDescription aDescriptions), (9, vl eAnswer s3.2), (10, vi s3.1), (11, .ref 11 0), (46, .own 46), (50, vl eAnswer s3.2), (51, vi j9)], [(11, .box (tc eAnswer x8)), (46, oa 29 3 eAnswer x18)]⟩) ?_ (fun d16 => ?_)
  exact DE.all [5, 10] (by kernel_rfl) (by simp) (List.forall_mem_cons.2 ⟨DEs.mk (i := 5) (L' := #[true, true, true, true, true, true, false, false, true, true, false, false, false]) rfl (EStep.le (EStep.ofN2 tbok (σ' := ⟨55, [(47, .agg (tc eAnswer x8)), (0, vl eCandidate aList), (1, vs aText), (2, vl eSite aSites), (3, vl eDescription aDescriptions), (9, vl eAnswer s3.2), (10, vi s3.1), (11, .ref 11 0), (46, .own 46), (50, vl eAnswer s3.2), (51, vi j9)], [(11, .box (tc eAnswer x8)), (46, oa 29 3 eAnswer x18)]⟩) (by kernel_rfl)) Le.sub0) (by kernel_rfl) d24, (List.forall_mem_cons.2 ⟨DEs.mk (i := 10) (L' := #[true, true, true, true, true, false, false, false, true, true, true, false, false]) rfl (EStep.le (EStep.ofL (x_slice (m := 3) (f := eAnswer) (ti := ti43) (tj := ti29) (e := 29) hx20 (fun _ => rfl) tbok rfl) (by kernel_rfl)) Le.sub0) (by kernel_rfl) d25, (fun _ h => absurd h List.not_mem_nil)⟩)⟩)
  refine DE.share (fuel := 7) (L := #[false, true, true, false, false, true, false, false, true, true, true, false, false]) (σ := ⟨55, [(0, vl eCandidate aList), (1, vs aText), (2, vl eSite aSites), (3, vl eDescription aDescriptions), (9, vl eAnswer s3.2), (10, vi s3.1), (43, vl eAnswer s3.2), (44, vi j9), (47, .agg (tc eAnswer x8)), (52, vl eAnswer x20)], []⟩) ?_ (fun d15 => ?_)
  exact DE.all [0, 3, 6] (by kernel_rfl) (by simp) (List.forall_mem_cons.2 ⟨DEs.mk (i := 0) (L' := #[true, true, true, false, false, true, false, false, true, true, true, false, false]) rfl (EStep.le (EStep.ofN2 tbok (σ' := ⟨55, [(42, .own 42), (0, vl eCandidate aList), (1, vs aText), (2, vl eSite aSites), (3, vl eDescription aDescriptions), (9, vl eAnswer s3.2), (10, vi s3.1), (43, vl eAnswer s3.2), (44, vi j9), (47, .agg (tc eAnswer x8)), (52, vl eAnswer x20)], [(42, oa 29 3 eAnswer ([] : List Answer))]⟩) (by kernel_rfl)) Le.sub0) (by kernel_rfl) d20, (List.forall_mem_cons.2 ⟨DEs.mk (i := 3) (L' := #[false, true, true, true, false, true, false, false, true, true, true, false, false]) rfl (EStep.le (EStep.ofL (x_slice (m := 3) (f := eAnswer) (ti := ti43) (tj := ti29) (e := 29) hx17 (fun _ => rfl) tbok rfl) (by kernel_rfl)) Le.sub0) (by kernel_rfl) d22, (List.forall_mem_cons.2 ⟨DEs.mk (i := 6) (L' := #[false, true, true, false, false, true, true, false, true, true, true, false, false]) rfl (EStep.le (EStep.ofN2 tbok (σ' := ⟨55, [(48, .own 48), (0, vl eCandidate aList), (1, vs aText), (2, vl eSite aSites), (3, vl eDescription aDescriptions), (9, vl eAnswer s3.2), (10, vi s3.1), (43, vl eAnswer s3.2), (44, vi j9), (47, .agg (tc eAnswer x8)), (52, vl eAnswer x20)], [(48, oa 29 3 eAnswer ([x8] : List Answer))]⟩) (by kernel_rfl)) Le.sub0) (by kernel_rfl) d23, (fun _ h => absurd h List.not_mem_nil)⟩)⟩)⟩)
  refine DE.share (fuel := 7) (L := #[false, true, true, false, false, true, true, false, true, true, false, false, false]) (σ := ⟨55, [(0, vl eCandidate aList), (1, vs aText), (2, vl eSite aSites), (3, vl eDescription aDescriptions), (9, vl eAnswer s3.2), (10, vi s3.1), (43, vl eAnswer s3.2), (44, vi j9), (48, .own 48), (50, vl eAnswer s3.2), (51, vi j9)], [(48, oa 29 3 eAnswer ([x8] : List Answer))]⟩) ?_ (fun d14 => ?_)
  exact DE.all [0, 3, 10] (by kernel_rfl) (by simp) (List.forall_mem_cons.2 ⟨DEs.mk (i := 0) (L' := #[true, true, true, false, false, true, true, false, true, true, false, false, false]) rfl (EStep.le (EStep.ofN2 tbok (σ' := ⟨55, [(42, .own 42), (0, vl eCandidate aList), (1, vs aText), (2, vl eSite aSites), (3, vl eDescription aDescriptions), (9, vl eAnswer s3.2), (10, vi s3.1), (43, vl eAnswer s3.2), (44, vi j9), (48, .own 48), (50, vl eAnswer s3.2), (51, vi j9)], [(42, oa 29 3 eAnswer ([] : List Answer)), (48, oa 29 3 eAnswer ([x8] : List Answer))]⟩) (by kernel_rfl)) Le.sub0) (by kernel_rfl) d19, (List.forall_mem_cons.2 ⟨DEs.mk (i := 3) (L' := #[false, true, true, true, false, true, true, false, true, true, false, false, false]) rfl (EStep.le (EStep.ofL (x_slice (m := 3) (f := eAnswer) (ti := ti43) (tj := ti29) (e := 29) hx17 (fun _ => rfl) tbok rfl) (by kernel_rfl)) Le.sub0) (by kernel_rfl) d21, (List.forall_mem_cons.2 ⟨DEs.mk (i := 10) (L' := #[false, true, true, false, false, true, true, false, true, true, true, false, false]) rfl (EStep.le (EStep.ofL (x_slice (m := 3) (f := eAnswer) (ti := ti43) (tj := ti29) (e := 29) hx20 (fun _ => rfl) tbok rfl) (by kernel_rfl)) Le.sub0) (by kernel_rfl) d23, (fun _ h => absurd h List.not_mem_nil)⟩)⟩)⟩)
  refine DE.share (fuel := 7) (L := #[false, true, true, true, false, false, false, false, true, true, true, false, false]) (σ := ⟨55, [(0, vl eCandidate aList), (1, vs aText), (2, vl eSite aSites), (3, vl eDescription aDescriptions), (9, vl eAnswer s3.2), (10, vi s3.1), (11, .ref 11 0), (45, vl eAnswer x17), (52, vl eAnswer x20)], [(11, .box (tc eAnswer x8))]⟩) ?_ (fun d13 => ?_)
  exact DE.all [0, 5] (by kernel_rfl) (by simp) (List.forall_mem_cons.2 ⟨DEs.mk (i := 0) (L' := #[true, true, true, true, false, false, false, false, true, true, true, false, false]) rfl (EStep.le (EStep.ofN2 tbok (σ' := ⟨55, [(42, .own 42), (0, vl eCandidate aList), (1, vs aText), (2, vl eSite aSites), (3, vl eDescription aDescriptions), (9, vl eAnswer s3.2), (10, vi s3.1), (11, .ref 11 0), (45, vl eAnswer x17), (52, vl eAnswer x20)], [(42, oa 29 3 eAnswer ([] : List Answer)), (11, .box (tc eAnswer x8))]⟩) (by kernel_rfl)) Le.sub0) (by kernel_rfl) d18, (List.forall_mem_cons.2 ⟨DEs.mk (i := 5) (L' := #[false, true, true, true, false, true, false, false, true, true, true, false, false]) rfl (EStep.le (EStep.ofN2 tbok (σ' := ⟨55, [(47, .agg (tc eAnswer x8)), (0, vl eCandidate aList), (1, vs aText), (2, vl eSite aSites), (3, vl eDescription aDescriptions), (9, vl eAnswer s3.2), (10, vi s3.1), (11, .ref 11 0), (45, vl eAnswer x17), (52, vl eAnswer x20)], [(11, .box (tc eAnswer x8))]⟩) (by kernel_rfl)) Le.sub0) (by kernel_rfl) d22, (fun _ h => absurd h List.not_mem_nil)⟩)⟩)
  refine DE.share (fuel := 7) (L := #[false, true, true, true, false, true, false, false, true, true, false, false, false]) (σ := ⟨55, [(0, vl eCandidate aList), (1, vs aText), (2, vl eSite aSites), (3, vl eDescription aDescriptions), (9, vl eAnswer s3.2), (10, vi s3.1), (45, vl eAnswer x17), (47, .agg (tc eAnswer x8)), (50, vl eAnswer s3.2), (51, vi j9)], []⟩) ?_ (fun d12 => ?_)
  exact DE.all [0, 6, 10] (by kernel_rfl) (by simp) (List.forall_mem_cons.2 ⟨DEs.mk (i := 0) (L' := #[true, true, true, true, false, true, false, false, true, true, false, false, false]) rfl (EStep.le (EStep.ofN2 tbok (σ' := ⟨55, [(42, .own 42), (0, vl eCandidate aList), (1, vs aText), (2, vl eSite aSites), (3, vl eDescription aDescriptions), (9, vl eAnswer s3.2), (10, vi s3.1), (45, vl eAnswer x17), (47, .agg (tc eAnswer x8)), (50, vl eAnswer s3.2), (51, vi j9)], [(42, oa 29 3 eAnswer ([] : List Answer))]⟩) (by kernel_rfl)) Le.sub0) (by kernel_rfl) d17, (List.forall_mem_cons.2 ⟨DEs.mk (i := 6) (L' := #[false, true, true, true, false, true, true, false, true, true, false, false, false]) rfl (EStep.le (EStep.ofN2 tbok (σ' := ⟨55, [(48, .own 48), (0, vl eCandidate aList), (1, vs aText), (2, vl eSite aSites), (3, vl eDescription aDescriptions), (9, vl eAnswer s3.2), (10, vi s3.1), (45, vl eAnswer x17), (47, .agg (tc eAnswer x8)), (50, vl eAnswer s3.2), (51, vi j9)], [(48, oa 29 3 eAnswer ([x8] : List Answer))]⟩) (by kernel_rfl)) Le.sub0) (by kernel_rfl) d21, (List.forall_mem_cons.2 ⟨DEs.mk (i := 10) (L' := #[false, true, true, true, false, true, false, false, true, true, true, false, false]) rfl (EStep.le (EStep.ofL (x_slice (m := 3) (f := eAnswer) (ti := ti43) (tj := ti29) (e := 29) hx20 (fun _ => rfl) tbok rfl) (by kernel_rfl)) Le.sub0) (by kernel_rfl) d22, (fun _ h => absurd h List.not_mem_nil)⟩)⟩)⟩)
  refine DE.share (fuel := 7) (L := #[true, true, true, false, false, false, false, false, true, true, true, false, false]) (σ := ⟨55, [(0, vl eCandidate aList), (1, vs aText), (2, vl eSite aSites), (3, vl eDescription aDescriptions), (9, vl eAnswer s3.2), (10, vi s3.1), (11, .ref 11 0), (42, .own 42), (43, vl eAnswer s3.2), (44, vi j9), (52, vl eAnswer x20)], [(11, .box (tc eAnswer x8)), (42, oa 29 3 eAnswer ([] : List Answer))]⟩) ?_ (fun d11 => ?_)
  exact DE.all [3, 5] (by kernel_rfl) (by simp) (List.forall_mem_cons.2 ⟨DEs.mk (i := 3) (L' := #[true, true, true, true, false, false, false, false, true, true, true, false, false]) rfl (EStep.le (EStep.ofL (x_slice (m := 3) (f := eAnswer) (ti := ti43) (tj := ti29) (e := 29) hx17 (fun _ => rfl) tbok rfl) (by kernel_rfl)) Le.sub0) (by kernel_rfl) d18, (List.forall_mem_cons.2 ⟨DEs.mk (i := 5) (L' := #[true, true, true, false, false, true, false, false, true, true, true, false, false]) rfl (EStep.le (EStep.ofN2 tbok (σ' := ⟨55, [(47, .agg (tc eAnswer x8)), (0, vl eCandidate aList), (1, vs aText), (2, vl eSite aSites), (3, vl eDescription aDescriptions), (9, vl eAnswer s3.2), (10, vi s3.1), (11, .ref 11 0), (42, .own 42), (43, vl eAnswer s3.2), (44, vi j9), (52, vl eAnswer x20)], [(11, .box (tc eAnswer x8)), (42, oa 29 3 eAnswer ([] : List Answer))]⟩) (by kernel_rfl)) Le.sub0) (by kernel_rfl) d20, (fun _ h => absurd h List.not_mem_nil)⟩)⟩)
  refine DE.share (fuel := 7) (L := #[true, true, true, false, false, true, false, false, true, true, false, false, false]) (σ := ⟨55, [(0, vl eCandidate aList), (1, vs aText), (2, vl eSite aSites), (3, vl eDescription aDescriptions), (9, vl eAnswer s3.2), (10, vi s3.1), (42, .own 42), (43, vl eAnswer s3.2), (44, vi j9), (47, .agg (tc eAnswer x8)), (50, vl eAnswer s3.2), (51, vi j9)], [(42, oa 29 3 eAnswer ([] : List Answer))]⟩) ?_ (fun d10 => ?_)
  exact DE.all [3, 6, 10] (by kernel_rfl) (by simp) (List.forall_mem_cons.2 ⟨DEs.mk (i := 3) (L' := #[true, true, true, true, false, true, false, false, true, true, false, false, false]) rfl (EStep.le (EStep.ofL (x_slice (m := 3) (f := eAnswer) (ti := ti43) (tj := ti29) (e := 29) hx17 (fun _ => rfl) tbok rfl) (by kernel_rfl)) Le.sub0) (by kernel_rfl) d17, (List.forall_mem_cons.2 ⟨DEs.mk (i := 6) (L' := #[true, true, true, false, false, true, true, false, true, true, false, false, false]) rfl (EStep.le (EStep.ofN2 tbok (σ' := ⟨55, [(48, .own 48), (0, vl eCandidate aList), (1, vs aText), (2, vl eSite aSites), (3, vl eDescription aDescriptions), (9, vl eAnswer s3.2), (10, vi s3.1), (42, .own 42), (43, vl eAnswer s3.2), (44, vi j9), (47, .agg (tc eAnswer x8)), (50, vl eAnswer s3.2), (51, vi j9)], [(48, oa 29 3 eAnswer ([x8] : List Answer)), (42, oa 29 3 eAnswer ([] : List Answer))]⟩) (by kernel_rfl)) Le.sub0) (by kernel_rfl) d19, (List.forall_mem_cons.2 ⟨DEs.mk (i := 10) (L' := #[true, true, true, false, false, true, false, false, true, true, true, false, false]) rfl (EStep.le (EStep.ofL (x_slice (m := 3) (f := eAnswer) (ti := ti43) (tj := ti29) (e := 29) hx20 (fun _ => rfl) tbok rfl) (by kernel_rfl)) Le.sub0) (by kernel_rfl) d20, (fun _ h => absurd h List.not_mem_nil)⟩)⟩)⟩)
  refine DE.share (fuel := 7) (L := #[true, true, true, true, false, false, false, false, true, true, false, false, false]) (σ := ⟨55, [(0, vl eCandidate aList), (1, vs aText), (2, vl eSite aSites), (3, vl eDescription aDescriptions), (9, vl eAnswer s3.2), (10, vi s3.1), (11, .ref 11 0), (42, .own 42), (45, vl eAnswer x17), (50, vl eAnswer s3.2), (51, vi j9)], [(11, .box (tc eAnswer x8)), (42, oa 29 3 eAnswer ([] : List Answer))]⟩) ?_ (fun d9 => ?_)
  exact DE.all [4, 5, 10] (by kernel_rfl) (by simp) (List.forall_mem_cons.2 ⟨DEs.mk (i := 4) (L' := #[true, true, true, true, true, false, false, false, true, true, false, false, false]) rfl (EStep.le (x_append (f := eAnswer) (t := 43) (ti := ti43) (tj := ti29) (zs := [.string (ByteArray.mk #[]), .int .i64 0, .int .i64 0]) (e := 29) (m := 3) (d := 42) (xv := vl eAnswer x17) hx18 tbok rfl rfl rfl rfl (src_e (fun _ => rfl))) Le.sub0) (by kernel_rfl) d16, (List.forall_mem_cons.2 ⟨DEs.mk (i := 5) (L' := #[true, true, true, true, false, true, false, false, true, true, false, false, false]) rfl (EStep.le (EStep.ofN2 tbok (σ' := ⟨55, [(47, .agg (tc eAnswer x8)), (0, vl eCandidate aList), (1, vs aText), (2, vl eSite aSites), (3, vl eDescription aDescriptions), (9, vl eAnswer s3.2), (10, vi s3.1), (11, .ref 11 0), (42, .own 42), (45, vl eAnswer x17), (50, vl eAnswer s3.2), (51, vi j9)], [(11, .box (tc eAnswer x8)), (42, oa 29 3 eAnswer ([] : List Answer))]⟩) (by kernel_rfl)) Le.sub0) (by kernel_rfl) d17, (List.forall_mem_cons.2 ⟨DEs.mk (i := 10) (L' := #[true, true, true, true, false, false, false, false, true, true, true, false, false]) rfl (EStep.le (EStep.ofL (x_slice (m := 3) (f := eAnswer) (ti := ti43) (tj := ti29) (e := 29) hx20 (fun _ => rfl) tbok rfl) (by kernel_rfl)) Le.sub0) (by kernel_rfl) d18, (fun _ h => absurd h List.not_mem_nil)⟩)⟩)⟩)
  refine DE.share (fuel := 8) (L := #[false, true, true, false, false, false, false, false, true, true, true, false, false]) (σ := ⟨55, [(0, vl eCandidate aList), (1, vs aText), (2, vl eSite aSites), (3, vl eDescription aDescriptions), (9, vl eAnswer s3.2), (10, vi s3.1), (11, .ref 11 0), (43, vl eAnswer s3.2), (44, vi j9), (52, vl eAnswer x20)], [(11, .box (tc eAnswer x8))]⟩) ?_ (fun d8 => ?_)
  exact DE.all [0, 3, 5] (by kernel_rfl) (by simp) (List.forall_mem_cons.2 ⟨DEs.mk (i := 0) (L' := #[true, true, true, false, false, false, false, false, true, true, true, false, false]) rfl (EStep.le (EStep.ofN2 tbok (σ' := ⟨55, [(42, .own 42), (0, vl eCandidate aList), (1, vs aText), (2, vl eSite aSites), (3, vl eDescription aDescriptions), (9, vl eAnswer s3.2), (10, vi s3.1), (11, .ref 11 0), (43, vl eAnswer s3.2), (44, vi j9), (52, vl eAnswer x20)], [(42, oa 29 3 eAnswer ([] : List Answer)), (11, .box (tc eAnswer x8))]⟩) (by kernel_rfl)) Le.sub0) (by kernel_rfl) d11, (List.forall_mem_cons.2 ⟨DEs.mk (i := 3) (L' := #[false, true, true, true, false, false, false, false, true, true, true, false, false]) rfl (EStep.le (EStep.ofL (x_slice (m := 3) (f := eAnswer) (ti := ti43) (tj := ti29) (e := 29) hx17 (fun _ => rfl) tbok rfl) (by kernel_rfl)) Le.sub0) (by kernel_rfl) d13, (List.forall_mem_cons.2 ⟨DEs.mk (i := 5) (L' := #[false, true, true, false, false, true, false, false, true, true, true, false, false]) rfl (EStep.le (EStep.ofN2 tbok (σ' := ⟨55, [(47, .agg (tc eAnswer x8)), (0, vl eCandidate aList), (1, vs aText), (2, vl eSite aSites), (3, vl eDescription aDescriptions), (9, vl eAnswer s3.2), (10, vi s3.1), (11, .ref 11 0), (43, vl eAnswer s3.2), (44, vi j9), (52, vl eAnswer x20)], [(11, .box (tc eAnswer x8))]⟩) (by kernel_rfl)) Le.sub0) (by kernel_rfl) d15, (fun _ h => absurd h List.not_mem_nil)⟩)⟩)⟩)
  refine DE.share (fuel := 8) (L := #[false, true, true, false, false, true, false, false, true, true, false, false, false]) (σ := ⟨55, [(0, vl eCandidate aList), (1, vs aText), (2, vl eSite aSites), (3, vl eDescription aDescriptions), (9, vl eAnswer s3.2), (10, vi s3.1), (43, vl eAnswer s3.2), (44, vi j9), (47, .agg (tc eAnswer x8)), (50, vl eAnswer s3.2), (51, vi j9)], []⟩) ?_ (fun d7 => ?_)
  exact DE.all [0, 3, 6, 10] (by kernel_rfl) (by simp) (List.forall_mem_cons.2 ⟨DEs.mk (i := 0) (L' := #[true, true, true, false, false, true, false, false, true, true, false, false, false]) rfl (EStep.le (EStep.ofN2 tbok (σ' := ⟨55, [(42, .own 42), (0, vl eCandidate aList), (1, vs aText), (2, vl eSite aSites), (3, vl eDescription aDescriptions), (9, vl eAnswer s3.2), (10, vi s3.1), (43, vl eAnswer s3.2), (44, vi j9), (47, .agg (tc eAnswer x8)), (50, vl eAnswer s3.2), (51, vi j9)], [(42, oa 29 3 eAnswer ([] : List Answer))]⟩) (by kernel_rfl)) Le.sub0) (by kernel_rfl) d10, (List.forall_mem_cons.2 ⟨DEs.mk (i := 3) (L' := #[false, true, true, true, false, true, false, false, true, true, false, false, false]) rfl (EStep.le (EStep.ofL (x_slice (m := 3) (f := eAnswer) (ti := ti43) (tj := ti29) (e := 29) hx17 (fun _ => rfl) tbok rfl) (by kernel_rfl)) Le.sub0) (by kernel_rfl) d12, (List.forall_mem_cons.2 ⟨DEs.mk (i := 6) (L' := #[false, true, true, false, false, true, true, false, true, true, false, false, false]) rfl (EStep.le (EStep.ofN2 tbok (σ' := ⟨55, [(48, .own 48), (0, vl eCandidate aList), (1, vs aText), (2, vl eSite aSites), (3, vl eDescription aDescriptions), (9, vl eAnswer s3.2), (10, vi s3.1), (43, vl eAnswer s3.2), (44, vi j9), (47, .agg (tc eAnswer x8)), (50, vl eAnswer s3.2), (51, vi j9)], [(48, oa 29 3 eAnswer ([x8] : List Answer))]⟩) (by kernel_rfl)) Le.sub0) (by kernel_rfl) d14, (List.forall_mem_cons.2 ⟨DEs.mk (i := 10) (L' := #[false, true, true, false, false, true, false, false, true, true, true, false, false]) rfl (EStep.le (EStep.ofL (x_slice (m := 3) (f := eAnswer) (ti := ti43) (tj := ti29) (e := 29) hx20 (fun _ => rfl) tbok rfl) (by kernel_rfl)) Le.sub0) (by kernel_rfl) d15, (fun _ h => absurd h List.not_mem_nil)⟩)⟩)⟩)⟩)
  refine DE.share (fuel := 8) (L := #[false, true, true, true, false, false, false, false, true, true, false, false, false]) (σ := ⟨55, [(0, vl eCandidate aList), (1, vs aText), (2, vl eSite aSites), (3, vl eDescription aDescriptions), (9, vl eAnswer s3.2), (10, vi s3.1), (11, .ref 11 0), (45, vl eAnswer x17), (50, vl eAnswer s3.2), (51, vi j9)], [(11, .box (tc eAnswer x8))]⟩) ?_ (fun d6 => ?_)
  exact DE.all [0, 5, 10] (by kernel_rfl) (by simp) (List.forall_mem_cons.2 ⟨DEs.mk (i := 0) (L' := #[true, true, true, true, false, false, false, false, true, true, false, false, false]) rfl (EStep.le (EStep.ofN2 tbok (σ' := ⟨55, [(42, .own 42), (0, vl eCandidate aList), (1, vs aText), (2, vl eSite aSites), (3, vl eDescription aDescriptions), (9, vl eAnswer s3.2), (10, vi s3.1), (11, .ref 11 0), (45, vl eAnswer x17), (50, vl eAnswer s3.2), (51, vi j9)], [(42, oa 29 3 eAnswer ([] : List Answer)), (11, .box (tc eAnswer x8))]⟩) (by kernel_rfl)) Le.sub0) (by kernel_rfl) d9, (List.forall_mem_cons.2 ⟨DEs.mk (i := 5) (L' := #[false, true, true, true, false, true, false, false, true, true, false, false, false]) rfl (EStep.le (EStep.ofN2 tbok (σ' := ⟨55, [(47, .agg (tc eAnswer x8)), (0, vl eCandidate aList), (1, vs aText), (2, vl eSite aSites), (3, vl eDescription aDescriptions), (9, vl eAnswer s3.2), (10, vi s3.1), (11, .ref 11 0), (45, vl eAnswer x17), (50, vl eAnswer s3.2), (51, vi j9)], [(11, .box (tc eAnswer x8))]⟩) (by kernel_rfl)) Le.sub0) (by kernel_rfl) d12, (List.forall_mem_cons.2 ⟨DEs.mk (i := 10) (L' := #[false, true, true, true, false, false, false, false, true, true, true, false, false]) rfl (EStep.le (EStep.ofL (x_slice (m := 3) (f := eAnswer) (ti := ti43) (tj := ti29) (e := 29) hx20 (fun _ => rfl) tbok rfl) (by kernel_rfl)) Le.sub0) (by kernel_rfl) d13, (fun _ h => absurd h List.not_mem_nil)⟩)⟩)⟩)
  refine DE.share (fuel := 8) (L := #[true, true, true, false, false, false, false, false, true, true, false, false, false]) (σ := ⟨55, [(0, vl eCandidate aList), (1, vs aText), (2, vl eSite aSites), (3, vl eDescription aDescriptions), (9, vl eAnswer s3.2), (10, vi s3.1), (11, .ref 11 0), (42, .own 42), (43, vl eAnswer s3.2), (44, vi j9), (50, vl eAnswer s3.2), (51, vi j9)], [(11, .box (tc eAnswer x8)), (42, oa 29 3 eAnswer ([] : List Answer))]⟩) ?_ (fun d5 => ?_)
  exact DE.all [3, 5, 10] (by kernel_rfl) (by simp) (List.forall_mem_cons.2 ⟨DEs.mk (i := 3) (L' := #[true, true, true, true, false, false, false, false, true, true, false, false, false]) rfl (EStep.le (EStep.ofL (x_slice (m := 3) (f := eAnswer) (ti := ti43) (tj := ti29) (e := 29) hx17 (fun _ => rfl) tbok rfl) (by kernel_rfl)) Le.sub0) (by kernel_rfl) d9, (List.forall_mem_cons.2 ⟨DEs.mk (i := 5) (L' := #[true, true, true, false, false, true, false, false, true, true, false, false, false]) rfl (EStep.le (EStep.ofN2 tbok (σ' := ⟨55, [(47, .agg (tc eAnswer x8)), (0, vl eCandidate aList), (1, vs aText), (2, vl eSite aSites), (3, vl eDescription aDescriptions), (9, vl eAnswer s3.2), (10, vi s3.1), (11, .ref 11 0), (42, .own 42), (43, vl eAnswer s3.2), (44, vi j9), (50, vl eAnswer s3.2), (51, vi j9)], [(11, .box (tc eAnswer x8)), (42, oa 29 3 eAnswer ([] : List Answer))]⟩) (by kernel_rfl)) Le.sub0) (by kernel_rfl) d10, (List.forall_mem_cons.2 ⟨DEs.mk (i := 10) (L' := #[true, true, true, false, false, false, false, false, true, true, true, false, false]) rfl (EStep.le (EStep.ofL (x_slice (m := 3) (f := eAnswer) (ti := ti43) (tj := ti29) (e := 29) hx20 (fun _ => rfl) tbok rfl) (by kernel_rfl)) Le.sub0) (by kernel_rfl) d11, (fun _ h => absurd h List.not_mem_nil)⟩)⟩)⟩)
  refine DE.share (fuel := 9) (L := #[false, true, true, false, false, false, false, false, true, true, false, false, false]) (σ := ⟨55, [(0, vl eCandidate aList), (1, vs aText), (2, vl eSite aSites), (3, vl eDescription aDescriptions), (9, vl eAnswer s3.2), (10, vi s3.1), (11, .ref 11 0), (43, vl eAnswer s3.2), (44, vi j9), (50, vl eAnswer s3.2), (51, vi j9)], [(11, .box (tc eAnswer x8))]⟩) ?_ (fun d4 => ?_)
  exact DE.all [0, 3, 5, 10] (by kernel_rfl) (by simp) (List.forall_mem_cons.2 ⟨DEs.mk (i := 0) (L' := #[true, true, true, false, false, false, false, false, true, true, false, false, false]) rfl (EStep.le (EStep.ofN2 tbok (σ' := ⟨55, [(42, .own 42), (0, vl eCandidate aList), (1, vs aText), (2, vl eSite aSites), (3, vl eDescription aDescriptions), (9, vl eAnswer s3.2), (10, vi s3.1), (11, .ref 11 0), (43, vl eAnswer s3.2), (44, vi j9), (50, vl eAnswer s3.2), (51, vi j9)], [(42, oa 29 3 eAnswer ([] : List Answer)), (11, .box (tc eAnswer x8))]⟩) (by kernel_rfl)) Le.sub0) (by kernel_rfl) d5, (List.forall_mem_cons.2 ⟨DEs.mk (i := 3) (L' := #[false, true, true, true, false, false, false, false, true, true, false, false, false]) rfl (EStep.le (EStep.ofL (x_slice (m := 3) (f := eAnswer) (ti := ti43) (tj := ti29) (e := 29) hx17 (fun _ => rfl) tbok rfl) (by kernel_rfl)) Le.sub0) (by kernel_rfl) d6, (List.forall_mem_cons.2 ⟨DEs.mk (i := 5) (L' := #[false, true, true, false, false, true, false, false, true, true, false, false, false]) rfl (EStep.le (EStep.ofN2 tbok (σ' := ⟨55, [(47, .agg (tc eAnswer x8)), (0, vl eCandidate aList), (1, vs aText), (2, vl eSite aSites), (3, vl eDescription aDescriptions), (9, vl eAnswer s3.2), (10, vi s3.1), (11, .ref 11 0), (43, vl eAnswer s3.2), (44, vi j9), (50, vl eAnswer s3.2), (51, vi j9)], [(11, .box (tc eAnswer x8))]⟩) (by kernel_rfl)) Le.sub0) (by kernel_rfl) d7, (List.forall_mem_cons.2 ⟨DEs.mk (i := 10) (L' := #[false, true, true, false, false, false, false, false, true, true, true, false, false]) rfl (EStep.le (EStep.ofL (x_slice (m := 3) (f := eAnswer) (ti := ti43) (tj := ti29) (e := 29) hx20 (fun _ => rfl) tbok rfl) (by kernel_rfl)) Le.sub0) (by kernel_rfl) d8, (fun _ h => absurd h List.not_mem_nil)⟩)⟩)⟩)⟩)
  refine DE.share (fuel := 10) (L := #[false, true, true, false, false, false, false, false, true, false, false, false, false]) (σ := ⟨55, [(0, vl eCandidate aList), (1, vs aText), (2, vl eSite aSites), (3, vl eDescription aDescriptions), (9, vl eAnswer s3.2), (10, vi s3.1), (11, .ref 11 0), (12, vi j9), (43, vl eAnswer s3.2), (44, vi j9), (50, vl eAnswer s3.2)], [(11, .box (tc eAnswer x8))]⟩) ?_ (fun d3 => ?_)
  exact DE.take (i := 9) (L' := #[false, true, true, false, false, false, false, false, true, true, false, false, false]) rfl (.inl rfl) rfl (by kernel_rfl) (by kernel_rfl) (by kernel_rfl) (EStep.le (EStep.ofN2 tbok (σ' := ⟨55, [(51, vi j9), (0, vl eCandidate aList), (1, vs aText), (2, vl eSite aSites), (3, vl eDescription aDescriptions), (9, vl eAnswer s3.2), (10, vi s3.1), (11, .ref 11 0), (12, vi j9), (43, vl eAnswer s3.2), (44, vi j9), (50, vl eAnswer s3.2)], [(11, .box (tc eAnswer x8))]⟩) (by kernel_rfl)) Le.sub0) (by kernel_rfl) d4
  refine DE.share (fuel := 11) (L := #[false, true, true, false, false, false, false, false, false, false, false, false, false]) (σ := ⟨55, [(0, vl eCandidate aList), (1, vs aText), (2, vl eSite aSites), (3, vl eDescription aDescriptions), (9, vl eAnswer s3.2), (10, vi s3.1), (11, .ref 11 0), (12, vi j9), (43, vl eAnswer s3.2), (44, vi j9)], [(11, .box (tc eAnswer x8))]⟩) ?_ (fun d2 => ?_)
  exact DE.take (i := 8) (L' := #[false, true, true, false, false, false, false, false, true, false, false, false, false]) rfl (.inl rfl) rfl (by kernel_rfl) (by kernel_rfl) (by kernel_rfl) (EStep.le (EStep.ofN2 tbok (σ' := ⟨55, [(50, vl eAnswer s3.2), (0, vl eCandidate aList), (1, vs aText), (2, vl eSite aSites), (3, vl eDescription aDescriptions), (9, vl eAnswer s3.2), (10, vi s3.1), (11, .ref 11 0), (12, vi j9), (43, vl eAnswer s3.2), (44, vi j9)], [(11, .box (tc eAnswer x8))]⟩) (by kernel_rfl)) Le.sub0) (by kernel_rfl) d3
  refine DE.share (fuel := 12) (L := #[false, true, false, false, false, false, false, false, false, false, false, false, false]) (σ := ⟨55, [(0, vl eCandidate aList), (1, vs aText), (2, vl eSite aSites), (3, vl eDescription aDescriptions), (9, vl eAnswer s3.2), (10, vi s3.1), (11, .ref 11 0), (12, vi j9), (43, vl eAnswer s3.2)], [(11, .box (tc eAnswer x8))]⟩) ?_ (fun d1 => ?_)
  exact DE.take (i := 2) (L' := #[false, true, true, false, false, false, false, false, false, false, false, false, false]) rfl (.inl rfl) rfl (by kernel_rfl) (by kernel_rfl) (by kernel_rfl) (EStep.le (EStep.ofN2 tbok (σ' := ⟨55, [(44, vi j9), (0, vl eCandidate aList), (1, vs aText), (2, vl eSite aSites), (3, vl eDescription aDescriptions), (9, vl eAnswer s3.2), (10, vi s3.1), (11, .ref 11 0), (12, vi j9), (43, vl eAnswer s3.2)], [(11, .box (tc eAnswer x8))]⟩) (by kernel_rfl)) Le.sub0) (by kernel_rfl) d2
  exact DE.take (i := 1) (L' := #[false, true, false, false, false, false, false, false, false, false, false, false, false]) rfl (.inl rfl) rfl (by kernel_rfl) (by kernel_rfl) (by kernel_rfl) (EStep.le (EStep.ofN2 tbok (σ' := ⟨55, [(43, vl eAnswer s3.2), (0, vl eCandidate aList), (1, vs aText), (2, vl eSite aSites), (3, vl eDescription aDescriptions), (9, vl eAnswer s3.2), (10, vi s3.1), (11, .ref 11 0), (12, vi j9)], [(11, .box (tc eAnswer x8))]⟩) (by kernel_rfl)) Le.sub0) (by kernel_rfl) d1
  obtain rfl := inj h
  exact q_bn (q_j ((Le.sub' ([(0, vl eCandidate aList), (1, vs aText), (2, vl eSite aSites), (3, vl eDescription aDescriptions), (9, .own 53), (10, vi s3.1)] : List (Nat × SV)) ([(53, oa 29 3 eAnswer x21)] : List (Nat × SO)) (by kernel_rfl) (by kernel_rfl)).trans ((Le.ren' (d := 53) (e := 9) (by kernel_rfl) (by kernel_rfl) (by kernel_rfl)).trans (Le.sub0))))
  refine swp_reg ?_
  refine SRun.ck tbok 3 ⟨55, [(0, vl eCandidate aList), (1, vs aText), (2, vl eSite aSites), (3, vl eDescription aDescriptions), (9, .own 9), (10, vi (w64 (s3.1 + 1)))], [(9, oa 29 3 eAnswer j5)]⟩ ?_
  refine SRun.nil ?_
  obtain rfl := inj h
  exact q_l (Le.sub0)
  refine swp_exit ?_
  obtain rfl := inj h
  exact nx_e (q_re (q_bh (q_j (Le.sub0))))
  refine srk tbok ⟨55, [(8, .own 9)], [(9, oa 29 3 eAnswer j1)]⟩ ?_
  refine swp_ret ?_
  obtain rfl := inj h
  exact q_fr (f1 (fo eAnswer_flat))
theorem ents50 : Ents Tryz.prog 50 := ents_of Tryz.func50 (by kernel_rfl) rfl
noncomputable def bits_Len32 (aX : Int) : Option (Int) :=
  (((bif (decide (aX ≥ 65536)) then some ((Int.fdiv aX (2 ^ 16)), 16) else some (aX, 0))).bind fun (j1 : Int × Int) => (((bif (decide (j1.1 ≥ 256)) then some ((Int.fdiv j1.1 (2 ^ 8)), (w64 (j1.2 + 8))) else some (j1.1, j1.2))).bind fun (j3 : Int × Int) => ((byte' (ByteArray.mk #[0, 1, 2, 2, 3, 3, 3, 3, 4, 4, 4, 4, 4, 4, 4, 4, 5, 5, 5, 5, 5, 5, 5, 5, 5, 5, 5, 5, 5, 5, 5, 5, 6, 6, 6, 6, 6, 6, 6, 6, 6, 6, 6, 6, 6, 6, 6, 6, 6, 6, 6, 6, 6, 6, 6, 6, 6, 6, 6, 6, 6, 6, 6, 6, 7, 7, 7, 7, 7, 7, 7, 7, 7, 7, 7, 7, 7, 7, 7, 7, 7, 7, 7, 7, 7, 7, 7, 7, 7, 7, 7, 7, 7, 7, 7, 7, 7, 7, 7, 7, 7, 7, 7, 7, 7, 7, 7, 7, 7, 7, 7, 7, 7, 7, 7, 7, 7, 7, 7, 7, 7, 7, 7, 7, 7, 7, 7, 7, 8, 8, 8, 8, 8, 8, 8, 8, 8, 8, 8, 8, 8, 8, 8, 8, 8, 8, 8, 8, 8, 8, 8, 8, 8, 8, 8, 8, 8, 8, 8, 8, 8, 8, 8, 8, 8, 8, 8, 8, 8, 8, 8, 8, 8, 8, 8, 8, 8, 8, 8, 8, 8, 8, 8, 8, 8, 8, 8, 8, 8, 8, 8, 8, 8, 8, 8, 8, 8, 8, 8, 8, 8, 8, 8, 8, 8, 8, 8, 8, 8, 8, 8, 8, 8, 8, 8, 8, 8, 8, 8, 8, 8, 8, 8, 8, 8, 8, 8, 8, 8, 8, 8, 8, 8, 8, 8, 8, 8, 8, 8, 8, 8, 8, 8, 8, 8, 8, 8, 8, 8, 8, 8, 8, 8, 8, 8, 8]) (IntKind.wrap .u8 j3.1)).bind fun x5 => some (w64 (j3.2 + (w64 x5))))))
theorem bits_Len32_run (aX : Int) (r : Int) (h : bits_Len32 aX = some r) : SCall Tryz.prog 128 [.v (.tr (.int .u32 aX))] ⟨[.v (vi r)], [], false⟩ := by
  refine scall_in Tryz.func128 rfl [(.tmp 2)] rfl (fun r => ⟨[.v (vi r)], [], false⟩) (r := r) ?_
  unfold bits_Len32 at h
  refine srk tbok ⟨19, [(0, .tr (.int .u32 aX)), (2, vi 0)], []⟩ ?_
  refine swp_seq ?_
  refine srk tbok ⟨19, [(0, .tr (.int .u32 aX)), (2, vi 0), (4, vb (decide (aX ≥ 65536)))], []⟩ ?_
  refine swp_seqJ h (fun j1 => ⟨19, [(0, .tr (.int .u32 j1.1)), (2, vi j1.2)], []⟩) (fun v2 h => ?_) (fun j1 h => ?_)
  refine swp_cd h (fun h => ?_) fun h => ?_
  refine srk tbok ⟨19, [(0, .tr (.int .u32 (Int.fdiv aX (2 ^ 16))))], []⟩ ?_
  refine swp_reg ?_
  refine SRun.ck tbok 1 ⟨19, [(0, .tr (.int .u32 (Int.fdiv aX (2 ^ 16)))), (2, vi 16)], []⟩ ?_
  refine SRun.nil ?_
  obtain rfl := inj h
  exact q_j (Le.sub0)
  refine swp_skip ?_
  obtain rfl := inj h
  exact q_j (Le.sub0)
  refine swp_seq ?_
  refine srk tbok ⟨19, [(0, .tr (.int .u32 j1.1)), (2, vi j1.2), (8, vb (decide (j1.1 ≥ 256)))], []⟩ ?_
  refine swp_seqJ h (fun j3 => ⟨19, [(0, .tr (.int .u32 j3.1)), (2, vi j3.2)], []⟩) (fun v4 h => ?_) (fun j3 h => ?_)
  refine swp_cd h (fun h => ?_) fun h => ?_
  refine srk tbok ⟨19, [(0, .tr (.int .u32 (Int.fdiv j1.1 (2 ^ 8)))), (2, vi j1.2)], []⟩ ?_
  refine swp_reg ?_
  refine SRun.ck tbok 3 ⟨19, [(0, .tr (.int .u32 (Int.fdiv j1.1 (2 ^ 8)))), (2, vi (w64 (j1.2 + 8)))], []⟩ ?_
  refine SRun.nil ?_
  obtain rfl := inj h
  exact q_j (Le.sub0)
  refine swp_skip ?_
  obtain rfl := inj h
  exact q_j (Le.sub0)
  refine sr ?_
  refine SRun.ck tbok 3 ⟨19, [(13, vi j3.2), (15, .tr (.int .u8 (IntKind.wrap .u8 j3.1)))], []⟩ ?_
  obtain ⟨x5, hx5, h⟩ := bind_some h
  refine SRun.ls (x_byte (ti := ti9) (k := .u8) hx5 tbok rfl) ?_
  refine ckn tbok 3 ⟨19, [(2, vi (w64 (j3.2 + (w64 x5))))], []⟩ ?_
  refine swp_ret ?_
  obtain rfl := inj h
  exact q_fr (f1 fv)
theorem ents128 : Ents Tryz.prog 128 := ents_of Tryz.func128 (by kernel_rfl) rfl
noncomputable def bits_Len64 (aX : Int) : Option (Int) :=
  (((bif (decide (aX ≥ 4294967296)) then some ((Int.fdiv aX (2 ^ 32)), 32) else some (aX, 0))).bind fun (j1 : Int × Int) => (((bif (decide (j1.1 ≥ 65536)) then some ((Int.fdiv j1.1 (2 ^ 16)), (w64 (j1.2 + 16))) else some (j1.1, j1.2))).bind fun (j3 : Int × Int) => (((bif (decide (j3.1 ≥ 256)) then some ((Int.fdiv j3.1 (2 ^ 8)), (w64 (j3.2 + 8))) else some (j3.1, j3.2))).bind fun (j5 : Int × Int) => ((byte' (ByteArray.mk #[0, 1, 2, 2, 3, 3, 3, 3, 4, 4, 4, 4, 4, 4, 4, 4, 5, 5, 5, 5, 5, 5, 5, 5, 5, 5, 5, 5, 5, 5, 5, 5, 6, 6, 6, 6, 6, 6, 6, 6, 6, 6, 6, 6, 6, 6, 6, 6, 6, 6, 6, 6, 6, 6, 6, 6, 6, 6, 6, 6, 6, 6, 6, 6, 7, 7, 7, 7, 7, 7, 7, 7, 7, 7, 7, 7, 7, 7, 7, 7, 7, 7, 7, 7, 7, 7, 7, 7, 7, 7, 7, 7, 7, 7, 7, 7, 7, 7, 7, 7, 7, 7, 7, 7, 7, 7, 7, 7, 7, 7, 7, 7, 7, 7, 7, 7, 7, 7, 7, 7, 7, 7, 7, 7, 7, 7, 7, 7, 8, 8, 8, 8, 8, 8, 8, 8, 8, 8, 8, 8, 8, 8, 8, 8, 8, 8, 8, 8, 8, 8, 8, 8, 8, 8, 8, 8, 8, 8, 8, 8, 8, 8, 8, 8, 8, 8, 8, 8, 8, 8, 8, 8, 8, 8, 8, 8, 8, 8, 8, 8, 8, 8, 8, 8, 8, 8, 8, 8, 8, 8, 8, 8, 8, 8, 8, 8, 8, 8, 8, 8, 8, 8, 8, 8, 8, 8, 8, 8, 8, 8, 8, 8, 8, 8, 8, 8, 8, 8, 8, 8, 8, 8, 8, 8, 8, 8, 8, 8, 8, 8, 8, 8, 8, 8, 8, 8, 8, 8, 8, 8, 8, 8, 8, 8, 8, 8, 8, 8, 8, 8, 8, 8, 8, 8, 8, 8]) (IntKind.wrap .u8 j5.1)).bind fun x7 => some (w64 (j5.2 + (w64 x7)))))))
theorem bits_Len64_run (aX : Int) (r : Int) (h : bits_Len64 aX = some r) : SCall Tryz.prog 129 [.v (.tr (.int .u64 aX))] ⟨[.v (vi r)], [], false⟩ := by
  refine scall_in Tryz.func129 rfl [(.tmp 2)] rfl (fun r => ⟨[.v (vi r)], [], false⟩) (r := r) ?_
  unfold bits_Len64 at h
  refine srk tbok ⟨25, [(0, .tr (.int .u64 aX)), (2, vi 0)], []⟩ ?_
  refine swp_seq ?_
  refine srk tbok ⟨25, [(0, .tr (.int .u64 aX)), (2, vi 0), (4, vb (decide (aX ≥ 4294967296)))], []⟩ ?_
  refine swp_seqJ h (fun j1 => ⟨25, [(0, .tr (.int .u64 j1.1)), (2, vi j1.2)], []⟩) (fun v2 h => ?_) (fun j1 h => ?_)
  refine swp_cd h (fun h => ?_) fun h => ?_
  refine srk tbok ⟨25, [(0, .tr (.int .u64 (Int.fdiv aX (2 ^ 32))))], []⟩ ?_
  refine swp_reg ?_
  refine SRun.ck tbok 1 ⟨25, [(0, .tr (.int .u64 (Int.fdiv aX (2 ^ 32)))), (2, vi 32)], []⟩ ?_
  refine SRun.nil ?_
  obtain rfl := inj h
  exact q_j (Le.sub0)
  refine swp_skip ?_
  obtain rfl := inj h
  exact q_j (Le.sub0)
  refine swp_seq ?_
  refine srk tbok ⟨25, [(0, .tr (.int .u64 j1.1)), (2, vi j1.2), (8, vb (decide (j1.1 ≥ 65536)))], []⟩ ?_
  refine swp_seqJ h (fun j3 => ⟨25, [(0, .tr (.int .u64 j3.1)), (2, vi j3.2)], []⟩) (fun v4 h => ?_) (fun j3 h => ?_)
  refine swp_cd h (fun h => ?_) fun h => ?_
  refine srk tbok ⟨25, [(0, .tr (.int .u64 (Int.fdiv j1.1 (2 ^ 16)))), (2, vi j1.2)], []⟩ ?_
  refine swp_reg ?_
  refine SRun.ck tbok 3 ⟨25, [(0, .tr (.int .u64 (Int.fdiv j1.1 (2 ^ 16)))), (2, vi (w64 (j1.2 + 16)))], []⟩ ?_
  refine SRun.nil ?_
  obtain rfl := inj h
  exact q_j (Le.sub0)
  refine swp_skip ?_
  obtain rfl := inj h
  exact q_j (Le.sub0)
  refine swp_seq ?_
  refine srk tbok ⟨25, [(0, .tr (.int .u64 j3.1)), (2, vi j3.2), (14, vb (decide (j3.1 ≥ 256)))], []⟩ ?_
  refine swp_seqJ h (fun j5 => ⟨25, [(0, .tr (.int .u64 j5.1)), (2, vi j5.2)], []⟩) (fun v6 h => ?_) (fun j5 h => ?_)
  refine swp_cd h (fun h => ?_) fun h => ?_
  refine srk tbok ⟨25, [(0, .tr (.int .u64 (Int.fdiv j3.1 (2 ^ 8)))), (2, vi j3.2)], []⟩ ?_
  refine swp_reg ?_
  refine SRun.ck tbok 3 ⟨25, [(0, .tr (.int .u64 (Int.fdiv j3.1 (2 ^ 8)))), (2, vi (w64 (j3.2 + 8)))], []⟩ ?_
  refine SRun.nil ?_
  obtain rfl := inj h
  exact q_j (Le.sub0)
  refine swp_skip ?_
  obtain rfl := inj h
  exact q_j (Le.sub0)
  refine sr ?_
  refine SRun.ck tbok 3 ⟨25, [(19, vi j5.2), (21, .tr (.int .u8 (IntKind.wrap .u8 j5.1)))], []⟩ ?_
  obtain ⟨x7, hx7, h⟩ := bind_some h
  refine SRun.ls (x_byte (ti := ti9) (k := .u8) hx7 tbok rfl) ?_
  refine ckn tbok 3 ⟨25, [(2, vi (w64 (j5.2 + (w64 x7))))], []⟩ ?_
  refine swp_ret ?_
  obtain rfl := inj h
  exact q_fr (f1 fv)
theorem ents129 : Ents Tryz.prog 129 := ents_of Tryz.func129 (by kernel_rfl) rfl
noncomputable def bits_Len (aX : Int) : Option (Int) :=
  (bif false then ((bits_Len32 (IntKind.wrap .u32 aX)).bind fun x1 => some x1) else ((bits_Len64 aX).bind fun x2 => some x2))
theorem bits_Len_run (aX : Int) (r : Int) (h : bits_Len aX = some r) : SCall Tryz.prog 98 [.v (.tr (.int .u64 aX))] ⟨[.v (vi r)], [], false⟩ := by
  refine scall_in Tryz.func98 rfl [(.tmp 2)] rfl (fun r => ⟨[.v (vi r)], [], false⟩) (r := r) ?_
  unfold bits_Len at h
  refine srk tbok ⟨8, [(0, .tr (.int .u64 aX))], []⟩ ?_
  refine swp_seq ?_
  refine swp_cd h (fun h => ?_) fun h => ?_
  refine sr ?_
  refine SRun.ck tbok 2 ⟨8, [(4, .tr (.int .u32 (IntKind.wrap .u32 aX)))], []⟩ ?_
  obtain ⟨x1, hx1, h⟩ := bind_some h
  refine SRun.ls (xc ents128 (bits_Len32_run (IntKind.wrap .u32 aX) _ hx1)) ?_
  refine ckn tbok 1 ⟨8, [(2, vi x1)], []⟩ ?_
  refine swp_ret ?_
  obtain rfl := inj h
  exact nx_r (q_fr (f1 fv))
  refine swp_skip ?_
  refine nx_n ?_
  refine sr ?_
  refine SRun.ck tbok 1 ⟨8, [(6, .tr (.int .u64 aX))], []⟩ ?_
  obtain ⟨x2, hx2, h⟩ := bind_some h
  refine SRun.ls (xc ents129 (bits_Len64_run aX _ hx2)) ?_
  refine ckn tbok 1 ⟨8, [(2, vi x2)], []⟩ ?_
  refine swp_ret ?_
  obtain rfl := inj h
  exact q_fr (f1 fv)
theorem ents98 : Ents Tryz.prog 98 := ents_of Tryz.func98 (by kernel_rfl) rfl
noncomputable def cmp_isNaN_int64 (aX : Int) : Option (Bool) :=
  some (aX != aX)
theorem cmp_isNaN_int64_run (aX : Int) (r : Bool) (h : cmp_isNaN_int64 aX = some r) : SCall Tryz.prog 99 [.v (vi aX)] ⟨[.v (vb r)], [], false⟩ := by
  refine scall_in Tryz.func99 rfl [(.tmp 2)] rfl (fun r => ⟨[.v (vb r)], [], false⟩) (r := r) ?_
  unfold cmp_isNaN_int64 at h
  refine srk tbok ⟨6, [(0, vi aX)], []⟩ ?_
  refine srk tbok ⟨6, [(2, vb (aX != aX))], []⟩ ?_
  refine swp_ret ?_
  obtain rfl := inj h
  exact q_fr (f1 fv)
theorem ents99 : Ents Tryz.prog 99 := ents_of Tryz.func99 (by kernel_rfl) rfl
noncomputable def cmp_Compare_int64 (aX : Int) (aY : Int) : Option (Int) :=
  ((cmp_isNaN_int64 aX).bind fun x1 => ((cmp_isNaN_int64 aY).bind fun x2 => (bif x1 then (bif x2 then some 0 else some (-1)) else (bif x2 then some 1 else (bif (decide (aX < aY)) then some (-1) else (bif (decide (aX > aY)) then some 1 else some 0))))))
theorem cmp_Compare_int64_run (aX : Int) (aY : Int) (r : Int) (h : cmp_Compare_int64 aX aY = some r) : SCall Tryz.prog 74 [.v (vi aX), .v (vi aY)] ⟨[.v (vi r)], [], false⟩ := by
  refine scall_in Tryz.func74 rfl [(.tmp 4)] rfl (fun r => ⟨[.v (vi r)], [], false⟩) (r := r) ?_
  unfold cmp_Compare_int64 at h
  refine srk tbok ⟨20, [(0, vi aX), (1, vi aY)], []⟩ ?_
  refine sr ?_
  refine SRun.ck tbok 1 ⟨20, [(0, vi aX), (1, vi aY), (7, vi aX)], []⟩ ?_
  obtain ⟨x1, hx1, h⟩ := bind_some h
  refine SRun.ls (xc ents99 (cmp_isNaN_int64_run aX _ hx1)) ?_
  refine ckn tbok 1 ⟨20, [(0, vi aX), (1, vi aY), (5, vb x1)], []⟩ ?_
  refine sr ?_
  refine SRun.ck tbok 1 ⟨20, [(0, vi aX), (1, vi aY), (5, vb x1), (9, vi aY)], []⟩ ?_
  obtain ⟨x2, hx2, h⟩ := bind_some h
  refine SRun.ls (xc ents99 (cmp_isNaN_int64_run aY _ hx2)) ?_
  refine ckn tbok 1 ⟨20, [(0, vi aX), (1, vi aY), (5, vb x1), (6, vb x2)], []⟩ ?_
  refine swp_seq ?_
  refine srk tbok ⟨20, [(0, vi aX), (1, vi aY), (6, vb x2), (11, vb x1)], []⟩ ?_
  refine swp_cd h (fun h => ?_) fun h => ?_
  refine swp_seq ?_
  refine srk tbok ⟨20, [(12, vb x2)], []⟩ ?_
  refine swp_cd h (fun h => ?_) fun h => ?_
  refine srk tbok ⟨20, [(4, vi 0)], []⟩ ?_
  refine swp_ret ?_
  obtain rfl := inj h
  exact nx_r (nx_r (q_fr (f1 fv)))
  refine swp_skip ?_
  refine nx_n ?_
  refine srk tbok ⟨20, [(4, vi (-1))], []⟩ ?_
  refine swp_ret ?_
  obtain rfl := inj h
  exact nx_r (q_fr (f1 fv))
  refine swp_skip ?_
  refine nx_n ?_
  refine swp_seq ?_
  refine srk tbok ⟨20, [(0, vi aX), (1, vi aY), (13, vb x2)], []⟩ ?_
  refine swp_cd h (fun h => ?_) fun h => ?_
  refine srk tbok ⟨20, [(4, vi 1)], []⟩ ?_
  refine swp_ret ?_
  obtain rfl := inj h
  exact nx_r (q_fr (f1 fv))
  refine swp_skip ?_
  refine nx_n ?_
  refine swp_seq ?_
  refine srk tbok ⟨20, [(0, vi aX), (1, vi aY), (16, vb (decide (aX < aY)))], []⟩ ?_
  refine swp_cd h (fun h => ?_) fun h => ?_
  refine srk tbok ⟨20, [(4, vi (-1))], []⟩ ?_
  refine swp_ret ?_
  obtain rfl := inj h
  exact nx_r (q_fr (f1 fv))
  refine swp_skip ?_
  refine nx_n ?_
  refine swp_seq ?_
  refine srk tbok ⟨20, [(19, vb (decide (aX > aY)))], []⟩ ?_
  refine swp_cd h (fun h => ?_) fun h => ?_
  refine srk tbok ⟨20, [(4, vi 1)], []⟩ ?_
  refine swp_ret ?_
  obtain rfl := inj h
  exact nx_r (q_fr (f1 fv))
  refine swp_skip ?_
  refine nx_n ?_
  refine srk tbok ⟨20, [(4, vi 0)], []⟩ ?_
  refine swp_ret ?_
  obtain rfl := inj h
  exact q_fr (f1 fv)
theorem ents74 : Ents Tryz.prog 74 := ents_of Tryz.func74 (by kernel_rfl) rfl
noncomputable def cmp_Or_int (aVals : (List Int)) : Option (Int) :=
  (((forN (aVals.length : Int) (fun (i3 : Int) (_ : Unit) => ((at' aVals i3).bind fun x7 => (bif (x7 != 0) then some (.inr (.inr x7)) else some (.inl ())))) (fun (_ : Unit) => .inl ()) 0 ())).bind (Sum.elim (fun (_ : Unit) => some 0) some))
theorem cmp_Or_int_run (aVals : (List Int)) (r : Int) (h : cmp_Or_int aVals = some r) : SCall Tryz.prog 73 [.v (vl (eI .i64) aVals)] ⟨[.v (vi r)], [], false⟩ := by
  refine scall_in Tryz.func73 rfl [(.tmp 2)] rfl (fun r => ⟨[.v (vi r)], [], false⟩) (r := r) ?_
  unfold cmp_Or_int at h
  refine srk tbok ⟨18, [(0, vl (eI .i64) aVals)], []⟩ ?_
  refine srk tbok ⟨18, [(0, vl (eI .i64) aVals), (3, vi 0)], []⟩ ?_
  refine swp_seq ?_
  refine srk tbok ⟨18, [(3, vi 0), (6, vl (eI .i64) aVals), (7, vi (aVals.length : Int)), (8, vi 0)], []⟩ ?_
  refine swp_seqE (r := r) h (fun j1 => ⟨18, [(3, vi 0)], []⟩) (fun v2 h => ?_) (fun j1 h => ?_)
  refine swp_blk (a := v2) ?_
  refine swp_lpL (r := v2) (s := (0, ())) _ (fun s3 => ⟨18, [(3, vi 0), (6, vl (eI .i64) aVals), (7, vi (aVals.length : Int)), (8, vi s3.1)], []⟩) _ (Le.sub0) h (fun s3 v4 h => ?_)
  refine srk tbok ⟨18, [(3, vi 0), (6, vl (eI .i64) aVals), (7, vi (aVals.length : Int)), (8, vi s3.1), (9, vb (decide (s3.1 < (aVals.length : Int))))], []⟩ ?_
  refine swp_seq ?_
  refine swp_cd h (fun h => ?_) fun h => ?_
  refine swp_skip ?_
  refine nx_n ?_
  refine swp_seq ?_
  refine swp_seqL (r := v4) h (fun j5 => ⟨18, [(3, vi 0), (6, vl (eI .i64) aVals), (7, vi (aVals.length : Int)), (8, vi s3.1)], []⟩) (fun v6 h => ?_) (fun j5 h => ?_)
  refine swp_blk (a := v6) ?_
  refine sr ?_
  obtain ⟨x7, hx7, h⟩ := bind_some h
  refine SRun.ls (x_index (L := aVals) (f := (eI .i64)) (ti := ti131) (tj := ti3) (e := 3) (k := .i64) tbok rfl hx7) ?_
  refine ckn tbok 2 ⟨18, [(3, vi 0), (5, vi x7), (6, vl (eI .i64) aVals), (7, vi (aVals.length : Int)), (8, vi s3.1)], []⟩ ?_
  refine srk tbok ⟨18, [(3, vi 0), (5, vi x7), (6, vl (eI .i64) aVals), (7, vi (aVals.length : Int)), (8, vi s3.1), (14, vb (x7 != 0))], []⟩ ?_
  refine swp_cd h (fun h => ?_) fun h => ?_
  refine srk tbok ⟨18, [(2, vi x7)], []⟩ ?_
  refine swp_ret ?_
  obtain rfl := inj h
  exact q_br (q_rr (q_rr (q_br (q_rr (q_fr (f1 fv))))))
  refine swp_skip ?_
  obtain rfl := inj h
  exact q_bn (q_l (Le.sub0))
  refine swp_reg ?_
  refine SRun.ck tbok 2 ⟨18, [(3, vi 0), (6, vl (eI .i64) aVals), (7, vi (aVals.length : Int)), (8, vi (w64 (s3.1 + 1)))], []⟩ ?_
  refine SRun.nil ?_
  obtain rfl := inj h
  exact q_l (Le.sub0)
  refine swp_exit ?_
  obtain rfl := inj h
  exact nx_e (q_re (q_bh (q_l (Le.sub0))))
  refine srk tbok ⟨18, [(2, vi 0)], []⟩ ?_
  refine swp_ret ?_
  obtain rfl := inj h
  exact q_fr (f1 fv)
theorem ents73 : Ents Tryz.prog 73 := ents_of Tryz.func73 (by kernel_rfl) rfl
noncomputable def impl_question_answers_1 (aA : Answer) (aB : Answer) : Option (Int) :=
  ((cmp_Compare_int64 (w64 ((w64 (10 * aB.Satisfied)) - aB.Distance)) (w64 ((w64 (10 * aA.Satisfied)) - aA.Distance))).bind fun x1 => ((strings_Compare aA.Code aB.Code).bind fun x2 => ((cmp_Or_int ([x1, x2] : List Int)).bind fun x3 => some x3)))
theorem impl_question_answers_1_run (aA : Answer) (aB : Answer) (r : Int) (h : impl_question_answers_1 aA aB = some r) : SCall Tryz.prog 72 [.v (.agg (tc eAnswer aA)), .v (.agg (tc eAnswer aB))] ⟨[.v (vi r)], [], false⟩ := by
  refine scall_in Tryz.func72 rfl [(.tmp 4)] rfl (fun r => ⟨[.v (vi r)], [], false⟩) (r := r) ?_
  unfold impl_question_answers_1 at h
  refine srk tbok ⟨25, [(2, .ref 2 0), (3, .ref 3 0)], [(2, .box (tc eAnswer aA)), (3, .box (tc eAnswer aB))]⟩ ?_
  refine swp_seq ?_
  refine swp_dr mixed ?_
  refine DGo.ck tbok false 12 ⟨25, [(2, .ref 2 0), (3, .ref 3 0), (10, vi (w64 ((w64 (10 * aB.Satisfied)) - aB.Distance))), (16, vi (w64 ((w64 (10 * aA.Satisfied)) - aA.Distance)))], [(2, .box (tc eAnswer aA)), (3, .box (tc eAnswer aB))]⟩ ?_
  obtain ⟨x1, hx1, h⟩ := bind_some h
  refine DGo.step (xc ents74 (cmp_Compare_int64_run (w64 ((w64 (10 * aB.Satisfied)) - aB.Distance)) (w64 ((w64 (10 * aA.Satisfied)) - aA.Distance)) _ hx1)) ?_
  refine DGo.ck tbok false 4 ⟨25, [(17, vi x1), (19, vs aA.Code), (21, vs aB.Code)], []⟩ ?_
  obtain ⟨x2, hx2, h⟩ := bind_some h
  refine DGo.step (xc ents75 (strings_Compare_run aA.Code aB.Code _ hx2)) ?_
  refine DGo.ck tbok false 1 ⟨25, [(23, .own 23)], [(23, oa 3 1 (eI .i64) ([x1, x2] : List Int))]⟩ ?_
  obtain ⟨x3, hx3, h⟩ := bind_some h
  refine DGo.stepW false [23] (xc ents73 (cmp_Or_int_run ([x1, x2] : List Int) _ hx3)) ?_
  refine DGo.ck tbok false 1 ⟨25, [(4, vi x3)], []⟩ ?_
  refine DGo.nx ?_
  refine swp_ret ?_
  obtain rfl := inj h
  exact q_fr (f1 fv)
theorem ents72 : Ents Tryz.prog 72 := ents_of Tryz.func72 (by kernel_rfl) rfl
noncomputable def slices_insertionSortCmpFunc_Answer_impl_question_answers_1 (aData : (List Answer)) (aA : Int) (aB : Int) : Option ((List Answer)) :=
  (forS aB (fun (i1 : Int) (s1 : (List Answer)) => (loop (fun (s5 : Int × (List Answer)) => (((bif (decide (s5.1 > aA)) then ((at' s5.2 s5.1).bind fun x7 => ((at' s5.2 (w64 (s5.1 - 1))).bind fun x8 => ((impl_question_answers_1 x7 x8).bind fun x9 => some (decide (x9 < 0))))) else some false)).bind fun (j10 : Bool) => (bif j10 then ((((at' s5.2 (w64 (s5.1 - 1))).bind fun x14 => ((at' s5.2 s5.1).bind fun x15 => ((at' s5.2 s5.1).bind fun _ => ((at' (List.set s5.2 (Int.toNat s5.1) x14) (w64 (s5.1 - 1))).bind fun _ => some (List.set (List.set s5.2 (Int.toNat s5.1) x14) (Int.toNat (w64 (s5.1 - 1))) x15)))))).bind fun (j12 : (List Answer)) => some (.inl ((w64 (s5.1 - 1)), j12))) else some (.inr s5.2)))) (i1, s1))) (fun (s1 : (List Answer)) => s1) (w64 (aA + 1)) aData)
theorem slices_insertionSortCmpFunc_Answer_impl_question_answers_1_run (aData : (List Answer)) (aA : Int) (aB : Int) (r : (List Answer)) (h : slices_insertionSortCmpFunc_Answer_impl_question_answers_1 aData aA aB = some r) : SCall Tryz.prog 120 [.o (oa 29 3 eAnswer aData), .v (vi aA), .v (vi aB), .v (.clo 72 [])] ⟨[], [(0, oa 29 3 eAnswer r)], false⟩ := by
  refine scall_in Tryz.func120 rfl [] rfl (fun r => ⟨[], [(0, oa 29 3 eAnswer r)], false⟩) (r := r) ?_
  unfold slices_insertionSortCmpFunc_Answer_impl_question_answers_1 at h
  refine srk tbok ⟨53, [(0, .own 1000000), (1, vi aA), (2, vi aB), (3, .clo 72 []), (8, vi (w64 (aA + 1)))], [(1000000, oa 29 3 eAnswer aData)]⟩ ?_
  refine swp_blk (a := r) ?_
  refine swp_lpL (r := r) (s := ((w64 (aA + 1)), aData)) _ (fun s1 => ⟨53, [(0, .own 1000000), (1, vi aA), (2, vi aB), (3, .clo 72 []), (8, vi s1.1)], [(1000000, oa 29 3 eAnswer s1.2)]⟩) _ (Le.sub0) h (fun s1 v2 h => ?_)
  refine swp_seq ?_
  refine srk tbok ⟨53, [(0, .own 1000000), (1, vi aA), (2, vi aB), (3, .clo 72 []), (8, vi s1.1), (14, vb (decide (s1.1 < aB)))], [(1000000, oa 29 3 eAnswer s1.2)]⟩ ?_
  refine swp_cd h (fun h => ?_) fun h => ?_
  refine swp_skip ?_
  refine nx_n ?_
  refine swp_seq ?_
  refine swp_seqJ h (fun j3 => ⟨53, [(0, .own 1000000), (1, vi aA), (2, vi aB), (3, .clo 72 []), (8, vi s1.1)], [(1000000, oa 29 3 eAnswer j3)]⟩) (fun v4 h => ?_) (fun j3 h => ?_)
  refine swp_blk (a := v4) ?_
  refine srk tbok ⟨53, [(0, .own 1000000), (1, vi aA), (2, vi aB), (3, .clo 72 []), (8, vi s1.1), (9, vi s1.1)], [(1000000, oa 29 3 eAnswer s1.2)]⟩ ?_
  refine swp_blk (a := v4) ?_
  refine swp_lpL (r := v4) (s := (s1.1, s1.2)) _ (fun s5 => ⟨53, [(0, .own 1000000), (1, vi aA), (2, vi aB), (3, .clo 72 []), (8, vi s1.1), (9, vi s5.1)], [(1000000, oa 29 3 eAnswer s5.2)]⟩) _ (Le.sub0) h (fun s5 v6 h => ?_)
  refine swp_seq ?_
  refine swp_seq ?_
  refine swp_drJ mixed h (fun j10 => ⟨53, [(0, .own 1000000), (1, vi aA), (2, vi aB), (3, .clo 72 []), (8, vi s1.1), (9, vi s5.1), (34, vb j10)], [(1000000, oa 29 3 eAnswer s5.2)]⟩) (fun v11 h => ?_) (fun j10 h => ?_)
  refine DGo.ck tbok false 4 ⟨53, [(0, .own 1000000), (1, vi aA), (2, vi aB), (3, .clo 72 []), (8, vi s1.1), (9, vi s5.1), (21, vb (decide (s5.1 > aA)))], [(1000000, oa 29 3 eAnswer s5.2)]⟩ ?_
  refine DGo.cu [(21, fun b => b)] h (fun h => ?_) fun h => ?_
  refine DGo.ck tbok false 3 ⟨53, [(0, .own 1000000), (1, vi aA), (2, vi aB), (3, .clo 72 []), (8, vi s1.1), (9, vi s5.1), (21, vb true), (22, .clo 72 []), (23, .own 1000000), (24, vi s5.1)], [(1000000, oa 29 3 eAnswer s5.2)]⟩ ?_
  obtain ⟨x7, hx7, h⟩ := bind_some h
  refine DGo.step (x_index_own (d := 1000000) (L := s5.2) (f := eAnswer) (ti := ti43) (tj := ti29) (e := 29) (e' := 29) (m := 3) (k := .i64) tbok rfl hx7) ?_
  refine DGo.step (x_load_own (d := 1000000) (m := 3) (j := 0) (L := s5.2) (f := eAnswer) (ti := ti29) (e := 29) (v := .agg (tc eAnswer x7)) tbok rfl hx7) ?_
  refine DGo.ck tbok false 3 ⟨53, [(0, .own 1000000), (1, vi aA), (2, vi aB), (3, .clo 72 []), (8, vi s1.1), (9, vi s5.1), (21, vb true), (22, .clo 72 []), (26, .agg (tc eAnswer x7)), (27, .own 1000000), (29, vi (w64 (s5.1 - 1)))], [(1000000, oa 29 3 eAnswer s5.2)]⟩ ?_
  obtain ⟨x8, hx8, h⟩ := bind_some h
  refine DGo.step (x_index_own (d := 1000000) (L := s5.2) (f := eAnswer) (ti := ti43) (tj := ti29) (e := 29) (e' := 29) (m := 3) (k := .i64) tbok rfl hx8) ?_
  refine DGo.step (x_load_own (d := 1000000) (m := 3) (j := 0) (L := s5.2) (f := eAnswer) (ti := ti29) (e := 29) (v := .agg (tc eAnswer x8)) tbok rfl hx8) ?_
  obtain ⟨x9, hx9, h⟩ := bind_some h
  refine DGo.step (xc ents72 (impl_question_answers_1_run x7 x8 _ hx9)) ?_
  refine DGo.ck tbok false 2 ⟨53, [(0, .own 1000000), (1, vi aA), (2, vi aB), (3, .clo 72 []), (8, vi s1.1), (9, vi s5.1), (34, vb (decide (x9 < 0)))], [(1000000, oa 29 3 eAnswer s5.2)]⟩ ?_
  refine DGo.nil (by kernel_rfl) ?_
  obtain rfl := inj h
  exact Le.sub0
  refine DGo.ck tbok false 13 ⟨53, [(0, .own 1000000), (1, vi aA), (2, vi aB), (3, .clo 72 []), (8, vi s1.1), (9, vi s5.1), (34, vb false)], [(1000000, oa 29 3 eAnswer s5.2)]⟩ ?_
  refine DGo.nil (by kernel_rfl) ?_
  obtain rfl := inj h
  exact Le.sub0
  refine swp_cd h (fun h => ?_) fun h => ?_
  refine swp_skip ?_
  refine nx_n ?_
  refine swp_seq ?_
  refine swp_seqJ h (fun j12 => ⟨53, [(0, .own 1000000), (1, vi aA), (2, vi aB), (3, .clo 72 []), (8, vi s1.1), (9, vi s5.1)], [(1000000, oa 29 3 eAnswer j12)]⟩) (fun v13 h => ?_) (fun j12 h => ?_)
  refine swp_blk (a := v13) ?_
  obtain ⟨x14, hx14, h⟩ := bind_some h
  obtain ⟨x15, hx15, h⟩ := bind_some h
  obtain ⟨x16, hx16, h⟩ := bind_some h
  obtain ⟨x17, hx17, h⟩ := bind_some h
  refine swp_dr mixed ?_
  refine DGo.enum (σE := ⟨53, [(0, .own 1000000), (1, vi aA), (2, vi aB), (3, .clo 72 []), (8, vi s1.1), (9, vi s5.1)], [(1000000, oa 29 3 eAnswer (List.set (List.set s5.2 (Int.toNat s5.1) x14) (Int.toNat (w64 (s5.1 - 1))) x15))]⟩) (n := 18) (L0 := #[false, false, false, false, false, false, false, false, false, false, false, false, false, false, false, false, false, false]) (by kernel_rfl) (by kernel_rfl) (fun K hk => ?_) ?_
  refine DE.share (fuel := 0) (L := #[true, true, true, true, true, true, true, true, true, true, true, true, true, true, true, true, true, true]) (σ := ⟨53, [(0, .own 1000000), (1, vi aA), (2, vi aB), (3, .clo 72 []), (8, vi s1.1), (9, vi s5.1)], [(1000000, oa 29 3 eAnswer (List.set (List.set s5.2 (Int.toNat s5.1) x14) (Int.toNat (w64 (s5.1 - 1))) x15))]⟩) ?_ (fun d37 => ?_)
  exact DE.done (by kernel_rfl) hk
  refine DE.share (fuel := 1) (L := #[true, true, true, true, true, true, true, true, true, true, true, true, true, true, true, true, true, false]) (σ := ⟨53, [(0, .own 1000000), (1, vi aA), (2, vi aB), (3, .clo 72 []), (8, vi s1.1), (9, vi s5.1), (50, .agg (tc eAnswer x15)), (52, .eref 1000000 3 (Int.toNat (w64 (s5.1 - 1))) 0)], [(1000000, oa 29 3 eAnswer (List.set s5.2 (Int.toNat s5.1) x14))]⟩) ?_ (fun d36 => ?_)
  exact DE.all [17] (by kernel_rfl) (by simp) (List.forall_mem_cons.2 ⟨DEs.mk (i := 17) (L' := #[true, true, true, true, true, true, true, true, true, true, true, true, true, true, true, true, true, true]) rfl (EStep.le (x_store_own (d := 1000000) (m := 3) (j := 0) (L := (List.set s5.2 (Int.toNat s5.1) x14)) (f := eAnswer) (x := x15) (z := x17) (ti := ti29) (e := 29) (ts := [.str x15.Code, .int .i64 x15.Distance, .int .i64 x15.Satisfied]) (vs := [vs x15.Code, vi x15.Distance, vi x15.Satisfied]) (v := .agg (tc eAnswer x15)) tbok rfl rfl hx17) Le.sub0) (by kernel_rfl) d37, (fun _ h => absurd h List.not_mem_nil)⟩)
  refine DE.share (fuel := 2) (L := #[true, true, true, true, true, true, true, true, true, true, true, true, true, true, true, true, false, false]) (σ := ⟨53, [(0, .own 1000000), (1, vi aA), (2, vi aB), (3, .clo 72 []), (8, vi s1.1), (9, vi s5.1), (39, .own 1000000), (41, vi (w64 (s5.1 - 1))), (50, .agg (tc eAnswer x15))], [(1000000, oa 29 3 eAnswer (List.set s5.2 (Int.toNat s5.1) x14))]⟩) ?_ (fun d35 => ?_)
  exact DE.all [16] (by kernel_rfl) (by simp) (List.forall_mem_cons.2 ⟨DEs.mk (i := 16) (L' := #[true, true, true, true, true, true, true, true, true, true, true, true, true, true, true, true, true, false]) rfl (EStep.le (EStep.ofL (x_index_own (d := 1000000) (L := (List.set s5.2 (Int.toNat s5.1) x14)) (f := eAnswer) (ti := ti43) (tj := ti29) (e := 29) (e' := 29) (m := 3) (k := .i64) tbok rfl hx17) (by kernel_rfl)) Le.sub0) (by kernel_rfl) d36, (fun _ h => absurd h List.not_mem_nil)⟩)
  refine DE.share (fuel := 3) (L := #[true, true, true, true, false, true, true, true, true, true, true, true, true, true, true, true, false, false]) (σ := ⟨53, [(0, .own 1000000), (1, vi aA), (2, vi aB), (3, .clo 72 []), (8, vi s1.1), (9, vi s5.1), (39, .own 1000000), (40, vi s5.1), (50, .agg (tc eAnswer x15))], [(1000000, oa 29 3 eAnswer (List.set s5.2 (Int.toNat s5.1) x14))]⟩) ?_ (fun d34 => ?_)
  exact DE.all [4] (by kernel_rfl) (by simp) (List.forall_mem_cons.2 ⟨DEs.mk (i := 4) (L' := #[true, true, true, true, true, true, true, true, true, true, true, true, true, true, true, true, false, false]) rfl (EStep.le (EStep.ofN2 tbok (σ' := ⟨53, [(41, vi (w64 (s5.1 - 1))), (0, .own 1000000), (1, vi aA), (2, vi aB), (3, .clo 72 []), (8, vi s1.1), (9, vi s5.1), (39, .own 1000000), (40, vi s5.1), (50, .agg (tc eAnswer x15))], [(1000000, oa 29 3 eAnswer (List.set s5.2 (Int.toNat s5.1) x14))]⟩) (by kernel_rfl)) Le.sub0) (by kernel_rfl) d35, (fun _ h => absurd h List.not_mem_nil)⟩)
  refine DE.share (fuel := 3) (L := #[true, true, true, true, true, true, true, true, true, true, true, true, true, true, true, false, false, false]) (σ := ⟨53, [(0, .own 1000000), (1, vi aA), (2, vi aB), (3, .clo 72 []), (8, vi s1.1), (9, vi s5.1), (39, .own 1000000), (41, vi (w64 (s5.1 - 1))), (46, .agg (tc eAnswer x14)), (50, .agg (tc eAnswer x15)), (51, .eref 1000000 3 (Int.toNat s5.1) 0)], [(1000000, oa 29 3 eAnswer s5.2)]⟩) ?_ (fun d33 => ?_)
  exact DE.all [15] (by kernel_rfl) (by simp) (List.forall_mem_cons.2 ⟨DEs.mk (i := 15) (L' := #[true, true, true, true, true, true, true, true, true, true, true, true, true, true, true, true, false, false]) rfl (EStep.le (x_store_own (d := 1000000) (m := 3) (j := 0) (L := s5.2) (f := eAnswer) (x := x14) (z := x16) (ti := ti29) (e := 29) (ts := [.str x14.Code, .int .i64 x14.Distance, .int .i64 x14.Satisfied]) (vs := [vs x14.Code, vi x14.Distance, vi x14.Satisfied]) (v := .agg (tc eAnswer x14)) tbok rfl rfl hx16) Le.sub0) (by kernel_rfl) d35, (fun _ h => absurd h List.not_mem_nil)⟩)
  refine DE.share (fuel := 4) (L := #[true, true, true, true, false, true, true, true, true, true, true, true, true, true, true, false, false, false]) (σ := ⟨53, [(0, .own 1000000), (1, vi aA), (2, vi aB), (3, .clo 72 []), (8, vi s1.1), (9, vi s5.1), (39, .own 1000000), (40, vi s5.1), (46, .agg (tc eAnswer x14)), (50, .agg (tc eAnswer x15)), (51, .eref 1000000 3 (Int.toNat s5.1) 0)], [(1000000, oa 29 3 eAnswer s5.2)]⟩) ?_ (fun d32 => ?_)
  exact DE.all [4, 15] (by kernel_rfl) (by simp) (List.forall_mem_cons.2 ⟨DEs.mk (i := 4) (L' := #[true, true, true, true, true, true, true, true, true, true, true, true, true, true, true, false, false, false]) rfl (EStep.le (EStep.ofN2 tbok (σ' := ⟨53, [(41, vi (w64 (s5.1 - 1))), (0, .own 1000000), (1, vi aA), (2, vi aB), (3, .clo 72 []), (8, vi s1.1), (9, vi s5.1), (39, .own 1000000), (40, vi s5.1), (46, .agg (tc eAnswer x14)), (50, .agg (tc eAnswer x15)), (51, .eref 1000000 3 (Int.toNat s5.1) 0)], [(1000000, oa 29 3 eAnswer s5.2)]⟩) (by kernel_rfl)) Le.sub0) (by kernel_rfl) d33, (List.forall_mem_cons.2 ⟨DEs.mk (i := 15) (L' := #[true, true, true, true, false, true, true, true, true, true, true, true, true, true, true, true, false, false]) rfl (EStep.le (x_store_own (d := 1000000) (m := 3) (j := 0) (L := s5.2) (f := eAnswer) (x := x14) (z := x16) (ti := ti29) (e := 29) (ts := [.str x14.Code, .int .i64 x14.Distance, .int .i64 x14.Satisfied]) (vs := [vs x14.Code, vi x14.Distance, vi x14.Satisfied]) (v := .agg (tc eAnswer x14)) tbok rfl rfl hx16) Le.sub0) (by kernel_rfl) d34, (fun _ h => absurd h List.not_mem_nil)⟩)⟩)
  refine DE.share (fuel := 4) (L := #[true, true, true, true, true, true, true, true, true, true, true, true, true, true, false, false, false, false]) (σ := ⟨53, [(0, .own 1000000), (1, vi aA), (2, vi aB), (3, .clo 72 []), (8, vi s1.1), (9, vi s5.1), (37, .own 1000000), (38, vi s5.1), (39, .own 1000000), (41, vi (w64 (s5.1 - 1))), (46, .agg (tc eAnswer x14)), (50, .agg (tc eAnswer x15))], [(1000000, oa 29 3 eAnswer s5.2)]⟩) ?_ (fun d31 => ?_)
  exact DE.all [14] (by kernel_rfl) (by simp) (List.forall_mem_cons.2 ⟨DEs.mk (i := 14) (L' := #[true, true, true, true, true, true, true, true, true, true, true, true, true, true, true, false, false, false]) rfl (EStep.le (EStep.ofL (x_index_own (d := 1000000) (L := s5.2) (f := eAnswer) (ti := ti43) (tj := ti29) (e := 29) (e' := 29) (m := 3) (k := .i64) tbok rfl hx16) (by kernel_rfl)) Le.sub0) (by kernel_rfl) d33, (fun _ h => absurd h List.not_mem_nil)⟩)
  refine DE.share (fuel := 5) (L := #[true, true, true, true, false, true, true, true, true, true, true, true, true, true, false, false, false, false]) (σ := ⟨53, [(0, .own 1000000), (1, vi aA), (2, vi aB), (3, .clo 72 []), (8, vi s1.1), (9, vi s5.1), (37, .own 1000000), (38, vi s5.1), (39, .own 1000000), (40, vi s5.1), (46, .agg (tc eAnswer x14)), (50, .agg (tc eAnswer x15))], [(1000000, oa 29 3 eAnswer s5.2)]⟩) ?_ (fun d30 => ?_)
  exact DE.all [4, 14] (by kernel_rfl) (by simp) (List.forall_mem_cons.2 ⟨DEs.mk (i := 4) (L' := #[true, true, true, true, true, true, true, true, true, true, true, true, true, true, false, false, false, false]) rfl (EStep.le (EStep.ofN2 tbok (σ' := ⟨53, [(41, vi (w64 (s5.1 - 1))), (0, .own 1000000), (1, vi aA), (2, vi aB), (3, .clo 72 []), (8, vi s1.1), (9, vi s5.1), (37, .own 1000000), (38, vi s5.1), (39, .own 1000000), (40, vi s5.1), (46, .agg (tc eAnswer x14)), (50, .agg (tc eAnswer x15))], [(1000000, oa 29 3 eAnswer s5.2)]⟩) (by kernel_rfl)) Le.sub0) (by kernel_rfl) d31, (List.forall_mem_cons.2 ⟨DEs.mk (i := 14) (L' := #[true, true, true, true, false, true, true, true, true, true, true, true, true, true, true, false, false, false]) rfl (EStep.le (EStep.ofL (x_index_own (d := 1000000) (L := s5.2) (f := eAnswer) (ti := ti43) (tj := ti29) (e := 29) (e' := 29) (m := 3) (k := .i64) tbok rfl hx16) (by kernel_rfl)) Le.sub0) (by kernel_rfl) d32, (fun _ h => absurd h List.not_mem_nil)⟩)⟩)
  refine DE.share (fuel := 5) (L := #[true, true, true, true, true, true, true, true, true, false, true, true, true, true, false, false, false, false]) (σ := ⟨53, [(0, .own 1000000), (1, vi aA), (2, vi aB), (3, .clo 72 []), (8, vi s1.1), (9, vi s5.1), (37, .own 1000000), (38, vi s5.1), (39, .own 1000000), (41, vi (w64 (s5.1 - 1))), (45, .eref 1000000 3 (Int.toNat (w64 (s5.1 - 1))) 0), (50, .agg (tc eAnswer x15))], [(1000000, oa 29 3 eAnswer s5.2)]⟩) ?_ (fun d29 => ?_)
  exact DE.all [9] (by kernel_rfl) (by simp) (List.forall_mem_cons.2 ⟨DEs.mk (i := 9) (L' := #[true, true, true, true, true, true, true, true, true, true, true, true, true, true, false, false, false, false]) rfl (EStep.le (EStep.ofL (x_load_own (d := 1000000) (m := 3) (j := 0) (L := s5.2) (f := eAnswer) (ti := ti29) (e := 29) (v := .agg (tc eAnswer x14)) tbok rfl hx14) (by kernel_rfl)) Le.sub0) (by kernel_rfl) d31, (fun _ h => absurd h List.not_mem_nil)⟩)
  refine DE.share (fuel := 5) (L := #[true, true, true, true, true, true, true, true, true, true, true, true, true, false, false, false, false, false]) (σ := ⟨53, [(0, .own 1000000), (1, vi aA), (2, vi aB), (3, .clo 72 []), (8, vi s1.1), (9, vi s5.1), (37, .own 1000000), (38, vi s5.1), (39, .own 1000000), (41, vi (w64 (s5.1 - 1))), (46, .agg (tc eAnswer x14)), (49, .eref 1000000 3 (Int.toNat s5.1) 0)], [(1000000, oa 29 3 eAnswer s5.2)]⟩) ?_ (fun d28 => ?_)
  exact DE.all [13] (by kernel_rfl) (by simp) (List.forall_mem_cons.2 ⟨DEs.mk (i := 13) (L' := #[true, true, true, true, true, true, true, true, true, true, true, true, true, true, false, false, false, false]) rfl (EStep.le (EStep.ofL (x_load_own (d := 1000000) (m := 3) (j := 0) (L := s5.2) (f := eAnswer) (ti := ti29) (e := 29) (v := .agg (tc eAnswer x15)) tbok rfl hx15) (by kernel_rfl)) Le.sub0) (by kernel_rfl) d31, (fun _ h => absurd h List.not_mem_nil)⟩)
  refine DE.share (fuel := 6) (L := #[true, true, true, true, false, true, true, true, true, false, true, true, true, true, false, false, false, false]) (σ := ⟨53, [(0, .own 1000000), (1, vi aA), (2, vi aB), (3, .clo 72 []), (8, vi s1.1), (9, vi s5.1), (37, .own 1000000), (38, vi s5.1), (39, .own 1000000), (40, vi s5.1), (45, .eref 1000000 3 (Int.toNat (w64 (s5.1 - 1))) 0), (50, .agg (tc eAnswer x15))], [(1000000, oa 29 3 eAnswer s5.2)]⟩) ?_ (fun d27 => ?_)
  exact DE.all [4, 9] (by kernel_rfl) (by simp) (List.forall_mem_cons.2 ⟨DEs.mk (i := 4) (L' := #[true, true, true, true, true, true, true, true, true, false, true, true, true, true, false, false, false, false]) rfl (EStep.le (EStep.ofN2 tbok (σ' := ⟨53, [(41, vi (w64 (s5.1 - 1))), (0, .own 1000000), (1, vi aA), (2, vi aB), (3, .clo 72 []), (8, vi s1.1), (9, vi s5.1), (37, .own 1000000), (38, vi s5.1), (39, .own 1000000), (40, vi s5.1), (45, .eref 1000000 3 (Int.toNat (w64 (s5.1 - 1))) 0), (50, .agg (tc eAnswer x15))], [(1000000, oa 29 3 eAnswer s5.2)]⟩) (by kernel_rfl)) Le.sub0) (by kernel_rfl) d29, (List.forall_mem_cons.2 ⟨DEs.mk (i := 9) (L' := #[true, true, true, true, false, true, true, true, true, true, true, true, true, true, false, false, false, false]) rfl (EStep.le (EStep.ofL (x_load_own (d := 1000000) (m := 3) (j := 0) (L := s5.2) (f := eAnswer) (ti := ti29) (e := 29) (v := .agg (tc eAnswer x14)) tbok rfl hx14) (by kernel_rfl)) Le.sub0) (by kernel_rfl) d30, (fun _ h => absurd h List.not_mem_nil)⟩)⟩)
  refine DE.share (fuel := 6) (L := #[true, true, true, true, false, true, true, true, true, true, true, true, true, false, false, false, false, false]) (σ := ⟨53, [(0, .own 1000000), (1, vi aA), (2, vi aB), (3, .clo 72 []), (8, vi s1.1), (9, vi s5.1), (37, .own 1000000), (38, vi s5.1), (39, .own 1000000), (40, vi s5.1), (46, .agg (tc eAnswer x14)), (49, .eref 1000000 3 (Int.toNat s5.1) 0)], [(1000000, oa 29 3 eAnswer s5.2)]⟩) ?_ (fun d26 => ?_)
  exact DE.all [4, 13] (by kernel_rfl) (by simp) (List.forall_mem_cons.2 ⟨DEs.mk (i := 4) (L' := #[true, true, true, true, true, true, true, true, true, true, true, true, true, false, false, false, false, false]) rfl (EStep.le (EStep.ofN2 tbok (σ' := ⟨53, [(41, vi (w64 (s5.1 - 1))), (0, .own 1000000), (1, vi aA), (2, vi aB), (3, .clo 72 []), (8, vi s1.1), (9, vi s5.1), (37, .own 1000000), (38, vi s5.1), (39, .own 1000000), (40, vi s5.1), (46, .agg (tc eAnswer x14)), (49, .eref 1000000 3 (Int.toNat s5.1) 0)], [(1000000, oa 29 3 eAnswer s5.2)]⟩) (by kernel_rfl)) Le.sub0) (by kernel_rfl) d28, (List.forall_mem_cons.2 ⟨DEs.mk (i := 13) (L' := #[true, true, true, true, false, true, true, true, true, true, true, true, true, true, false, false, false, false]) rfl (EStep.le (EStep.ofL (x_load_own (d := 1000000) (m := 3) (j := 0) (L := s5.2) (f := eAnswer) (ti := ti29) (e := 29) (v := .agg (tc eAnswer x15)) tbok rfl hx15) (by kernel_rfl)) Le.sub0) (by kernel_rfl) d30, (fun _ h => absurd h List.not_mem_nil)⟩)⟩)
  refine DE.share (fuel := 6) (L := #[true, true, true, true, true, true, true, true, false, false, true, true, true, true, false, false, false, false]) (σ := ⟨53, [(0, .own 1000000), (1, vi aA), (2, vi aB), (3, .clo 72 []), (8, vi s1.1), (9, vi s5.1), (37, .own 1000000), (38, vi s5.1), (39, .own 1000000), (41, vi (w64 (s5.1 - 1))), (42, .own 1000000), (44, vi (w64 (s5.1 - 1))), (50, .agg (tc eAnswer x15))], [(1000000, oa 29 3 eAnswer s5.2)]⟩) ?_ (fun d25 => ?_)
  exact DE.all [8] (by kernel_rfl) (by simp) (List.forall_mem_cons.2 ⟨DEs.mk (i := 8) (L' := #[true, true, true, true, true, true, true, true, true, false, true, true, true, true, false, false, false, false]) rfl (EStep.le (EStep.ofL (x_index_own (d := 1000000) (L := s5.2) (f := eAnswer) (ti := ti43) (tj := ti29) (e := 29) (e' := 29) (m := 3) (k := .i64) tbok rfl hx14) (by kernel_rfl)) Le.sub0) (by kernel_rfl) d29, (fun _ h => absurd h List.not_mem_nil)⟩)
  refine DE.share (fuel := 6) (L := #[true, true, true, true, true, true, true, true, true, false, true, true, true, false, false, false, false, false]) (σ := ⟨53, [(0, .own 1000000), (1, vi aA), (2, vi aB), (3, .clo 72 []), (8, vi s1.1), (9, vi s5.1), (37, .own 1000000), (38, vi s5.1), (39, .own 1000000), (41, vi (w64 (s5.1 - 1))), (45, .eref 1000000 3 (Int.toNat (w64 (s5.1 - 1))) 0), (49, .eref 1000000 3 (Int.toNat s5.1) 0)], [(1000000, oa 29 3 eAnswer s5.2)]⟩) ?_ (fun d24 => ?_)
  exact DE.all [9, 13] (by kernel_rfl) (by simp) (List.forall_mem_cons.2 ⟨DEs.mk (i := 9) (L' := #[true, true, true, true, true, true, true, true, true, true, true, true, true, false, false, false, false, false]) rfl (EStep.le (EStep.ofL (x_load_own (d := 1000000) (m := 3) (j := 0) (L := s5.2) (f := eAnswer) (ti := ti29) (e := 29) (v := .agg (tc eAnswer x14)) tbok rfl hx14) (by kernel_rfl)) Le.sub0) (by kernel_rfl) d28, (List.forall_mem_cons.2 ⟨DEs.mk (i := 13) (L' := #[true, true, true, true, true, true, true, true, true, false, true, true, true, true, false, false, false, false]) rfl (EStep.le (EStep.ofL (x_load_own (d := 1000000) (m := 3) (j := 0) (L := s5.2) (f := eAnswer) (ti := ti29) (e := 29) (v := .agg (tc eAnswer x15)) tbok rfl hx15) (by kernel_rfl)) Le.sub0) (by kernel_rfl) d29, (fun _ h => absurd h List.not_mem_nil)⟩)⟩)
  refine DE.share (fuel := 6) (L := #[true, true, true, true, true, true, true, true, true, true, true, true, false, false, false, false, false, false]) (σ := ⟨53, [(0, .own 1000000), (1, vi aA), (2, vi aB), (3, .clo 72 []), (8, vi s1.1), (9, vi s5.1), (37, .own 1000000), (38, vi s5.1), (39, .own 1000000), (41, vi (w64 (s5.1 - 1))), (46, .agg (tc eAnswer x14)), (47, .own 1000000), (48, vi s5.1)], [(1000000, oa 29 3 eAnswer s5.2)]⟩) ?_ (fun d23 => ?_)
  exact DE.all [12] (by kernel_rfl) (by simp) (List.forall_mem_cons.2 ⟨DEs.mk (i := 12) (L' := #[true, true, true, true, true, true, true, true, true, true, true, true, true, false, false, false, false, false]) rfl (EStep.le (EStep.ofL (x_index_own (d := 1000000) (L := s5.2) (f := eAnswer) (ti := ti43) (tj := ti29) (e := 29) (e' := 29) (m := 3) (k := .i64) tbok rfl hx15) (by kernel_rfl)) Le.sub0) (by kernel_rfl) d28, (fun _ h => absurd h List.not_mem_nil)⟩)
  refine DE.share (fuel := 7) (L := #[true, true, true, true, false, true, true, true, false, false, true, true, true, true, false, false, false, false]) (σ := ⟨53, [(0, .own 1000000), (1, vi aA), (2, vi aB), (3, .clo 72 []), (8, vi s1.1), (9, vi s5.1), (37, .own 1000000), (38, vi s5.1), (39, .own 1000000), (40, vi s5.1), (42, .own 1000000), (44, vi (w64 (s5.1 - 1))), (50, .agg (tc eAnswer x15))], [(1000000, oa 29 3 eAnswer s5.2)]⟩) ?_ (fun d22 => ?_)
  exact DE.all [4, 8] (by kernel_rfl) (by simp) (List.forall_mem_cons.2 ⟨DEs.mk (i := 4) (L' := #[true, true, true, true, true, true, true, true, false, false, true, true, true, true, false, false, false, false]) rfl (EStep.le (EStep.ofN2 tbok (σ' := ⟨53, [(41, vi (w64 (s5.1 - 1))), (0, .own 1000000), (1, vi aA), (2, vi aB), (3, .clo 72 []), (8, vi s1.1), (9, vi s5.1), (37, .own 1000000), (38, vi s5.1), (39, .own 1000000), (40, vi s5.1), (42, .own 1000000), (44, vi (w64 (s5.1 - 1))), (50, .agg (tc eAnswer x15))], [(1000000, oa 29 3 eAnswer s5.2)]⟩) (by kernel_rfl)) Le.sub0) (by kernel_rfl) d25, (List.forall_mem_cons.2 ⟨DEs.mk (i := 8) (L' := #[true, true, true, true, false, true, true, true, true, false, true, true, true, true, false, false, false, false]) rfl (EStep.le (EStep.ofL (x_index_own (d := 1000000) (L := s5.2) (f := eAnswer) (ti := ti43) (tj := ti29) (e := 29) (e' := 29) (m := 3) (k := .i64) tbok rfl hx14) (by kernel_rfl)) Le.sub0) (by kernel_rfl) d27, (fun _ h => absurd h List.not_mem_nil)⟩)⟩)
  refine DE.share (fuel := 7) (L := #[true, true, true, true, false, true, true, true, true, false, true, true, true, false, false, false, false, false]) (σ := ⟨53, [(0, .own 1000000), (1, vi aA), (2, vi aB), (3, .clo 72 []), (8, vi s1.1), (9, vi s5.1), (37, .own 1000000), (38, vi s5.1), (39, .own 1000000), (40, vi s5.1), (45, .eref 1000000 3 (Int.toNat (w64 (s5.1 - 1))) 0), (49, .eref 1000000 3 (Int.toNat s5.1) 0)], [(1000000, oa 29 3 eAnswer s5.2)]⟩) ?_ (fun d21 => ?_)
  exact DE.all [4, 9, 13] (by kernel_rfl) (by simp) (List.forall_mem_cons.2 ⟨DEs.mk (i := 4) (L' := #[true, true, true, true, true, true, true, true, true, false, true, true, true, false, false, false, false, false]) rfl (EStep.le (EStep.ofN2 tbok (σ' := ⟨53, [(41, vi (w64 (s5.1 - 1))), (0, .own 1000000), (1, vi aA), (2, vi aB), (3, .clo 72 []), (8, vi s1.1), (9, vi s5.1), (37, .own 1000000), (38, vi s5.1), (39, .own 1000000), (40, vi s5.1), (45, .eref 1000000 3 (Int.toNat (w64 (s5.1 - 1))) 0), (49, .eref 1000000 3 (Int.toNat s5.1) 0)], [(1000000, oa 29 3 eAnswer s5.2)]⟩) (by kernel_rfl)) Le.sub0) (by kernel_rfl) d24, (List.forall_mem_cons.2 ⟨DEs.mk (i := 9) (L' := #[true, true, true, true, false, true, true, true, true, true, true, true, true, false, false, false, false, false]) rfl (EStep.le (EStep.ofL (x_load_own (d := 1000000) (m := 3) (j := 0) (L := s5.2) (f := eAnswer) (ti := ti29) (e := 29) (v := .agg (tc eAnswer x14)) tbok rfl hx14) (by kernel_rfl)) Le.sub0) (by kernel_rfl) d26, (List.forall_mem_cons.2 ⟨DEs.mk (i := 13) (L' := #[true, true, true, true, false, true, true, true, true, false, true, true, true, true, false, false, false, false]) rfl (EStep.le (EStep.ofL (x_load_own (d := 1000000) (m := 3) (j := 0) (L := s5.2) (f := eAnswer) (ti := ti29) (e := 29) (v := .agg (tc eAnswer x15)) tbok rfl hx15) (by kernel_rfl)) Le.sub0) (by kernel_rfl) d27, (fun _ h => absurd h List.not_mem_nil)⟩)⟩)⟩)
  refine DE.share (fuel := 7) (L := #[true, true, true, true, false, true, true, true, true, true, true, true, false, false, false, false, false, false]) (σ := ⟨53, [(0, .own 1000000), (1, vi aA), (2, vi aB), (3, .clo 72 []), (8, vi s1.1), (9, vi s5.1), (37, .own 1000000), (38, vi s5.1), (39, .own 1000000), (40, vi s5.1), (46, .agg (tc eAnswer x14)), (47, .own 1000000), (48, vi s5.1)], [(1000000, oa 29 3 eAnswer s5.2)]⟩) ?_ (fun d20 => ?_)
  exact DE.all [4, 12] (by kernel_rfl) (by simp) (List.forall_mem_cons.2 ⟨DEs.mk (i := 4) (L' := #[true, true, true, true, true, true, true, true, true, true, true, true, false, false, false, false, false, false]) rfl (EStep.le (EStep.ofN2 tbok (σ' := ⟨53, [(41, vi (w64 (s5.1 - 1))), (0, .own 1000000), (1, vi aA), (2, vi aB), (3, .clo 72 []), (8, vi s1.1), (9, vi s5.1), (37, .own 1000000), (38, vi s5.1), (39, .own 1000000), (40, vi s5.1), (46, .agg (tc eAnswer x14)), (47, .own 1000000), (48, vi s5.1)], [(1000000, oa 29 3 eAnswer s5.2)]⟩) (by kernel_rfl)) Le.sub0) (by kernel_rfl) d23, (List.forall_mem_cons.2 ⟨DEs.mk (i := 12) (L' := #[true, true, true, true, false, true, true, true, true, true, true, true, true, false, false, false, false, false]) rfl (EStep.le (EStep.ofL (x_index_own (d := 1000000) (L := s5.2) (f := eAnswer) (ti := ti43) (tj := ti29) (e := 29) (e' := 29) (m := 3) (k := .i64) tbok rfl hx15) (by kernel_rfl)) Le.sub0) (by kernel_rfl) d26, (fun _ h => absurd h List.not_mem_nil)⟩)⟩)
  refine DE.share (fuel := 7) (L := #[true, true, true, true, true, true, true, false, false, false, true, true, true, true, false, false, false, false]) (σ := ⟨53, [(0, .own 1000000), (1, vi aA), (2, vi aB), (3, .clo 72 []), (8, vi s1.1), (9, vi s5.1), (37, .own 1000000), (38, vi s5.1), (39, .own 1000000), (41, vi (w64 (s5.1 - 1))), (42, .own 1000000), (43, vi s5.1), (50, .agg (tc eAnswer x15))], [(1000000, oa 29 3 eAnswer s5.2)]⟩) ?_ (fun d19 => ?_)
  exact DE.all [7] (by kernel_rfl) (by simp) (List.forall_mem_cons.2 ⟨DEs.mk (i := 7) (L' := #[true, true, true, true, true, true, true, true, false, false, true, true, true, true, false, false, false, false]) rfl (EStep.le (EStep.ofN2 tbok (σ' := ⟨53, [(44, vi (w64 (s5.1 - 1))), (0, .own 1000000), (1, vi aA), (2, vi aB), (3, .clo 72 []), (8, vi s1.1), (9, vi s5.1), (37, .own 1000000), (38, vi s5.1), (39, .own 1000000), (41, vi (w64 (s5.1 - 1))), (42, .own 1000000), (43, vi s5.1), (50, .agg (tc eAnswer x15))], [(1000000, oa 29 3 eAnswer s5.2)]⟩) (by kernel_rfl)) Le.sub0) (by kernel_rfl) d25, (fun _ h => absurd h List.not_mem_nil)⟩)
  refine DE.share (fuel := 7) (L := #[true, true, true, true, true, true, true, true, false, false, true, true, true, false, false, false, false, false]) (σ := ⟨53, [(0, .own 1000000), (1, vi aA), (2, vi aB), (3, .clo 72 []), (8, vi s1.1), (9, vi s5.1), (37, .own 1000000), (38, vi s5.1), (39, .own 1000000), (41, vi (w64 (s5.1 - 1))), (42, .own 1000000), (44, vi (w64 (s5.1 - 1))), (49, .eref 1000000 3 (Int.toNat s5.1) 0)], [(1000000, oa 29 3 eAnswer s5.2)]⟩) ?_ (fun d18 => ?_)
  exact DE.all [8, 13] (by kernel_rfl) (by simp) (List.forall_mem_cons.2 ⟨DEs.mk (i := 8) (L' := #[true, true, true, true, true, true, true, true, true, false, true, true, true, false, false, false, false, false]) rfl (EStep.le (EStep.ofL (x_index_own (d := 1000000) (L := s5.2) (f := eAnswer) (ti := ti43) (tj := ti29) (e := 29) (e' := 29) (m := 3) (k := .i64) tbok rfl hx14) (by kernel_rfl)) Le.sub0) (by kernel_rfl) d24, (List.forall_mem_cons.2 ⟨DEs.mk (i := 13) (L' := #[true, true, true, true, true, true, true, true, false, false, true, true, true, true, false, false, false, false]) rfl (EStep.le (EStep.ofL (x_load_own (d := 1000000) (m := 3) (j := 0) (L := s5.2) (f := eAnswer) (ti := ti29) (e := 29) (v := .agg (tc eAnswer x15)) tbok rfl hx15) (by kernel_rfl)) Le.sub0) (by kernel_rfl) d25, (fun _ h => absurd h List.not_mem_nil)⟩)⟩)
  refine DE.share (fuel := 7) (L := #[true, true, true, true, true, true, true, true, true, false, true, true, false, false, false, false, false, false]) (σ := ⟨53, [(0, .own 1000000), (1, vi aA), (2, vi aB), (3, .clo 72 []), (8, vi s1.1), (9, vi s5.1), (37, .own 1000000), (38, vi s5.1), (39, .own 1000000), (41, vi (w64 (s5.1 - 1))), (45, .eref 1000000 3 (Int.toNat (w64 (s5.1 - 1))) 0), (47, .own 1000000), (48, vi s5.1)], [(1000000, oa 29 3 eAnswer s5.2)]⟩) ?_ (fun d17 => ?_)
  exact DE.all [9, 12] (by kernel_rfl) (by simp) (List.forall_mem_cons.2 ⟨DEs.mk (i := 9) (L' := #[true, true, true, true, true, true, true, true, true, true, true, true, false, false, false, false, false, false]) rfl (EStep.le (EStep.ofL (x_load_own (d := 1000000) (m := 3) (j := 0) (L := s5.2) (f := eAnswer) (ti := ti29) (e := 29) (v := .agg (tc eAnswer x14)) tbok rfl hx14) (by kernel_rfl)) Le.sub0) (by kernel_rfl) d23, (List.forall_mem_cons.2 ⟨DEs.mk (i := 12) (L' := #[true, true, true, true, true, true, true, true, true, false, true, true, true, false, false, false, false, false]) rfl (EStep.le (EStep.ofL (x_index_own (d := 1000000) (L := s5.2) (f := eAnswer) (ti := ti43) (tj := ti29) (e := 29) (e' := 29) (m := 3) (k := .i64) tbok rfl hx15) (by kernel_rfl)) Le.sub0) (by kernel_rfl) d24, (fun _ h => absurd h List.not_mem_nil)⟩)⟩)
  refine DE.share (fuel := 8) (L := #[true, true, true, true, false, true, true, false, false, false, true, true, true, true, false, false, false, false]) (σ := ⟨53, [(0, .own 1000000), (1, vi aA), (2, vi aB), (3, .clo 72 []), (8, vi s1.1), (9, vi s5.1), (37, .own 1000000), (38, vi s5.1), (39, .own 1000000), (40, vi s5.1), (42, .own 1000000), (43, vi s5.1), (50, .agg (tc eAnswer x15))], [(1000000, oa 29 3 eAnswer s5.2)]⟩) ?_ (fun d16 => ?_)
  exact DE.all [4, 7] (by kernel_rfl) (by simp) (List.forall_mem_cons.2 ⟨DEs.mk (i := 4) (L' := #[true, true, true, true, true, true, true, false, false, false, true, true, true, true, false, false, false, false]) rfl (EStep.le (EStep.ofN2 tbok (σ' := ⟨53, [(41, vi (w64 (s5.1 - 1))), (0, .own 1000000), (1, vi aA), (2, vi aB), (3, .clo 72 []), (8, vi s1.1), (9, vi s5.1), (37, .own 1000000), (38, vi s5.1), (39, .own 1000000), (40, vi s5.1), (42, .own 1000000), (43, vi s5.1), (50, .agg (tc eAnswer x15))], [(1000000, oa 29 3 eAnswer s5.2)]⟩) (by kernel_rfl)) Le.sub0) (by kernel_rfl) d19, (List.forall_mem_cons.2 ⟨DEs.mk (i := 7) (L' := #[true, true, true, true, false, true, true, true, false, false, true, true, true, true, false, false, false, false]) rfl (EStep.le (EStep.ofN2 tbok (σ' := ⟨53, [(44, vi (w64 (s5.1 - 1))), (0, .own 1000000), (1, vi aA), (2, vi aB), (3, .clo 72 []), (8, vi s1.1), (9, vi s5.1), (37, .own 1000000), (38, vi s5.1), (39, .own 1000000), (40, vi s5.1), (42, .own 1000000), (43, vi s5.1), (50, .agg (tc eAnswer x15))], [(1000000, oa 29 3 eAnswer s5.2)]⟩) (by kernel_rfl)) Le.sub0) (by kernel_rfl) d22, (fun _ h => absurd h List.not_mem_nil)⟩)⟩)
  refine DE.share (fuel := 8) (L := #[true, true, true, true, false, true, true, true, false, false, true, true, true, false, false, false, false, false]) (σ := ⟨53, [(0, .own 1000000), (1, vi aA), (2, vi aB), (3, .clo 72 []), (8, vi s1.1), (9, vi s5.1), (37, .own 1000000), (38, vi s5.1), (39, .own 1000000), (40, vi s5.1), (42, .own 1000000), (44, vi (w64 (s5.1 - 1))), (49, .eref 1000000 3 (Int.toNat s5.1) 0)], [(1000000, oa 29 3 eAnswer s5.2)]⟩) ?_ (fun d15 => ?_)
  exact DE.all [4, 8, 13] (by kernel_rfl) (by simp) (List.forall_mem_cons.2 ⟨DEs.mk (i := 4) (L' := #[true, true, true, true, true, true, true, true, false, false, true, true, true, false, false, false, false, false]) rfl (EStep.le (EStep.ofN2 tbok (σ' := ⟨53, [(41, vi (w64 (s5.1 - 1))), (0, .own 1000000), (1, vi aA), (2, vi aB), (3, .clo 72 []), (8, vi s1.1), (9, vi s5.1), (37, .own 1000000), (38, vi s5.1), (39, .own 1000000), (40, vi s5.1), (42, .own 1000000), (44, vi (w64 (s5.1 - 1))), (49, .eref 1000000 3 (Int.toNat s5.1) 0)], [(1000000, oa 29 3 eAnswer s5.2)]⟩) (by kernel_rfl)) Le.sub0) (by kernel_rfl) d18, (List.forall_mem_cons.2 ⟨DEs.mk (i := 8) (L' := #[true, true, true, true, false, true, true, true, true, false, true, true, true, false, false, false, false, false]) rfl (EStep.le (EStep.ofL (x_index_own (d := 1000000) (L := s5.2) (f := eAnswer) (ti := ti43) (tj := ti29) (e := 29) (e' := 29) (m := 3) (k := .i64) tbok rfl hx14) (by kernel_rfl)) Le.sub0) (by kernel_rfl) d21, (List.forall_mem_cons.2 ⟨DEs.mk (i := 13) (L' := #[true, true, true, true, false, true, true, true, false, false, true, true, true, true, false, false, false, false]) rfl (EStep.le (EStep.ofL (x_load_own (d := 1000000) (m := 3) (j := 0) (L := s5.2) (f := eAnswer) (ti := ti29) (e := 29) (v := .agg (tc eAnswer x15)) tbok rfl hx15) (by kernel_rfl)) Le.sub0) (by kernel_rfl) d22, (fun _ h => absurd h List.not_mem_nil)⟩)⟩)⟩)
  refine DE.share (fuel := 8) (L := #[true, true, true, true, false, true, true, true, true, false, true, true, false, false, false, false, false, false]) (σ := ⟨53, [(0, .own 1000000), (1, vi aA), (2, vi aB), (3, .clo 72 []), (8, vi s1.1), (9, vi s5.1), (37, .own 1000000), (38, vi s5.1), (39, .own 1000000), (40, vi s5.1), (45, .eref 1000000 3 (Int.toNat (w64 (s5.1 - 1))) 0), (47, .own 1000000), (48, vi s5.1)], [(1000000, oa 29 3 eAnswer s5.2)]⟩) ?_ (fun d14 => ?_)
  exact DE.all [4, 9, 12] (by kernel_rfl) (by simp) (List.forall_mem_cons.2 ⟨DEs.mk (i := 4) (L' := #[true, true, true, true, true, true, true, true, true, false, true, true, false, false, false, false, false, false]) rfl (EStep.le (EStep.ofN2 tbok (σ' := ⟨53, [(41, vi (w64 (s5.1 - 1))), (0, .own 1000000), (1, vi aA), (2, vi aB), (3, .clo 72 []), (8, vi s1.1), (9, vi s5.1), (37, .own 1000000), (38, vi s5.1), (39, .own 1000000), (40, vi s5.1), (45, .eref 1000000 3 (Int.toNat (w64 (s5.1 - 1))) 0), (47, .own 1000000), (48, vi s5.1)], [(1000000, oa 29 3 eAnswer s5.2)]⟩) (by kernel_rfl)) Le.sub0) (by kernel_rfl) d17, (List.forall_mem_cons.2 ⟨DEs.mk (i := 9) (L' := #[true, true, true, true, false, true, true, true, true, true, true, true, false, false, false, false, false, false]) rfl (EStep.le (EStep.ofL (x_load_own (d := 1000000) (m := 3) (j := 0) (L := s5.2) (f := eAnswer) (ti := ti29) (e := 29) (v := .agg (tc eAnswer x14)) tbok rfl hx14) (by kernel_rfl)) Le.sub0) (by kernel_rfl) d20, (List.forall_mem_cons.2 ⟨DEs.mk (i := 12) (L' := #[true, true, true, true, false, true, true, true, true, false, true, true, true, false, false, false, false, false]) rfl (EStep.le (EStep.ofL (x_index_own (d := 1000000) (L := s5.2) (f := eAnswer) (ti := ti43) (tj := ti29) (e := 29) (e' := 29) (m := 3) (k := .i64) tbok rfl hx15) (by kernel_rfl)) Le.sub0) (by kernel_rfl) d21, (fun _ h => absurd h List.not_mem_nil)⟩)⟩)⟩)
  refine DE.share (fuel := 8) (L := #[true, true, true, true, true, true, true, false, false, false, true, true, true, false, false, false, false, false]) (σ := ⟨53, [(0, .own 1000000), (1, vi aA), (2, vi aB), (3, .clo 72 []), (8, vi s1.1), (9, vi s5.1), (37, .own 1000000), (38, vi s5.1), (39, .own 1000000), (41, vi (w64 (s5.1 - 1))), (42, .own 1000000), (43, vi s5.1), (49, .eref 1000000 3 (Int.toNat s5.1) 0)], [(1000000, oa 29 3 eAnswer s5.2)]⟩) ?_ (fun d13 => ?_)
  exact DE.all [7, 13] (by kernel_rfl) (by simp) (List.forall_mem_cons.2 ⟨DEs.mk (i := 7) (L' := #[true, true, true, true, true, true, true, true, false, false, true, true, true, false, false, false, false, false]) rfl (EStep.le (EStep.ofN2 tbok (σ' := ⟨53, [(44, vi (w64 (s5.1 - 1))), (0, .own 1000000), (1, vi aA), (2, vi aB), (3, .clo 72 []), (8, vi s1.1), (9, vi s5.1), (37, .own 1000000), (38, vi s5.1), (39, .own 1000000), (41, vi (w64 (s5.1 - 1))), (42, .own 1000000), (43, vi s5.1), (49, .eref 1000000 3 (Int.toNat s5.1) 0)], [(1000000, oa 29 3 eAnswer s5.2)]⟩) (by kernel_rfl)) Le.sub0) (by kernel_rfl) d18, (List.forall_mem_cons.2 ⟨DEs.mk (i := 13) (L' := #[true, true, true, true, true, true, true, false, false, false, true, true, true, true, false, false, false, false]) rfl (EStep.le (EStep.ofL (x_load_own (d := 1000000) (m := 3) (j := 0) (L := s5.2) (f := eAnswer) (ti := ti29) (e := 29) (v := .agg (tc eAnswer x15)) tbok rfl hx15) (by kernel_rfl)) Le.sub0) (by kernel_rfl) d19, (fun _ h => absurd h List.not_mem_nil)⟩)⟩)
  refine DE.share (fuel := 8) (L := #[true, true, true, true, true, true, true, true, false, false, true, true, false, false, false, false, false, false]) (σ := ⟨53, [(0, .own 1000000), (1, vi aA), (2, vi aB), (3, .clo 72 []), (8, vi s1.1), (9, vi s5.1), (37, .own 1000000), (38, vi s5.1), (39, .own 1000000), (41, vi (w64 (s5.1 - 1))), (42, .own 1000000), (44, vi (w64 (s5.1 - 1))), (47, .own 1000000), (48, vi s5.1)], [(1000000, oa 29 3 eAnswer s5.2)]⟩) ?_ (fun d12 => ?_)
  exact DE.all [8, 12] (by kernel_rfl) (by simp) (List.forall_mem_cons.2 ⟨DEs.mk (i := 8) (L' := #[true, true, true, true, true, true, true, true, true, false, true, true, false, false, false, false, false, false]) rfl (EStep.le (EStep.ofL (x_index_own (d := 1000000) (L := s5.2) (f := eAnswer) (ti := ti43) (tj := ti29) (e := 29) (e' := 29) (m := 3) (k := .i64) tbok rfl hx14) (by kernel_rfl)) Le.sub0) (by kernel_rfl) d17, (List.forall_mem_cons.2 ⟨DEs.mk (i := 12) (L' := #[true, true, true, true, true, true, true, true, false, false, true, true, true, false, false, false, false, false]) rfl (EStep.le (EStep.ofL (x_index_own (d := 1000000) (L := s5.2) (f := eAnswer) (ti := ti43) (tj := ti29) (e := 29) (e' := 29) (m := 3) (k := .i64) tbok rfl hx15) (by kernel_rfl)) Le.sub0) (by kernel_rfl) d18, (fun _ h => absurd h List.not_mem_nil)⟩)⟩)
  refine DE.share (fuel := 9) (L := #[true, true, true, true, false, true, true, false, false, false, true, true, true, false, false, false, false, false]) (σ := ⟨53, [(0, .own 1000000), (1, vi aA), (2, vi aB), (3, .clo 72 []), (8, vi s1.1), (9, vi s5.1), (37, .own 1000000), (38, vi s5.1), (39, .own 1000000), (40, vi s5.1), (42, .own 1000000), (43, vi s5.1), (49, .eref 1000000 3 (Int.toNat s5.1) 0)], [(1000000, oa 29 3 eAnswer s5.2)]⟩) ?_ (fun d11 => ?_)
  exact DE.all [4, 7, 13] (by kernel_rfl) (by simp) (List.forall_mem_cons.2 ⟨DEs.mk (i := 4) (L' := #[true, true, true, true, true, true, true, false, false, false, true, true, true, false, false, false, false, false]) rfl (EStep.le (EStep.ofN2 tbok (σ' := ⟨53, [(41, vi (w64 (s5.1 - 1))), (0, .own 1000000), (1, vi aA), (2, vi aB), (3, .clo 72 []), (8, vi s1.1), (9, vi s5.1), (37, .own 1000000), (38, vi s5.1), (39, .own 1000000), (40, vi s5.1), (42, .own 1000000), (43, vi s5.1), (49, .eref 1000000 3 (Int.toNat s5.1) 0)], [(1000000, oa 29 3 eAnswer s5.2)]⟩) (by kernel_rfl)) Le.sub0) (by kernel_rfl) d13, (List.forall_mem_cons.2 ⟨DEs.mk (i := 7) (L' := #[true, true, true, true, false, true, true, true, false, false, true, true, true, false, false, false, false, false]) rfl (EStep.le (EStep.ofN2 tbok (σ' := ⟨53, [(44, vi (w64 (s5.1 - 1))), (0, .own 1000000), (1, vi aA), (2, vi aB), (3, .clo 72 []), (8, vi s1.1), (9, vi s5.1), (37, .own 1000000), (38, vi s5.1), (39, .own 1000000), (40, vi s5.1), (42, .own 1000000), (43, vi s5.1), (49, .eref 1000000 3 (Int.toNat s5.1) 0)], [(1000000, oa 29 3 eAnswer s5.2)]⟩) (by kernel_rfl)) Le.sub0) (by kernel_rfl) d15, (List.forall_mem_cons.2 ⟨DEs.mk (i := 13) (L' := #[true, true, true, true, false, true, true, false, false, false, true, true, true, true, false, false, false, false]) rfl (EStep.le (EStep.ofL (x_load_own (d := 1000000) (m := 3) (j := 0) (L := s5.2) (f := eAnswer) (ti := ti29) (e := 29) (v := .agg (tc eAnswer x15)) tbok rfl hx15) (by kernel_rfl)) Le.sub0) (by kernel_rfl) d16, (fun _ h => absurd h List.not_mem_nil)⟩)⟩)⟩)
  refine DE.share (fuel := 9) (L := #[true, true, true, true, false, true, true, true, false, false, true, true, false, false, false, false, false, false]) (σ := ⟨53, [(0, .own 1000000), (1, vi aA), (2, vi aB), (3, .clo 72 []), (8, vi s1.1), (9, vi s5.1), (37, .own 1000000), (38, vi s5.1), (39, .own 1000000), (40, vi s5.1), (42, .own 1000000), (44, vi (w64 (s5.1 - 1))), (47, .own 1000000), (48, vi s5.1)], [(1000000, oa 29 3 eAnswer s5.2)]⟩) ?_ (fun d10 => ?_)
  exact DE.all [4, 8, 12] (by kernel_rfl) (by simp) (List.forall_mem_cons.2 ⟨DEs.mk (i := 4) (L' := #[true, true, true, true, true, true, true, true, false, false, true, true, false, false, false, false, false, false]) rfl (EStep.le (EStep.ofN2 tbok (σ' := ⟨53, [(41, vi (w64 (s5.1 - 1))), (0, .own 1000000), (1, vi aA), (2, vi aB), (3, .clo 72 []), (8, vi s1.1), (9, vi s5.1), (37, .own 1000000), (38, vi s5.1), (39, .own 1000000), (40, vi s5.1), (42, .own 1000000), (44, vi (w64 (s5.1 - 1))), (47, .own 1000000), (48, vi s5.1)], [(1000000, oa 29 3 eAnswer s5.2)]⟩) (by kernel_rfl)) Le.sub0) (by kernel_rfl) d12, (List.forall_mem_cons.2 ⟨DEs.mk (i := 8) (L' := #[true, true, true, true, false, true, true, true, true, false, true, true, false, false, false, false, false, false]) rfl (EStep.le (EStep.ofL (x_index_own (d := 1000000) (L := s5.2) (f := eAnswer) (ti := ti43) (tj := ti29) (e := 29) (e' := 29) (m := 3) (k := .i64) tbok rfl hx14) (by kernel_rfl)) Le.sub0) (by kernel_rfl) d14, (List.forall_mem_cons.2 ⟨DEs.mk (i := 12) (L' := #[true, true, true, true, false, true, true, true, false, false, true, true, true, false, false, false, false, false]) rfl (EStep.le (EStep.ofL (x_index_own (d := 1000000) (L := s5.2) (f := eAnswer) (ti := ti43) (tj := ti29) (e := 29) (e' := 29) (m := 3) (k := .i64) tbok rfl hx15) (by kernel_rfl)) Le.sub0) (by kernel_rfl) d15, (fun _ h => absurd h List.not_mem_nil)⟩)⟩)⟩)
  refine DE.share (fuel := 9) (L := #[true, true, true, true, true, true, true, false, false, false, true, true, false, false, false, false, false, false]) (σ := ⟨53, [(0, .own 1000000), (1, vi aA), (2, vi aB), (3, .clo 72 []), (8, vi s1.1), (9, vi s5.1), (37, .own 1000000), (38, vi s5.1), (39, .own 1000000), (41, vi (w64 (s5.1 - 1))), (42, .own 1000000), (43, vi s5.1), (47, .own 1000000), (48, vi s5.1)], [(1000000, oa 29 3 eAnswer s5.2)]⟩) ?_ (fun d9 => ?_)
  exact DE.all [7, 12] (by kernel_rfl) (by simp) (List.forall_mem_cons.2 ⟨DEs.mk (i := 7) (L' := #[true, true, true, true, true, true, true, true, false, false, true, true, false, false, false, false, false, false]) rfl (EStep.le (EStep.ofN2 tbok (σ' := ⟨53, [(44, vi (w64 (s5.1 - 1))), (0, .own 1000000), (1, vi aA), (2, vi aB), (3, .clo 72 []), (8, vi s1.1), (9, vi s5.1), (37, .own 1000000), (38, vi s5.1), (39, .own 1000000), (41, vi (w64 (s5.1 - 1))), (42, .own 1000000), (43, vi s5.1), (47, .own 1000000), (48, vi s5.1)], [(1000000, oa 29 3 eAnswer s5.2)]⟩) (by kernel_rfl)) Le.sub0) (by kernel_rfl) d12, (List.forall_mem_cons.2 ⟨DEs.mk (i := 12) (L' := #[true, true, true, true, true, true, true, false, false, false, true, true, true, false, false, false, false, false]) rfl (EStep.le (EStep.ofL (x_index_own (d := 1000000) (L := s5.2) (f := eAnswer) (ti := ti43) (tj := ti29) (e := 29) (e' := 29) (m := 3) (k := .i64) tbok rfl hx15) (by kernel_rfl)) Le.sub0) (by kernel_rfl) d13, (fun _ h => absurd h List.not_mem_nil)⟩)⟩)
  refine DE.share (fuel := 10) (L := #[true, true, true, true, false, true, true, false, false, false, true, true, false, false, false, false, false, false]) (σ := ⟨53, [(0, .own 1000000), (1, vi aA), (2, vi aB), (3, .clo 72 []), (8, vi s1.1), (9, vi s5.1), (37, .own 1000000), (38, vi s5.1), (39, .own 1000000), (40, vi s5.1), (42, .own 1000000), (43, vi s5.1), (47, .own 1000000), (48, vi s5.1)], [(1000000, oa 29 3 eAnswer s5.2)]⟩) ?_ (fun d8 => ?_)
  exact DE.all [4, 7, 12] (by kernel_rfl) (by simp) (List.forall_mem_cons.2 ⟨DEs.mk (i := 4) (L' := #[true, true, true, true, true, true, true, false, false, false, true, true, false, false, false, false, false, false]) rfl (EStep.le (EStep.ofN2 tbok (σ' := ⟨53, [(41, vi (w64 (s5.1 - 1))), (0, .own 1000000), (1, vi aA), (2, vi aB), (3, .clo 72 []), (8, vi s1.1), (9, vi s5.1), (37, .own 1000000), (38, vi s5.1), (39, .own 1000000), (40, vi s5.1), (42, .own 1000000), (43, vi s5.1), (47, .own 1000000), (48, vi s5.1)], [(1000000, oa 29 3 eAnswer s5.2)]⟩) (by kernel_rfl)) Le.sub0) (by kernel_rfl) d9, (List.forall_mem_cons.2 ⟨DEs.mk (i := 7) (L' := #[true, true, true, true, false, true, true, true, false, false, true, true, false, false, false, false, false, false]) rfl (EStep.le (EStep.ofN2 tbok (σ' := ⟨53, [(44, vi (w64 (s5.1 - 1))), (0, .own 1000000), (1, vi aA), (2, vi aB), (3, .clo 72 []), (8, vi s1.1), (9, vi s5.1), (37, .own 1000000), (38, vi s5.1), (39, .own 1000000), (40, vi s5.1), (42, .own 1000000), (43, vi s5.1), (47, .own 1000000), (48, vi s5.1)], [(1000000, oa 29 3 eAnswer s5.2)]⟩) (by kernel_rfl)) Le.sub0) (by kernel_rfl) d10, (List.forall_mem_cons.2 ⟨DEs.mk (i := 12) (L' := #[true, true, true, true, false, true, true, false, false, false, true, true, true, false, false, false, false, false]) rfl (EStep.le (EStep.ofL (x_index_own (d := 1000000) (L := s5.2) (f := eAnswer) (ti := ti43) (tj := ti29) (e := 29) (e' := 29) (m := 3) (k := .i64) tbok rfl hx15) (by kernel_rfl)) Le.sub0) (by kernel_rfl) d11, (fun _ h => absurd h List.not_mem_nil)⟩)⟩)⟩)
  refine DE.share (fuel := 11) (L := #[true, true, true, true, false, true, true, false, false, false, true, false, false, false, false, false, false, false]) (σ := ⟨53, [(0, .own 1000000), (1, vi aA), (2, vi aB), (3, .clo 72 []), (8, vi s1.1), (9, vi s5.1), (37, .own 1000000), (38, vi s5.1), (39, .own 1000000), (40, vi s5.1), (42, .own 1000000), (43, vi s5.1), (47, .own 1000000)], [(1000000, oa 29 3 eAnswer s5.2)]⟩) ?_ (fun d7 => ?_)
  exact DE.take (i := 11) (L' := #[true, true, true, true, false, true, true, false, false, false, true, true, false, false, false, false, false, false]) rfl (.inl rfl) rfl (by kernel_rfl) (by kernel_rfl) (by kernel_rfl) (EStep.le (EStep.ofN2 tbok (σ' := ⟨53, [(48, vi s5.1), (0, .own 1000000), (1, vi aA), (2, vi aB), (3, .clo 72 []), (8, vi s1.1), (9, vi s5.1), (37, .own 1000000), (38, vi s5.1), (39, .own 1000000), (40, vi s5.1), (42, .own 1000000), (43, vi s5.1), (47, .own 1000000)], [(1000000, oa 29 3 eAnswer s5.2)]⟩) (by kernel_rfl)) Le.sub0) (by kernel_rfl) d8
  refine DE.share (fuel := 12) (L := #[true, true, true, true, false, true, true, false, false, false, false, false, false, false, false, false, false, false]) (σ := ⟨53, [(0, .own 1000000), (1, vi aA), (2, vi aB), (3, .clo 72 []), (8, vi s1.1), (9, vi s5.1), (37, .own 1000000), (38, vi s5.1), (39, .own 1000000), (40, vi s5.1), (42, .own 1000000), (43, vi s5.1)], [(1000000, oa 29 3 eAnswer s5.2)]⟩) ?_ (fun d6 => ?_)
  exact DE.take (i := 10) (L' := #[true, true, true, true, false, true, true, false, false, false, true, false, false, false, false, false, false, false]) rfl (.inl rfl) rfl (by kernel_rfl) (by kernel_rfl) (by kernel_rfl) (EStep.le (EStep.ofN2 tbok (σ' := ⟨53, [(47, .own 1000000), (0, .own 1000000), (1, vi aA), (2, vi aB), (3, .clo 72 []), (8, vi s1.1), (9, vi s5.1), (37, .own 1000000), (38, vi s5.1), (39, .own 1000000), (40, vi s5.1), (42, .own 1000000), (43, vi s5.1)], [(1000000, oa 29 3 eAnswer s5.2)]⟩) (by kernel_rfl)) Le.sub0) (by kernel_rfl) d7
  refine DE.share (fuel := 13) (L := #[true, true, true, true, false, true, false, false, false, false, false, false, false, false, false, false, false, false]) (σ := ⟨53, [(0, .own 1000000), (1, vi aA), (2, vi aB), (3, .clo 72 []), (8, vi s1.1), (9, vi s5.1), (37, .own 1000000), (38, vi s5.1), (39, .own 1000000), (40, vi s5.1), (42, .own 1000000)], [(1000000, oa 29 3 eAnswer s5.2)]⟩) ?_ (fun d5 => ?_)
  exact DE.take (i := 6) (L' := #[true, true, true, true, false, true, true, false, false, false, false, false, false, false, false, false, false, false]) rfl (.inl rfl) rfl (by kernel_rfl) (by kernel_rfl) (by kernel_rfl) (EStep.le (EStep.ofN2 tbok (σ' := ⟨53, [(43, vi s5.1), (0, .own 1000000), (1, vi aA), (2, vi aB), (3, .clo 72 []), (8, vi s1.1), (9, vi s5.1), (37, .own 1000000), (38, vi s5.1), (39, .own 1000000), (40, vi s5.1), (42, .own 1000000)], [(1000000, oa 29 3 eAnswer s5.2)]⟩) (by kernel_rfl)) Le.sub0) (by kernel_rfl) d6
  refine DE.share (fuel := 14) (L := #[true, true, true, true, false, false, false, false, false, false, false, false, false, false, false, false, false, false]) (σ := ⟨53, [(0, .own 1000000), (1, vi aA), (2, vi aB), (3, .clo 72 []), (8, vi s1.1), (9, vi s5.1), (37, .own 1000000), (38, vi s5.1), (39, .own 1000000), (40, vi s5.1)], [(1000000, oa 29 3 eAnswer s5.2)]⟩) ?_ (fun d4 => ?_)
  exact DE.take (i := 5) (L' := #[true, true, true, true, false, true, false, false, false, false, false, false, false, false, false, false, false, false]) rfl (.inl rfl) rfl (by kernel_rfl) (by kernel_rfl) (by kernel_rfl) (EStep.le (EStep.ofN2 tbok (σ' := ⟨53, [(42, .own 1000000), (0, .own 1000000), (1, vi aA), (2, vi aB), (3, .clo 72 []), (8, vi s1.1), (9, vi s5.1), (37, .own 1000000), (38, vi s5.1), (39, .own 1000000), (40, vi s5.1)], [(1000000, oa 29 3 eAnswer s5.2)]⟩) (by kernel_rfl)) Le.sub0) (by kernel_rfl) d5
  refine DE.share (fuel := 15) (L := #[true, true, true, false, false, false, false, false, false, false, false, false, false, false, false, false, false, false]) (σ := ⟨53, [(0, .own 1000000), (1, vi aA), (2, vi aB), (3, .clo 72 []), (8, vi s1.1), (9, vi s5.1), (37, .own 1000000), (38, vi s5.1), (39, .own 1000000)], [(1000000, oa 29 3 eAnswer s5.2)]⟩) ?_ (fun d3 => ?_)
  exact DE.take (i := 3) (L' := #[true, true, true, true, false, false, false, false, false, false, false, false, false, false, false, false, false, false]) rfl (.inl rfl) rfl (by kernel_rfl) (by kernel_rfl) (by kernel_rfl) (EStep.le (EStep.ofN2 tbok (σ' := ⟨53, [(40, vi s5.1), (0, .own 1000000), (1, vi aA), (2, vi aB), (3, .clo 72 []), (8, vi s1.1), (9, vi s5.1), (37, .own 1000000), (38, vi s5.1), (39, .own 1000000)], [(1000000, oa 29 3 eAnswer s5.2)]⟩) (by kernel_rfl)) Le.sub0) (by kernel_rfl) d4
  refine DE.share (fuel := 16) (L := #[true, true, false, false, false, false, false, false, false, false, false, false, false, false, false, false, false, false]) (σ := ⟨53, [(0, .own 1000000), (1, vi aA), (2, vi aB), (3, .clo 72 []), (8, vi s1.1), (9, vi s5.1), (37, .own 1000000), (38, vi s5.1)], [(1000000, oa 29 3 eAnswer s5.2)]⟩) ?_ (fun d2 => ?_)
  exact DE.take (i := 2) (L' := #[true, true, true, false, false, false, false, false, false, false, false, false, false, false, false, false, false, false]) rfl (.inl rfl) rfl (by kernel_rfl) (by kernel_rfl) (by kernel_rfl) (EStep.le (EStep.ofN2 tbok (σ' := ⟨53, [(39, .own 1000000), (0, .own 1000000), (1, vi aA), (2, vi aB), (3, .clo 72 []), (8, vi s1.1), (9, vi s5.1), (37, .own 1000000), (38, vi s5.1)], [(1000000, oa 29 3 eAnswer s5.2)]⟩) (by kernel_rfl)) Le.sub0) (by kernel_rfl) d3
  refine DE.share (fuel := 17) (L := #[true, false, false, false, false, false, false, false, false, false, false, false, false, false, false, false, false, false]) (σ := ⟨53, [(0, .own 1000000), (1, vi aA), (2, vi aB), (3, .clo 72 []), (8, vi s1.1), (9, vi s5.1), (37, .own 1000000)], [(1000000, oa 29 3 eAnswer s5.2)]⟩) ?_ (fun d1 => ?_)
  exact DE.take (i := 1) (L' := #[true, true, false, false, false, false, false, false, false, false, false, false, false, false, false, false, false, false]) rfl (.inl rfl) rfl (by kernel_rfl) (by kernel_rfl) (by kernel_rfl) (EStep.le (EStep.ofN2 tbok (σ' := ⟨53, [(38, vi s5.1), (0, .own 1000000), (1, vi aA), (2, vi aB), (3, .clo 72 []), (8, vi s1.1), (9, vi s5.1), (37, .own 1000000)], [(1000000, oa 29 3 eAnswer s5.2)]⟩) (by kernel_rfl)) Le.sub0) (by kernel_rfl) d2
  exact DE.take (i := 0) (L' := #[true, false, false, false, false, false, false, false, false, false, false, false, false, false, false, false, false, false]) rfl (.inl rfl) rfl (by kernel_rfl) (by kernel_rfl) (by kernel_rfl) (EStep.le (EStep.ofN2 tbok (σ' := ⟨53, [(37, .own 1000000), (0, .own 1000000), (1, vi aA), (2, vi aB), (3, .clo 72 []), (8, vi s1.1), (9, vi s5.1), (34, vb j10)], [(1000000, oa 29 3 eAnswer s5.2)]⟩) (by kernel_rfl)) Le.sub0) (by kernel_rfl) d1
  obtain rfl := inj h
  exact q_bn (q_j (Le.sub0))
  refine swp_reg ?_
  refine SRun.ck tbok 3 ⟨53, [(0, .own 1000000), (1, vi aA), (2, vi aB), (3, .clo 72 []), (8, vi s1.1), (9, vi (w64 (s5.1 - 1)))], [(1000000, oa 29 3 eAnswer j12)]⟩ ?_
  refine SRun.nil ?_
  obtain rfl := inj h
  exact q_l (Le.sub0)
  refine swp_exit ?_
  obtain rfl := inj h
  exact nx_e (q_re (q_bh (q_bn (q_j (Le.sub0)))))
  refine swp_reg ?_
  refine SRun.ck tbok 3 ⟨53, [(0, .own 1000000), (1, vi aA), (2, vi aB), (3, .clo 72 []), (8, vi (w64 (s1.1 + 1)))], [(1000000, oa 29 3 eAnswer j3)]⟩ ?_
  refine SRun.nil ?_
  obtain rfl := inj h
  exact q_l (Le.sub0)
  refine swp_exit ?_
  obtain rfl := inj h
  exact nx_e (q_re (q_bh (q_fn (fin_io (fin0 (by kernel_rfl)) (y := oa 29 3 eAnswer s1.2) (by kernel_rfl) rfl (by kernel_rfl) (by kernel_rfl)))))
theorem ents120 : Ents Tryz.prog 120 := ents_of Tryz.func120 (by kernel_rfl) rfl
noncomputable def slices_pdqsortCmpFunc_Answer_impl_question_answers_1 (aData : (List Answer)) (aA : Int) (aB : Int) (aLimit : Int) : Option ((List Answer)) :=
  (loop (fun (s1 : Int × Int × Int × Bool × Bool × (List Answer)) => (bif (decide ((w64 (s1.2.1 - s1.1)) ≤ 12)) then ((slices_insertionSortCmpFunc_Answer_impl_question_answers_1 s1.2.2.2.2.2 s1.1 s1.2.1).bind fun x3 => some (.inr x3)) else (bif (s1.2.2.1 == 0) then none else (((bif (!s1.2.2.2.1) then none else some s1.2.2.1)).bind fun (_ : Int) => none)))) (aA, aB, aLimit, true, true, aData))
theorem slices_pdqsortCmpFunc_Answer_impl_question_answers_1_run (aData : (List Answer)) (aA : Int) (aB : Int) (aLimit : Int) (r : (List Answer)) (h : slices_pdqsortCmpFunc_Answer_impl_question_answers_1 aData aA aB aLimit = some r) : SCall Tryz.prog 97 [.o (oa 29 3 eAnswer aData), .v (vi aA), .v (vi aB), .v (vi aLimit), .v (.clo 72 [])] ⟨[], [(0, oa 29 3 eAnswer r)], false⟩ := by
  refine scall_in Tryz.func97 rfl [] rfl (fun r => ⟨[], [(0, oa 29 3 eAnswer r)], false⟩) (r := r) ?_
  unfold slices_pdqsortCmpFunc_Answer_impl_question_answers_1 at h
  refine srk tbok ⟨148, [(0, .own 1000000), (1, vi aA), (2, vi aB), (3, vi aLimit), (4, .clo 72 []), (10, vb true)], [(1000000, oa 29 3 eAnswer aData)]⟩ ?_
  refine srk tbok ⟨148, [(0, .own 1000000), (1, vi aA), (2, vi aB), (3, vi aLimit), (4, .clo 72 []), (10, vb true), (11, vb true)], [(1000000, oa 29 3 eAnswer aData)]⟩ ?_
  refine swp_blk (a := r) ?_
  refine swp_lpL (r := r) (s := (aA, aB, aLimit, true, true, aData)) _ (fun s1 => ⟨148, [(0, .own 1000000), (1, vi s1.1), (2, vi s1.2.1), (3, vi s1.2.2.1), (4, .clo 72 []), (10, vb s1.2.2.2.1), (11, vb s1.2.2.2.2.1)], [(1000000, oa 29 3 eAnswer s1.2.2.2.2.2)]⟩) _ (Le.sub0) h (fun s1 v2 h => ?_)
  refine swp_blk (a := v2) ?_
  refine srk tbok ⟨148, [(0, .own 1000000), (1, vi s1.1), (2, vi s1.2.1), (3, vi s1.2.2.1), (4, .clo 72 []), (10, vb s1.2.2.2.1), (11, vb s1.2.2.2.2.1), (12, vi (w64 (s1.2.1 - s1.1)))], [(1000000, oa 29 3 eAnswer s1.2.2.2.2.2)]⟩ ?_
  refine swp_seq ?_
  refine srk tbok ⟨148, [(0, .own 1000000), (1, vi s1.1), (2, vi s1.2.1), (3, vi s1.2.2.1), (4, .clo 72 []), (10, vb s1.2.2.2.1), (11, vb s1.2.2.2.2.1), (12, vi (w64 (s1.2.1 - s1.1))), (25, vb (decide ((w64 (s1.2.1 - s1.1)) ≤ 12)))], [(1000000, oa 29 3 eAnswer s1.2.2.2.2.2)]⟩ ?_
  refine swp_cd h (fun h => ?_) fun h => ?_
  refine sr ?_
  refine SRun.ck tbok 4 ⟨148, [(26, .own 1000000), (27, vi s1.1), (28, vi s1.2.1), (29, .clo 72 [])], [(1000000, oa 29 3 eAnswer s1.2.2.2.2.2)]⟩ ?_
  obtain ⟨x3, hx3, h⟩ := bind_some h
  refine SRun.estep (xe ents120 (slices_insertionSortCmpFunc_Answer_impl_question_answers_1_run s1.2.2.2.2.2 s1.1 s1.2.1 _ hx3)) ?_
  refine SRun.nx ?_
  refine swp_ret ?_
  obtain rfl := inj h
  exact nx_r (q_br (q_rr (q_br (q_fr (fin_io (fin0 (by kernel_rfl)) (y := oa 29 3 eAnswer x3) (by kernel_rfl) rfl (by kernel_rfl) (by kernel_rfl))))))
  refine swp_skip ?_
  refine nx_n ?_
  refine swp_seq ?_
  refine srk tbok ⟨148, [(0, .own 1000000), (1, vi s1.1), (2, vi s1.2.1), (3, vi s1.2.2.1), (4, .clo 72 []), (10, vb s1.2.2.2.1), (11, vb s1.2.2.2.2.1), (12, vi (w64 (s1.2.1 - s1.1))), (32, vb (s1.2.2.1 == 0))], [(1000000, oa 29 3 eAnswer s1.2.2.2.2.2)]⟩ ?_
  refine swp_cd h (fun h => ?_) fun h => ?_
  refine swp_seq ?_
  cases h
  refine swp_skip ?_
  refine nx_n ?_
  refine swp_seq ?_
  refine srk tbok ⟨148, [(0, .own 1000000), (1, vi s1.1), (2, vi s1.2.1), (3, vi s1.2.2.1), (4, .clo 72 []), (10, vb s1.2.2.2.1), (11, vb s1.2.2.2.2.1), (12, vi (w64 (s1.2.1 - s1.1))), (39, vb (!s1.2.2.2.1))], [(1000000, oa 29 3 eAnswer s1.2.2.2.2.2)]⟩ ?_
  refine swp_seqJ h (fun j4 => ⟨148, [(0, .own 1000000), (1, vi s1.1), (2, vi s1.2.1), (3, vi j4), (4, .clo 72 []), (10, vb s1.2.2.2.1), (11, vb s1.2.2.2.2.1), (12, vi (w64 (s1.2.1 - s1.1)))], [(1000000, oa 29 3 eAnswer s1.2.2.2.2.2)]⟩) (fun v5 h => ?_) (fun j4 h => ?_)
  refine swp_cd h (fun h => ?_) fun h => ?_
  refine swp_seq ?_
  cases h
  refine swp_skip ?_
  obtain rfl := inj h
  exact q_j (Le.sub0)
  refine swp_seq ?_
  cases h
theorem ents97 : Ents Tryz.prog 97 := ents_of Tryz.func97 (by kernel_rfl) rfl
noncomputable def slices_SortFunc_Answer_impl_question_answers_1 (aX : (List Answer)) : Option ((List Answer)) :=
  ((bits_Len (IntKind.wrap .u64 (aX.length : Int))).bind fun x1 => ((slices_pdqsortCmpFunc_Answer_impl_question_answers_1 aX 0 (aX.length : Int) x1).bind fun x2 => some x2))
theorem slices_SortFunc_Answer_impl_question_answers_1_run (aX : (List Answer)) (r : (List Answer)) (h : slices_SortFunc_Answer_impl_question_answers_1 aX = some r) : SCall Tryz.prog 71 [.o (oa 29 3 eAnswer aX), .v (.clo 72 [])] ⟨[], [(0, oa 29 3 eAnswer r)], false⟩ := by
  refine scall_in Tryz.func71 rfl [] rfl (fun r => ⟨[], [(0, oa 29 3 eAnswer r)], false⟩) (r := r) ?_
  unfold slices_SortFunc_Answer_impl_question_answers_1 at h
  refine srk tbok ⟨14, [(0, .own 1000000), (1, .clo 72 []), (4, vi (aX.length : Int))], [(1000000, oa 29 3 eAnswer aX)]⟩ ?_
  refine swp_reg ?_
  refine SRun.ck tbok 4 ⟨14, [(1, .clo 72 []), (7, .own 1000000), (8, vi (aX.length : Int)), (10, .tr (.int .u64 (IntKind.wrap .u64 (aX.length : Int))))], [(1000000, oa 29 3 eAnswer aX)]⟩ ?_
  obtain ⟨x1, hx1, h⟩ := bind_some h
  refine SRun.ls (xc ents98 (bits_Len_run (IntKind.wrap .u64 (aX.length : Int)) _ hx1)) ?_
  refine SRun.ck tbok 1 ⟨14, [(7, .own 1000000), (8, vi (aX.length : Int)), (11, vi x1), (12, .clo 72 [])], [(1000000, oa 29 3 eAnswer aX)]⟩ ?_
  obtain ⟨x2, hx2, h⟩ := bind_some h
  refine SRun.estep (xe ents97 (slices_pdqsortCmpFunc_Answer_impl_question_answers_1_run aX 0 (aX.length : Int) x1 _ hx2)) ?_
  refine SRun.nil ?_
  obtain rfl := inj h
  exact q_fn (fin_io (fin0 (by kernel_rfl)) (y := oa 29 3 eAnswer x2) (by kernel_rfl) rfl (by kernel_rfl) (by kernel_rfl))
theorem ents71 : Ents Tryz.prog 71 := ents_of Tryz.func71 (by kernel_rfl) rfl
noncomputable def impl_question_answers (aQ : question) (aList : (List Candidate)) : Option ((List Answer)) :=
  (((forS (aList.length : Int) (fun (i3 : Int) (s3 : (List Answer)) => ((at' aList i3).bind fun x7 => ((impl_question_answer aQ x7).bind fun x8 => ((app' s3 ([x8] : List Answer)).bind fun x9 => some x9)))) (fun (s3 : (List Answer)) => s3) 0 ([] : List Answer))).bind fun (j1 : (List Answer)) => ((slices_SortFunc_Answer_impl_question_answers_1 j1).bind fun x10 => some x10))
theorem impl_question_answers_run (aQ : question) (aList : (List Candidate)) (r : (List Answer)) (h : impl_question_answers aQ aList = some r) : SCall Tryz.prog 51 [.v (.agg (tc equestion aQ)), .v (vl eCandidate aList)] ⟨[.own 29 3 r.length (r.map eAnswer)], [], false⟩ := by
  refine scall_in Tryz.func51 rfl [(.tmp 4)] rfl (fun r => ⟨[.own 29 3 r.length (r.map eAnswer)], [], false⟩) (r := r) ?_
  unfold impl_question_answers at h
  refine srk tbok ⟨24, [(1, vl eCandidate aList), (2, .ref 2 0)], [(2, .box (tc equestion aQ))]⟩ ?_
  refine srk tbok ⟨24, [(1, vl eCandidate aList), (2, .ref 2 0), (5, .own 5)], [(2, .box (tc equestion aQ)), (5, oa 29 3 eAnswer ([] : List Answer))]⟩ ?_
  refine swp_seq ?_
  refine srk tbok ⟨24, [(2, .ref 2 0), (5, .own 5), (8, vl eCandidate aList), (9, vi (aList.length : Int)), (10, vi 0)], [(2, .box (tc equestion aQ)), (5, oa 29 3 eAnswer ([] : List Answer))]⟩ ?_
  refine swp_seqJ h (fun j1 => ⟨24, [(5, .own 5)], [(5, oa 29 3 eAnswer j1)]⟩) (fun v2 h => ?_) (fun j1 h => ?_)
  refine swp_blk (a := v2) ?_
  refine swp_lpL (r := v2) (s := (0, ([] : List Answer))) _ (fun s3 => ⟨24, [(2, .ref 2 0), (5, .own 5), (8, vl eCandidate aList), (9, vi (aList.length : Int)), (10, vi s3.1)], [(2, .box (tc equestion aQ)), (5, oa 29 3 eAnswer s3.2)]⟩) _ (Le.sub0) h (fun s3 v4 h => ?_)
  refine srk tbok ⟨24, [(2, .ref 2 0), (5, .own 5), (8, vl eCandidate aList), (9, vi (aList.length : Int)), (10, vi s3.1), (11, vb (decide (s3.1 < (aList.length : Int))))], [(2, .box (tc equestion aQ)), (5, oa 29 3 eAnswer s3.2)]⟩ ?_
  refine swp_seq ?_
  refine swp_cd h (fun h => ?_) fun h => ?_
  refine swp_skip ?_
  refine nx_n ?_
  refine swp_seq ?_
  refine swp_seqJ h (fun j5 => ⟨24, [(2, .ref 2 0), (5, .own 5), (8, vl eCandidate aList), (9, vi (aList.length : Int)), (10, vi s3.1)], [(2, .box (tc equestion aQ)), (5, oa 29 3 eAnswer j5)]⟩) (fun v6 h => ?_) (fun j5 h => ?_)
  refine swp_blk (a := v6) ?_
  refine sr ?_
  obtain ⟨x7, hx7, h⟩ := bind_some h
  refine SRun.ls (x_index (L := aList) (f := eCandidate) (ti := ti32) (tj := ti74) (e := 74) (k := .i64) tbok rfl hx7) ?_
  refine ckn tbok 3 ⟨24, [(2, .ref 2 0), (5, .own 5), (7, .ref 7 0), (8, vl eCandidate aList), (9, vi (aList.length : Int)), (10, vi s3.1)], [(2, .box (tc equestion aQ)), (5, oa 29 3 eAnswer s3.2), (7, .box (tc eCandidate x7))]⟩ ?_
  refine swp_reg ?_
  refine SRun.ck tbok 3 ⟨24, [(2, .ref 2 0), (8, vl eCandidate aList), (9, vi (aList.length : Int)), (10, vi s3.1), (14, .own 5), (15, .agg (tc equestion aQ)), (16, .agg (tc eCandidate x7))], [(2, .box (tc equestion aQ)), (5, oa 29 3 eAnswer s3.2)]⟩ ?_
  obtain ⟨x8, hx8, h⟩ := bind_some h
  refine SRun.ls (xc ents45 (impl_question_answer_run aQ x7 _ hx8)) ?_
  refine SRun.ck tbok 1 ⟨24, [(2, .ref 2 0), (8, vl eCandidate aList), (9, vi (aList.length : Int)), (10, vi s3.1), (14, .own 5), (18, .own 18)], [(2, .box (tc equestion aQ)), (5, oa 29 3 eAnswer s3.2), (18, oa 29 3 eAnswer ([x8] : List Answer))]⟩ ?_
  obtain ⟨x9, hx9, h⟩ := bind_some h
  refine SRun.estep (x_append (f := eAnswer) (t := 43) (ti := ti43) (tj := ti29) (zs := [.string (ByteArray.mk #[]), .int .i64 0, .int .i64 0]) (e := 29) (m := 3) (d := 5) (xv := .own 18) hx9 tbok rfl rfl rfl rfl (x_src_o (e := 29))) ?_
  refine SRun.ck tbok 1 ⟨24, [(2, .ref 2 0), (5, .own 19), (8, vl eCandidate aList), (9, vi (aList.length : Int)), (10, vi s3.1)], [(2, .box (tc equestion aQ)), (19, oa 29 3 eAnswer x9)]⟩ ?_
  refine SRun.nil ?_
  obtain rfl := inj h
  exact q_bn (q_j ((Le.sub' ([(2, .ref 2 0), (5, .own 19), (8, vl eCandidate aList), (9, vi (aList.length : Int)), (10, vi s3.1)] : List (Nat × SV)) ([(2, .box (tc equestion aQ)), (19, oa 29 3 eAnswer x9)] : List (Nat × SO)) (by kernel_rfl) (by kernel_rfl)).trans ((Le.ren' (d := 19) (e := 5) (by kernel_rfl) (by kernel_rfl) (by kernel_rfl)).trans (Le.sub0))))
  refine swp_reg ?_
  refine SRun.ck tbok 2 ⟨24, [(2, .ref 2 0), (5, .own 5), (8, vl eCandidate aList), (9, vi (aList.length : Int)), (10, vi (w64 (s3.1 + 1)))], [(2, .box (tc equestion aQ)), (5, oa 29 3 eAnswer j5)]⟩ ?_
  refine SRun.nil ?_
  obtain rfl := inj h
  exact q_l (Le.sub0)
  refine swp_exit ?_
  obtain rfl := inj h
  exact nx_e (q_re (q_bh (q_j (Le.sub0))))
  refine sr ?_
  refine SRun.ck tbok 1 ⟨24, [(5, .own 5), (21, .own 5)], [(5, oa 29 3 eAnswer j1)]⟩ ?_
  obtain ⟨x10, hx10, h⟩ := bind_some h
  refine SRun.estep (xe ents71 (slices_SortFunc_Answer_impl_question_answers_1_run j1 _ hx10)) ?_
  refine SRun.nx ?_
  refine srk tbok ⟨24, [(4, .own 5)], [(5, oa 29 3 eAnswer x10)]⟩ ?_
  refine swp_ret ?_
  obtain rfl := inj h
  exact q_fr (f1 (fo eAnswer_flat))
theorem ents51 : Ents Tryz.prog 51 := ents_of Tryz.func51 (by kernel_rfl) rfl
end Go.Proofs.YtepmfngpdimkhaaGreatDoor.Sh
