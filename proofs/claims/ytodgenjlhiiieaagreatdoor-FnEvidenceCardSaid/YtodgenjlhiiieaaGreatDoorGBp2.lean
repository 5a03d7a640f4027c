/- Typed functions and the calls that do what they say. -/
import Derived.Test.YtodgenjlhiiieaaGreatDoorGBp1
import Derived.Test.YtodgenjlhiiieaaGreatDoorKA
import Derived.Test.YtodgenjlhiiieaaGreatDoorKC
import Derived.Test.YtodgenjlhiiieaaGreatDoorKF
import Derived.Test.YtodgenjlhiiieaaGreatDoorKS
import Derived.Test.YtodgenjlhiiieaaGreatDoorSN
import Derived.Test.YtodgenjlhiiieaaGreatDoorH1
namespace Go.Proofs.YtodgenjlhiiieaaGreatDoor.Sh
open Go.RowKit
set_option maxRecDepth 100000
set_option maxHeartbeats 4000000
noncomputable def slices_insertionSortCmpFunc_Answer_impl_question_answers_1 (aData : (List Answer)) (aA : Int) (aB : Int) : Option ((List Answer)) :=
  (forS aB (fun (i1 : Int) (s1 : (List Answer)) => (loop (fun (s5 : Int × (List Answer)) => (((bif (decide (s5.1 > aA)) then ((at' s5.2 s5.1).bind fun x7 => ((at' s5.2 (w64 (s5.1 - 1))).bind fun x8 => ((impl_question_answers_1 x7 x8).bind fun x9 => some (decide (x9 < 0))))) else some false)).bind fun (j10 : Bool) => (bif j10 then ((((at' s5.2 (w64 (s5.1 - 1))).bind fun x14 => ((at' s5.2 s5.1).bind fun x15 => ((at' s5.2 s5.1).bind fun _ => ((at' (List.set s5.2 (Int.toNat s5.1) x14) (w64 (s5.1 - 1))).bind fun _ => some (List.set (List.set s5.2 (Int.toNat s5.1) x14) (Int.toNat (w64 (s5.1 - 1))) x15)))))).bind fun (j12 : (List Answer)) => some (.inl ((w64 (s5.1 - 1)), j12))) else some (.inr s5.2)))) (i1, s1))) (fun (s1 : (List Answer)) => s1) (w64 (aA + 1)) aData)
theorem slices_insertionSortCmpFunc_Answer_impl_question_answers_1_run (aData : (List Answer)) (aA : Int) (aB : Int) (r : (List Answer)) (h : slices_insertionSortCmpFunc_Answer_impl_question_answers_1 aData aA aB = some r) : SCall Tryz.prog 186 [.o (oa 59 3 eAnswer aData), .v (vi aA), .v (vi aB), .v (.clo 126 [])] ⟨[], [(0, oa 59 3 eAnswer r)], false⟩ := by
  refine scall_in Tryz.func186 rfl [] rfl (fun r => ⟨[], [(0, oa 59 3 eAnswer r)], false⟩) (r := r) ?_
  unfold slices_insertionSortCmpFunc_Answer_impl_question_answers_1 at h
  refine srk tbok ⟨53, [(0, .own 1000000), (1, vi aA), (2, vi aB), (3, .clo 126 []), (8, vi (w64 (aA + 1)))], [(1000000, oa 59 3 eAnswer aData)]⟩ ?_
  refine swp_blk (a := r) ?_
  refine swp_lpL (r := r) (s := ((w64 (aA + 1)), aData)) _ (fun s1 => ⟨53, [(0, .own 1000000), (1, vi aA), (2, vi aB), (3, .clo 126 []), (8, vi s1.1)], [(1000000, oa 59 3 eAnswer s1.2)]⟩) _ (Le.sub0) h (fun s1 v2 h => ?_)
  refine swp_seq ?_
  refine srk tbok ⟨53, [(0, .own 1000000), (1, vi aA), (2, vi aB), (3, .clo 126 []), (8, vi s1.1), (14, vb (decide (s1.1 < aB)))], [(1000000, oa 59 3 eAnswer s1.2)]⟩ ?_
  refine swp_cd h (fun h => ?_) fun h => ?_
  refine swp_skip ?_
  refine nx_n ?_
  refine swp_seq ?_
  refine swp_seqJ h (fun j3 => ⟨53, [(0, .own 1000000), (1, vi aA), (2, vi aB), (3, .clo 126 []), (8, vi s1.1)], [(1000000, oa 59 3 eAnswer j3)]⟩) (fun v4 h => ?_) (fun j3 h => ?_)
  refine swp_blk (a := v4) ?_
  refine srk tbok ⟨53, [(0, .own 1000000), (1, vi aA), (2, vi aB), (3, .clo 126 []), (8, vi s1.1), (9, vi s1.1)], [(1000000, oa 59 3 eAnswer s1.2)]⟩ ?_
  refine swp_blk (a := v4) ?_
  refine swp_lpL (r := v4) (s := (s1.1, s1.2)) _ (fun s5 => ⟨53, [(0, .own 1000000), (1, vi aA), (2, vi aB), (3, .clo 126 []), (8, vi s1.1), (9, vi s5.1)], [(1000000, oa 59 3 eAnswer s5.2)]⟩) _ (Le.sub0) h (fun s5 v6 h => ?_)
  refine swp_seq ?_
  refine swp_seq ?_
  refine swp_drJ mixed h (fun j10 => ⟨53, [(0, .own 1000000), (1, vi aA), (2, vi aB), (3, .clo 126 []), (8, vi s1.1), (9, vi s5.1), (34, vb j10)], [(1000000, oa 59 3 eAnswer s5.2)]⟩) (fun v11 h => ?_) (fun j10 h => ?_)
  refine DGo.ck tbok false 4 ⟨53, [(0, .own 1000000), (1, vi aA), (2, vi aB), (3, .clo 126 []), (8, vi s1.1), (9, vi s5.1), (21, vb (decide (s5.1 > aA)))], [(1000000, oa 59 3 eAnswer s5.2)]⟩ ?_
  refine DGo.cu [(21, fun b => b)] h (fun h => ?_) fun h => ?_
  refine DGo.ck tbok false 3 ⟨53, [(0, .own 1000000), (1, vi aA), (2, vi aB), (3, .clo 126 []), (8, vi s1.1), (9, vi s5.1), (21, vb true), (22, .clo 126 []), (23, .own 1000000), (24, vi s5.1)], [(1000000, oa 59 3 eAnswer s5.2)]⟩ ?_
  obtain ⟨x7, hx7, h⟩ := bind_some h
  refine DGo.step (x_index_own (d := 1000000) (L := s5.2) (f := eAnswer) (ti := ti62) (tj := ti59) (e := 59) (e' := 59) (m := 3) (k := .i64) tbok rfl hx7) ?_
  refine DGo.step (x_load_own (d := 1000000) (m := 3) (j := 0) (L := s5.2) (f := eAnswer) (ti := ti59) (e := 59) (v := .agg (tc eAnswer x7)) tbok rfl hx7) ?_
  refine DGo.ck tbok false 3 ⟨53, [(0, .own 1000000), (1, vi aA), (2, vi aB), (3, .clo 126 []), (8, vi s1.1), (9, vi s5.1), (21, vb true), (22, .clo 126 []), (26, .agg (tc eAnswer x7)), (27, .own 1000000), (29, vi (w64 (s5.1 - 1)))], [(1000000, oa 59 3 eAnswer s5.2)]⟩ ?_
  obtain ⟨x8, hx8, h⟩ := bind_some h
  refine DGo.step (x_index_own (d := 1000000) (L := s5.2) (f := eAnswer) (ti := ti62) (tj := ti59) (e := 59) (e' := 59) (m := 3) (k := .i64) tbok rfl hx8) ?_
  refine DGo.step (x_load_own (d := 1000000) (m := 3) (j := 0) (L := s5.2) (f := eAnswer) (ti := ti59) (e := 59) (v := .agg (tc eAnswer x8)) tbok rfl hx8) ?_
  obtain ⟨x9, hx9, h⟩ := bind_some h
  refine DGo.step (xc ents126 (impl_question_answers_1_run x7 x8 _ hx9)) ?_
  refine DGo.ck tbok false 2 ⟨53, [(0, .own 1000000), (1, vi aA), (2, vi aB), (3, .clo 126 []), (8, vi s1.1), (9, vi s5.1), (34, vb (decide (x9 < 0)))], [(1000000, oa 59 3 eAnswer s5.2)]⟩ ?_
  refine DGo.nil (by kernel_rfl) ?_
  obtain rfl := inj h
  exact Le.sub0
  refine DGo.ck tbok false 13 ⟨53, [(0, .own 1000000), (1, vi aA), (2, vi aB), (3, .clo 126 []), (8, vi s1.1), (9, vi s5.1), (34, vb false)], [(1000000, oa 59 3 eAnswer s5.2)]⟩ ?_
  refine DGo.nil (by kernel_rfl) ?_
  obtain rfl := inj h
  exact Le.sub0
  refine swp_cd h (fun h => ?_) fun h => ?_
  refine swp_skip ?_
  refine nx_n ?_
  refine swp_seq ?_
  refine swp_seqJ h (fun j12 => ⟨53, [(0, .own 1000000), (1, vi aA), (2, vi aB), (3, .clo 126 []), (8, vi s1.1), (9, vi s5.1)], [(1000000, oa 59 3 eAnswer j12)]⟩) (fun v13 h => ?_) (fun j12 h => ?_)
  refine swp_blk (a := v13) ?_
  refine swp_drD [1000000] mixed ?_
  refine DGo.ck tbok false 8 ⟨53, [(0, .own 1000000), (1, vi aA), (2, vi aB), (3, .clo 126 []), (8, vi s1.1), (9, vi s5.1), (37, .own 1000000), (38, vi s5.1), (39, .own 1000000), (41, vi (w64 (s5.1 - 1))), (42, .own 1000000), (44, vi (w64 (s5.1 - 1)))], [(1000000, oa 59 3 eAnswer s5.2)]⟩ ?_
  obtain ⟨x14, hx14, h⟩ := bind_some h
  refine DGo.stepW true [] (x_index_own (d := 1000000) (L := s5.2) (f := eAnswer) (ti := ti62) (tj := ti59) (e := 59) (e' := 59) (m := 3) (k := .i64) tbok rfl hx14) ?_
  refine DGo.stepW true [] (x_load_own (d := 1000000) (m := 3) (j := 0) (L := s5.2) (f := eAnswer) (ti := ti59) (e := 59) (v := .agg (tc eAnswer x14)) tbok rfl hx14) ?_
  refine DGo.ck tbok false 2 ⟨53, [(0, .own 1000000), (1, vi aA), (2, vi aB), (3, .clo 126 []), (8, vi s1.1), (9, vi s5.1), (37, .own 1000000), (38, vi s5.1), (39, .own 1000000), (41, vi (w64 (s5.1 - 1))), (46, .agg (tc eAnswer x14)), (47, .own 1000000), (48, vi s5.1)], [(1000000, oa 59 3 eAnswer s5.2)]⟩ ?_
  obtain ⟨x15, hx15, h⟩ := bind_some h
  refine DGo.stepW true [] (x_index_own (d := 1000000) (L := s5.2) (f := eAnswer) (ti := ti62) (tj := ti59) (e := 59) (e' := 59) (m := 3) (k := .i64) tbok rfl hx15) ?_
  refine DGo.stepW true [] (x_load_own (d := 1000000) (m := 3) (j := 0) (L := s5.2) (f := eAnswer) (ti := ti59) (e := 59) (v := .agg (tc eAnswer x15)) tbok rfl hx15) ?_
  obtain ⟨x16, hx16, h⟩ := bind_some h
  refine DGo.stepW true [] (x_index_own (d := 1000000) (L := s5.2) (f := eAnswer) (ti := ti62) (tj := ti59) (e := 59) (e' := 59) (m := 3) (k := .i64) tbok rfl hx16) ?_
  refine DGo.write [] (x_wstore_own (d := 1000000) (m := 3) (j := 0) (L := s5.2) (f := eAnswer) (x := x14) (z := x16) (ti := ti59) (e := 59) (ts := [.str x14.Code, .int .i64 x14.Distance, .int .i64 x14.Satisfied]) (vs := [vs x14.Code, vi x14.Distance, vi x14.Satisfied]) (v := .agg (tc eAnswer x14)) tbok rfl rfl hx16) ?_
  obtain ⟨x17, hx17, h⟩ := bind_some h
  refine DGo.stepW true [] (x_index_own (d := 1000000) (L := (List.set s5.2 (Int.toNat s5.1) x14)) (f := eAnswer) (ti := ti62) (tj := ti59) (e := 59) (e' := 59) (m := 3) (k := .i64) tbok rfl hx17) ?_
  refine DGo.write [] (x_wstore_own (d := 1000000) (m := 3) (j := 0) (L := (List.set s5.2 (Int.toNat s5.1) x14)) (f := eAnswer) (x := x15) (z := x17) (ti := ti59) (e := 59) (ts := [.str x15.Code, .int .i64 x15.Distance, .int .i64 x15.Satisfied]) (vs := [vs x15.Code, vi x15.Distance, vi x15.Satisfied]) (v := .agg (tc eAnswer x15)) tbok rfl rfl hx17) ?_
  refine DGo.nil (by kernel_rfl) ?_
  obtain rfl := inj h
  exact q_bn (q_j (Le.sub0))
  refine swp_reg ?_
  refine SRun.ck tbok 3 ⟨53, [(0, .own 1000000), (1, vi aA), (2, vi aB), (3, .clo 126 []), (8, vi s1.1), (9, vi (w64 (s5.1 - 1)))], [(1000000, oa 59 3 eAnswer j12)]⟩ ?_
  refine SRun.nil ?_
  obtain rfl := inj h
  exact q_l (Le.sub0)
  refine swp_exit ?_
  obtain rfl := inj h
  exact nx_e (q_re (q_bh (q_bn (q_j (Le.sub0)))))
  refine swp_reg ?_
  refine SRun.ck tbok 3 ⟨53, [(0, .own 1000000), (1, vi aA), (2, vi aB), (3, .clo 126 []), (8, vi (w64 (s1.1 + 1)))], [(1000000, oa 59 3 eAnswer j3)]⟩ ?_
  refine SRun.nil ?_
  obtain rfl := inj h
  exact q_l (Le.sub0)
  refine swp_exit ?_
  obtain rfl := inj h
  exact nx_e (q_re (q_bh (q_fn (fin_io (fin0 (by kernel_rfl)) (y := oa 59 3 eAnswer s1.2) (by kernel_rfl) rfl (by kernel_rfl) (by kernel_rfl)))))
theorem ents186 : Ents Tryz.prog 186 := ents_of Tryz.func186 (by kernel_rfl) rfl
noncomputable def slices_pdqsortCmpFunc_Answer_impl_question_answers_1 (aData : (List Answer)) (aA : Int) (aB : Int) (aLimit : Int) : Option ((List Answer)) :=
  (loop (fun (s1 : Int × Int × Int × Bool × Bool × (List Answer)) => (bif (decide ((w64 (s1.2.1 - s1.1)) ≤ 12)) then ((slices_insertionSortCmpFunc_Answer_impl_question_answers_1 s1.2.2.2.2.2 s1.1 s1.2.1).bind fun x3 => some (.inr x3)) else (bif (s1.2.2.1 == 0) then none else (((bif (!s1.2.2.2.1) then none else some s1.2.2.1)).bind fun (_ : Int) => none)))) (aA, aB, aLimit, true, true, aData))
theorem slices_pdqsortCmpFunc_Answer_impl_question_answers_1_run (aData : (List Answer)) (aA : Int) (aB : Int) (aLimit : Int) (r : (List Answer)) (h : slices_pdqsortCmpFunc_Answer_impl_question_answers_1 aData aA aB aLimit = some r) : SCall Tryz.prog 160 [.o (oa 59 3 eAnswer aData), .v (vi aA), .v (vi aB), .v (vi aLimit), .v (.clo 126 [])] ⟨[], [(0, oa 59 3 eAnswer r)], false⟩ := by
  refine scall_in Tryz.func160 rfl [] rfl (fun r => ⟨[], [(0, oa 59 3 eAnswer r)], false⟩) (r := r) ?_
  unfold slices_pdqsortCmpFunc_Answer_impl_question_answers_1 at h
  refine srk tbok ⟨148, [(0, .own 1000000), (1, vi aA), (2, vi aB), (3, vi aLimit), (4, .clo 126 []), (10, vb true)], [(1000000, oa 59 3 eAnswer aData)]⟩ ?_
  refine srk tbok ⟨148, [(0, .own 1000000), (1, vi aA), (2, vi aB), (3, vi aLimit), (4, .clo 126 []), (10, vb true), (11, vb true)], [(1000000, oa 59 3 eAnswer aData)]⟩ ?_
  refine swp_blk (a := r) ?_
  refine swp_lpL (r := r) (s := (aA, aB, aLimit, true, true, aData)) _ (fun s1 => ⟨148, [(0, .own 1000000), (1, vi s1.1), (2, vi s1.2.1), (3, vi s1.2.2.1), (4, .clo 126 []), (10, vb s1.2.2.2.1), (11, vb s1.2.2.2.2.1)], [(1000000, oa 59 3 eAnswer s1.2.2.2.2.2)]⟩) _ (Le.sub0) h (fun s1 v2 h => ?_)
  refine swp_blk (a := v2) ?_
  refine srk tbok ⟨148, [(0, .own 1000000), (1, vi s1.1), (2, vi s1.2.1), (3, vi s1.2.2.1), (4, .clo 126 []), (10, vb s1.2.2.2.1), (11, vb s1.2.2.2.2.1), (12, vi (w64 (s1.2.1 - s1.1)))], [(1000000, oa 59 3 eAnswer s1.2.2.2.2.2)]⟩ ?_
  refine swp_seq ?_
  refine srk tbok ⟨148, [(0, .own 1000000), (1, vi s1.1), (2, vi s1.2.1), (3, vi s1.2.2.1), (4, .clo 126 []), (10, vb s1.2.2.2.1), (11, vb s1.2.2.2.2.1), (12, vi (w64 (s1.2.1 - s1.1))), (25, vb (decide ((w64 (s1.2.1 - s1.1)) ≤ 12)))], [(1000000, oa 59 3 eAnswer s1.2.2.2.2.2)]⟩ ?_
  refine swp_cd h (fun h => ?_) fun h => ?_
  refine sr ?_
  refine SRun.ck tbok 4 ⟨148, [(26, .own 1000000), (27, vi s1.1), (28, vi s1.2.1), (29, .clo 126 [])], [(1000000, oa 59 3 eAnswer s1.2.2.2.2.2)]⟩ ?_
  obtain ⟨x3, hx3, h⟩ := bind_some h
  refine SRun.estep (xe ents186 (slices_insertionSortCmpFunc_Answer_impl_question_answers_1_run s1.2.2.2.2.2 s1.1 s1.2.1 _ hx3)) ?_
  refine SRun.nx ?_
  refine swp_ret ?_
  obtain rfl := inj h
  exact nx_r (q_br (q_rr (q_br (q_fr (fin_io (fin0 (by kernel_rfl)) (y := oa 59 3 eAnswer x3) (by kernel_rfl) rfl (by kernel_rfl) (by kernel_rfl))))))
  refine swp_skip ?_
  refine nx_n ?_
  refine swp_seq ?_
  refine srk tbok ⟨148, [(0, .own 1000000), (1, vi s1.1), (2, vi s1.2.1), (3, vi s1.2.2.1), (4, .clo 126 []), (10, vb s1.2.2.2.1), (11, vb s1.2.2.2.2.1), (12, vi (w64 (s1.2.1 - s1.1))), (32, vb (s1.2.2.1 == 0))], [(1000000, oa 59 3 eAnswer s1.2.2.2.2.2)]⟩ ?_
  refine swp_cd h (fun h => ?_) fun h => ?_
  refine swp_seq ?_
  cases h
  refine swp_skip ?_
  refine nx_n ?_
  refine swp_seq ?_
  refine srk tbok ⟨148, [(0, .own 1000000), (1, vi s1.1), (2, vi s1.2.1), (3, vi s1.2.2.1), (4, .clo 126 []), (10, vb s1.2.2.2.1), (11, vb s1.2.2.2.2.1), (12, vi (w64 (s1.2.1 - s1.1))), (39, vb (!s1.2.2.2.1))], [(1000000, oa 59 3 eAnswer s1.2.2.2.2.2)]⟩ ?_
  refine swp_seqJ h (fun j4 => ⟨148, [(0, .own 1000000), (1, vi s1.1), (2, vi s1.2.1), (3, vi j4), (4, .clo 126 []), (10, vb s1.2.2.2.1), (11, vb s1.2.2.2.2.1), (12, vi (w64 (s1.2.1 - s1.1)))], [(1000000, oa 59 3 eAnswer s1.2.2.2.2.2)]⟩) (fun v5 h => ?_) (fun j4 h => ?_)
  refine swp_cd h (fun h => ?_) fun h => ?_
  refine swp_seq ?_
  cases h
  refine swp_skip ?_
  obtain rfl := inj h
  exact q_j (Le.sub0)
  refine swp_seq ?_
  cases h
theorem ents160 : Ents Tryz.prog 160 := ents_of Tryz.func160 (by kernel_rfl) rfl
noncomputable def slices_SortFunc_Answer_impl_question_answers_1 (aX : (List Answer)) : Option ((List Answer)) :=
  ((bits_Len (IntKind.wrap .u64 (aX.length : Int))).bind fun x1 => ((slices_pdqsortCmpFunc_Answer_impl_question_answers_1 aX 0 (aX.length : Int) x1).bind fun x2 => some x2))
theorem slices_SortFunc_Answer_impl_question_answers_1_run (aX : (List Answer)) (r : (List Answer)) (h : slices_SortFunc_Answer_impl_question_answers_1 aX = some r) : SCall Tryz.prog 125 [.o (oa 59 3 eAnswer aX), .v (.clo 126 [])] ⟨[], [(0, oa 59 3 eAnswer r)], false⟩ := by
  refine scall_in Tryz.func125 rfl [] rfl (fun r => ⟨[], [(0, oa 59 3 eAnswer r)], false⟩) (r := r) ?_
  unfold slices_SortFunc_Answer_impl_question_answers_1 at h
  refine srk tbok ⟨14, [(0, .own 1000000), (1, .clo 126 []), (4, vi (aX.length : Int))], [(1000000, oa 59 3 eAnswer aX)]⟩ ?_
  refine swp_reg ?_
  refine SRun.ck tbok 4 ⟨14, [(1, .clo 126 []), (7, .own 1000000), (8, vi (aX.length : Int)), (10, .tr (.int .u64 (IntKind.wrap .u64 (aX.length : Int))))], [(1000000, oa 59 3 eAnswer aX)]⟩ ?_
  obtain ⟨x1, hx1, h⟩ := bind_some h
  refine SRun.ls (xc ents152 (bits_Len_run (IntKind.wrap .u64 (aX.length : Int)) _ hx1)) ?_
  refine SRun.ck tbok 1 ⟨14, [(7, .own 1000000), (8, vi (aX.length : Int)), (11, vi x1), (12, .clo 126 [])], [(1000000, oa 59 3 eAnswer aX)]⟩ ?_
  obtain ⟨x2, hx2, h⟩ := bind_some h
  refine SRun.estep (xe ents160 (slices_pdqsortCmpFunc_Answer_impl_question_answers_1_run aX 0 (aX.length : Int) x1 _ hx2)) ?_
  refine SRun.nil ?_
  obtain rfl := inj h
  exact q_fn (fin_io (fin0 (by kernel_rfl)) (y := oa 59 3 eAnswer x2) (by kernel_rfl) rfl (by kernel_rfl) (by kernel_rfl))
theorem ents125 : Ents Tryz.prog 125 := ents_of Tryz.func125 (by kernel_rfl) rfl
noncomputable def impl_question_answers (aQ : question) (aList : (List Candidate)) : Option ((List Answer)) :=
  (((forS (aList.length : Int) (fun (i3 : Int) (s3 : (List Answer)) => ((at' aList i3).bind fun x7 => ((impl_question_answer aQ x7).bind fun x8 => ((app' s3 ([x8] : List Answer)).bind fun x9 => some x9)))) (fun (s3 : (List Answer)) => s3) 0 ([] : List Answer))).bind fun (j1 : (List Answer)) => ((slices_SortFunc_Answer_impl_question_answers_1 j1).bind fun x10 => some x10))
theorem impl_question_answers_run (aQ : question) (aList : (List Candidate)) (r : (List Answer)) (h : impl_question_answers aQ aList = some r) : SCall Tryz.prog 80 [.v (.agg (tc equestion aQ)), .v (vl eCandidate aList)] ⟨[.own 59 3 r.length (r.map eAnswer)], [], false⟩ := by
  refine scall_in Tryz.func80 rfl [(.tmp 4)] rfl (fun r => ⟨[.own 59 3 r.length (r.map eAnswer)], [], false⟩) (r := r) ?_
  unfold impl_question_answers at h
  refine srk tbok ⟨24, [(1, vl eCandidate aList), (2, .ref 2 0)], [(2, .box (tc equestion aQ))]⟩ ?_
  refine srk tbok ⟨24, [(1, vl eCandidate aList), (2, .ref 2 0), (5, .own 5)], [(2, .box (tc equestion aQ)), (5, oa 59 3 eAnswer ([] : List Answer))]⟩ ?_
  refine swp_seq ?_
  refine srk tbok ⟨24, [(2, .ref 2 0), (5, .own 5), (8, vl eCandidate aList), (9, vi (aList.length : Int)), (10, vi 0)], [(2, .box (tc equestion aQ)), (5, oa 59 3 eAnswer ([] : List Answer))]⟩ ?_
  refine swp_seqJ h (fun j1 => ⟨24, [(5, .own 5)], [(5, oa 59 3 eAnswer j1)]⟩) (fun v2 h => ?_) (fun j1 h => ?_)
  refine swp_blk (a := v2) ?_
  refine swp_lpL (r := v2) (s := (0, ([] : List Answer))) _ (fun s3 => ⟨24, [(2, .ref 2 0), (5, .own 5), (8, vl eCandidate aList), (9, vi (aList.length : Int)), (10, vi s3.1)], [(2, .box (tc equestion aQ)), (5, oa 59 3 eAnswer s3.2)]⟩) _ (Le.sub0) h (fun s3 v4 h => ?_)
  refine srk tbok ⟨24, [(2, .ref 2 0), (5, .own 5), (8, vl eCandidate aList), (9, vi (aList.length : Int)), (10, vi s3.1), (11, vb (decide (s3.1 < (aList.length : Int))))], [(2, .box (tc equestion aQ)), (5, oa 59 3 eAnswer s3.2)]⟩ ?_
  refine swp_seq ?_
  refine swp_cd h (fun h => ?_) fun h => ?_
  refine swp_skip ?_
  refine nx_n ?_
  refine swp_seq ?_
  refine swp_seqJ h (fun j5 => ⟨24, [(2, .ref 2 0), (5, .own 5), (8, vl eCandidate aList), (9, vi (aList.length : Int)), (10, vi s3.1)], [(2, .box (tc equestion aQ)), (5, oa 59 3 eAnswer j5)]⟩) (fun v6 h => ?_) (fun j5 h => ?_)
  refine swp_blk (a := v6) ?_
  refine sr ?_
  obtain ⟨x7, hx7, h⟩ := bind_some h
  refine SRun.ls (x_index (L := aList) (f := eCandidate) (ti := ti31) (tj := ti87) (e := 87) (k := .i64) tbok rfl hx7) ?_
  refine ckn tbok 3 ⟨24, [(2, .ref 2 0), (5, .own 5), (7, .ref 7 0), (8, vl eCandidate aList), (9, vi (aList.length : Int)), (10, vi s3.1)], [(2, .box (tc equestion aQ)), (5, oa 59 3 eAnswer s3.2), (7, .box (tc eCandidate x7))]⟩ ?_
  refine swp_reg ?_
  refine SRun.ck tbok 3 ⟨24, [(2, .ref 2 0), (8, vl eCandidate aList), (9, vi (aList.length : Int)), (10, vi s3.1), (14, .own 5), (15, .agg (tc equestion aQ)), (16, .agg (tc eCandidate x7))], [(2, .box (tc equestion aQ)), (5, oa 59 3 eAnswer s3.2)]⟩ ?_
  obtain ⟨x8, hx8, h⟩ := bind_some h
  refine SRun.ls (xc ents83 (impl_question_answer_run aQ x7 _ hx8)) ?_
  refine SRun.ck tbok 1 ⟨24, [(2, .ref 2 0), (8, vl eCandidate aList), (9, vi (aList.length : Int)), (10, vi s3.1), (14, .own 5), (18, .own 18)], [(2, .box (tc equestion aQ)), (5, oa 59 3 eAnswer s3.2), (18, oa 59 3 eAnswer ([x8] : List Answer))]⟩ ?_
  obtain ⟨x9, hx9, h⟩ := bind_some h
  refine SRun.estep (x_append (f := eAnswer) (t := 62) (ti := ti62) (tj := ti59) (zs := [.string (ByteArray.mk #[]), .int .i64 0, .int .i64 0]) (e := 59) (m := 3) (d := 5) (xv := .own 18) hx9 tbok rfl rfl rfl rfl (x_src_o (e := 59))) ?_
  refine SRun.ck tbok 1 ⟨24, [(2, .ref 2 0), (5, .own 19), (8, vl eCandidate aList), (9, vi (aList.length : Int)), (10, vi s3.1)], [(2, .box (tc equestion aQ)), (19, oa 59 3 eAnswer x9)]⟩ ?_
  refine SRun.nil ?_
  obtain rfl := inj h
  exact q_bn (q_j ((Le.sub' ([(2, .ref 2 0), (5, .own 19), (8, vl eCandidate aList), (9, vi (aList.length : Int)), (10, vi s3.1)] : List (Nat × SV)) ([(2, .box (tc equestion aQ)), (19, oa 59 3 eAnswer x9)] : List (Nat × SO)) (by kernel_rfl) (by kernel_rfl)).trans ((Le.ren' (d := 19) (e := 5) (by kernel_rfl) (by kernel_rfl) (by kernel_rfl)).trans (Le.sub0))))
  refine swp_reg ?_
  refine SRun.ck tbok 2 ⟨24, [(2, .ref 2 0), (5, .own 5), (8, vl eCandidate aList), (9, vi (aList.length : Int)), (10, vi (w64 (s3.1 + 1)))], [(2, .box (tc equestion aQ)), (5, oa 59 3 eAnswer j5)]⟩ ?_
  refine SRun.nil ?_
  obtain rfl := inj h
  exact q_l (Le.sub0)
  refine swp_exit ?_
  obtain rfl := inj h
  exact nx_e (q_re (q_bh (q_j (Le.sub0))))
  refine sr ?_
  refine SRun.ck tbok 1 ⟨24, [(5, .own 5), (21, .own 5)], [(5, oa 59 3 eAnswer j1)]⟩ ?_
  obtain ⟨x10, hx10, h⟩ := bind_some h
  refine SRun.estep (xe ents125 (slices_SortFunc_Answer_impl_question_answers_1_run j1 _ hx10)) ?_
  refine SRun.nx ?_
  refine srk tbok ⟨24, [(4, .own 5)], [(5, oa 59 3 eAnswer x10)]⟩ ?_
  refine swp_ret ?_
  obtain rfl := inj h
  exact q_fr (f1 (fo eAnswer_flat))
theorem ents80 : Ents Tryz.prog 80 := ents_of Tryz.func80 (by kernel_rfl) rfl
noncomputable def slices_Concat_Description (aSlices : (List (List Description))) : Option ((List Description)) :=
  (((forS (aSlices.length : Int) (fun (i3 : Int) (s3 : Int) => ((at' aSlices i3).bind fun x7 => (bif (decide ((w64 (s3 + (x7.length : Int))) < 0)) then none else some (w64 (s3 + (x7.length : Int)))))) (fun (s3 : Int) => s3) 0 0)).bind fun (j1 : Int) => ((grow' j1).bind fun _ => (((forS (aSlices.length : Int) (fun (i11 : Int) (s11 : (List Description)) => ((at' aSlices i11).bind fun x15 => ((app' s11 x15).bind fun x16 => some x16))) (fun (s11 : (List Description)) => s11) 0 ([] : List Description))).bind fun (j9 : (List Description)) => some j9)))
theorem slices_Concat_Description_run (aSlices : (List (List Description))) (r : (List Description)) (h : slices_Concat_Description aSlices = some r) : SCall Tryz.prog 81 [.v (vl (eL eDescription) aSlices)] ⟨[.own 84 6 r.length (r.map eDescription)], [], false⟩ := by
  refine scall_in Tryz.func81 rfl [(.tmp 2)] rfl (fun r => ⟨[.own 84 6 r.length (r.map eDescription)], [], false⟩) (r := r) ?_
  unfold slices_Concat_Description at h
  refine srk tbok ⟨36, [(0, vl (eL eDescription) aSlices)], []⟩ ?_
  refine srk tbok ⟨36, [(0, vl (eL eDescription) aSlices), (3, vi 0)], []⟩ ?_
  refine swp_seq ?_
  refine srk tbok ⟨36, [(0, vl (eL eDescription) aSlices), (3, vi 0), (9, vl (eL eDescription) aSlices), (10, vi (aSlices.length : Int)), (11, vi 0)], []⟩ ?_
  refine swp_seqJ h (fun j1 => ⟨36, [(0, vl (eL eDescription) aSlices), (3, vi j1)], []⟩) (fun v2 h => ?_) (fun j1 h => ?_)
  refine swp_blk (a := v2) ?_
  refine swp_lpL (r := v2) (s := (0, 0)) _ (fun s3 => ⟨36, [(0, vl (eL eDescription) aSlices), (3, vi s3.2), (9, vl (eL eDescription) aSlices), (10, vi (aSlices.length : Int)), (11, vi s3.1)], []⟩) _ (Le.sub0) h (fun s3 v4 h => ?_)
  refine srk tbok ⟨36, [(0, vl (eL eDescription) aSlices), (3, vi s3.2), (9, vl (eL eDescription) aSlices), (10, vi (aSlices.length : Int)), (11, vi s3.1), (12, vb (decide (s3.1 < (aSlices.length : Int))))], []⟩ ?_
  refine swp_seq ?_
  refine swp_cd h (fun h => ?_) fun h => ?_
  refine swp_skip ?_
  refine nx_n ?_
  refine swp_seq ?_
  refine swp_seqJ h (fun j5 => ⟨36, [(0, vl (eL eDescription) aSlices), (3, vi j5), (9, vl (eL eDescription) aSlices), (10, vi (aSlices.length : Int)), (11, vi s3.1)], []⟩) (fun v6 h => ?_) (fun j5 h => ?_)
  refine swp_blk (a := v6) ?_
  refine sr ?_
  obtain ⟨x7, hx7, h⟩ := bind_some h
  refine SRun.ls (x_index (L := aSlices) (f := (eL eDescription)) (ti := ti159) (tj := ti35) (e := 35) (k := .i64) tbok rfl hx7) ?_
  refine ckn tbok 2 ⟨36, [(0, vl (eL eDescription) aSlices), (3, vi s3.2), (5, vl eDescription x7), (9, vl (eL eDescription) aSlices), (10, vi (aSlices.length : Int)), (11, vi s3.1)], []⟩ ?_
  refine srk tbok ⟨36, [(0, vl (eL eDescription) aSlices), (3, vi (w64 (s3.2 + (x7.length : Int)))), (9, vl (eL eDescription) aSlices), (10, vi (aSlices.length : Int)), (11, vi s3.1)], []⟩ ?_
  refine srk tbok ⟨36, [(0, vl (eL eDescription) aSlices), (3, vi (w64 (s3.2 + (x7.length : Int)))), (9, vl (eL eDescription) aSlices), (10, vi (aSlices.length : Int)), (11, vi s3.1), (20, vb (decide ((w64 (s3.2 + (x7.length : Int))) < 0)))], []⟩ ?_
  refine swp_cd h (fun h => ?_) fun h => ?_
  refine swp_reg ?_
  exact dead h
  refine swp_skip ?_
  obtain rfl := inj h
  exact q_bn (q_j (Le.sub0))
  refine swp_reg ?_
  refine SRun.ck tbok 2 ⟨36, [(0, vl (eL eDescription) aSlices), (3, vi j5), (9, vl (eL eDescription) aSlices), (10, vi (aSlices.length : Int)), (11, vi (w64 (s3.1 + 1)))], []⟩ ?_
  refine SRun.nil ?_
  obtain rfl := inj h
  exact q_l (Le.sub0)
  refine swp_exit ?_
  obtain rfl := inj h
  exact nx_e (q_re (q_bh (q_j (Le.sub0))))
  refine sr ?_
  refine SRun.ck tbok 1 ⟨36, [(0, vl (eL eDescription) aSlices), (23, vi j1)], []⟩ ?_
  obtain ⟨x8, hx8, h⟩ := bind_some h
  refine SRun.ls (lstep_callV nil0 (f := 130) (caps := []) (xs := [.tr (.sl 0 []), vi j1]) (ys := [.tr (.sl 0 []), vi j1]) (res := ⟨[.own 84 6 ([] : List Description).length (([] : List Description).map eDescription)], [], true⟩) (x := .own 24) (y := some (oa 84 6 eDescription ([] : List Description))) rfl (by kernel_rfl) (by kernel_rfl) (by kernel_rfl) (by kernel_rfl) (by kernel_rfl) ents130 (grow_nil eDescription Tryz.growDescription 130 84 rfl rfl _ _ 6 rfl rfl (by kernel_rfl) (by kernel_rfl) (by kernel_rfl) (by decide) j1 _ hx8 ([] : List Description) rfl) (nil0_of rfl) rfl (fun _ => rfl) (by kernel_rfl)) ?_
  refine ckn tbok 1 ⟨36, [(0, vl (eL eDescription) aSlices), (6, .own 24)], [(24, oa 84 6 eDescription ([] : List Description))]⟩ ?_
  refine swp_seq ?_
  refine srk tbok ⟨36, [(6, .own 24), (25, vl (eL eDescription) aSlices), (26, vi (aSlices.length : Int)), (27, vi 0)], [(24, oa 84 6 eDescription ([] : List Description))]⟩ ?_
  refine swp_seqJ h (fun j9 => ⟨36, [(6, .own 6)], [(6, oa 84 6 eDescription j9)]⟩) (fun v10 h => ?_) (fun j9 h => ?_)
  refine swp_blk (a := v10) ?_
  refine swp_lpL (r := v10) (s := (0, ([] : List Description))) _ (fun s11 => ⟨36, [(6, .own 6), (25, vl (eL eDescription) aSlices), (26, vi (aSlices.length : Int)), (27, vi s11.1)], [(6, oa 84 6 eDescription s11.2)]⟩) _ ((Le.sub' ([(6, .own 24), (25, vl (eL eDescription) aSlices), (26, vi (aSlices.length : Int)), (27, vi 0)] : List (Nat × SV)) ([(24, oa 84 6 eDescription ([] : List Description))] : List (Nat × SO)) (by kernel_rfl) (by kernel_rfl)).trans ((Le.ren' (d := 24) (e := 6) (by kernel_rfl) (by kernel_rfl) (by kernel_rfl)).trans (Le.sub0))) h (fun s11 v12 h => ?_)
  refine srk tbok ⟨36, [(6, .own 6), (25, vl (eL eDescription) aSlices), (26, vi (aSlices.length : Int)), (27, vi s11.1), (28, vb (decide (s11.1 < (aSlices.length : Int))))], [(6, oa 84 6 eDescription s11.2)]⟩ ?_
  refine swp_seq ?_
  refine swp_cd h (fun h => ?_) fun h => ?_
  refine swp_skip ?_
  refine nx_n ?_
  refine swp_seq ?_
  refine swp_seqJ h (fun j13 => ⟨36, [(6, .own 6), (25, vl (eL eDescription) aSlices), (26, vi (aSlices.length : Int)), (27, vi s11.1)], [(6, oa 84 6 eDescription j13)]⟩) (fun v14 h => ?_) (fun j13 h => ?_)
  refine swp_blk (a := v14) ?_
  refine sr ?_
  obtain ⟨x15, hx15, h⟩ := bind_some h
  refine SRun.ls (x_index (L := aSlices) (f := (eL eDescription)) (ti := ti159) (tj := ti35) (e := 35) (k := .i64) tbok rfl hx15) ?_
  refine ckn tbok 2 ⟨36, [(6, .own 6), (8, vl eDescription x15), (25, vl (eL eDescription) aSlices), (26, vi (aSlices.length : Int)), (27, vi s11.1)], [(6, oa 84 6 eDescription s11.2)]⟩ ?_
  refine swp_reg ?_
  refine SRun.ck tbok 2 ⟨36, [(25, vl (eL eDescription) aSlices), (26, vi (aSlices.length : Int)), (27, vi s11.1), (31, .own 6), (32, vl eDescription x15)], [(6, oa 84 6 eDescription s11.2)]⟩ ?_
  obtain ⟨x16, hx16, h⟩ := bind_some h
  refine SRun.estep (x_append (f := eDescription) (t := 35) (ti := ti35) (tj := ti84) (zs := [.int .i64 0, .int .i64 0, .string (ByteArray.mk #[]), .int .i64 0, .string (ByteArray.mk #[]), .string (ByteArray.mk #[])]) (e := 84) (m := 6) (d := 6) (xv := vl eDescription x15) hx16 tbok rfl rfl rfl rfl (src_e (fun _ => rfl))) ?_
  refine SRun.ck tbok 1 ⟨36, [(6, .own 33), (25, vl (eL eDescription) aSlices), (26, vi (aSlices.length : Int)), (27, vi s11.1)], [(33, oa 84 6 eDescription x16)]⟩ ?_
  refine SRun.nil ?_
  obtain rfl := inj h
  exact q_bn (q_j ((Le.sub' ([(6, .own 33), (25, vl (eL eDescription) aSlices), (26, vi (aSlices.length : Int)), (27, vi s11.1)] : List (Nat × SV)) ([(33, oa 84 6 eDescription x16)] : List (Nat × SO)) (by kernel_rfl) (by kernel_rfl)).trans ((Le.ren' (d := 33) (e := 6) (by kernel_rfl) (by kernel_rfl) (by kernel_rfl)).trans (Le.sub0))))
  refine swp_reg ?_
  refine SRun.ck tbok 2 ⟨36, [(6, .own 6), (25, vl (eL eDescription) aSlices), (26, vi (aSlices.length : Int)), (27, vi (w64 (s11.1 + 1)))], [(6, oa 84 6 eDescription j13)]⟩ ?_
  refine SRun.nil ?_
  obtain rfl := inj h
  exact q_l (Le.sub0)
  refine swp_exit ?_
  obtain rfl := inj h
  exact nx_e (q_re (q_bh (q_j (Le.sub0))))
  refine srk tbok ⟨36, [(2, .own 6)], [(6, oa 84 6 eDescription j9)]⟩ ?_
  refine swp_ret ?_
  obtain rfl := inj h
  exact q_fr (f1 (fo eDescription_flat))
theorem ents81 : Ents Tryz.prog 81 := ents_of Tryz.func81 (by kernel_rfl) rfl
noncomputable def impl_LostWithout (aList : (List Candidate)) (aText : ByteArray) (aSites : (List Site)) (aDescriptions : (List Description)) : Option ((List Int) × Int) :=
  ((impl_question_code (question.mk aText aSites aDescriptions) aList).bind fun x1 => (((bif (x1 != 0) then some (.inr (([] : List Int), x1)) else (bif ((aList.length : Int) == 0) then some (.inr (([] : List Int), 4)) else some (.inl ())))).bind (Sum.elim (fun (_ : Unit) => ((impl_question_answers (question.mk aText aSites aDescriptions) aList).bind fun x4 => ((at' x4 0).bind fun x5 => (((forS (aDescriptions.length : Int) (fun (i8 : Int) (s8 : question × (List Int)) => ((part' aDescriptions 0 i8).bind fun x12 => ((part' aDescriptions (w64 (i8 + 1)) (aDescriptions.length : Int)).bind fun x13 => ((slices_Concat_Description ([x12, x13] : List (List Description))).bind fun x14 => ((impl_question_answers (question.mk s8.1.text s8.1.sites x14) aList).bind fun x15 => ((at' x15 0).bind fun x16 => (bif (!(x16.Code.toList == x5.Code.toList)) then ((app' s8.2 ([i8] : List Int)).bind fun x17 => some ((question.mk s8.1.text s8.1.sites x14), x17)) else some ((question.mk s8.1.text s8.1.sites x14), s8.2)))))))) (fun (s8 : question × (List Int)) => s8.2) 0 ((question.mk aText aSites aDescriptions), ([] : List Int)))).bind fun (j6 : (List Int)) => some (j6, 0))))) some)))
theorem impl_LostWithout_run (aList : (List Candidate)) (aText : ByteArray) (aSites : (List Site)) (aDescriptions : (List Description)) (r : (List Int) × Int) (h : impl_LostWithout aList aText aSites aDescriptions = some r) : SCall Tryz.prog 32 [.v (vl eCandidate aList), .v (vs aText), .v (vl eSite aSites), .v (vl eDescription aDescriptions)] ⟨[.own 2 1 r.1.length (r.1.map (eI .i64)), .v (vi r.2)], [], false⟩ := by
  refine scall_in Tryz.func32 rfl [(.tmp 8), (.tmp 9)] rfl (fun r => ⟨[.own 2 1 r.1.length (r.1.map (eI .i64)), .v (vi r.2)], [], false⟩) (r := r) ?_
  unfold impl_LostWithout at h
  refine srk tbok ⟨65, [(0, vl eCandidate aList), (1, vs aText), (2, vl eSite aSites), (3, vl eDescription aDescriptions)], []⟩ ?_
  refine sr ?_
  refine SRun.ck tbok 3 ⟨65, [(0, vl eCandidate aList), (3, vl eDescription aDescriptions), (15, vs aText), (16, vl eSite aSites), (17, vl eDescription aDescriptions)], []⟩ ?_
  refine SRun.ls (x_lstep_build (v := .agg [vs aText, vl eSite aSites, vl eDescription aDescriptions]) tbok rfl) ?_
  refine ckn tbok 2 ⟨65, [(0, vl eCandidate aList), (3, vl eDescription aDescriptions), (10, .ref 10 0)], [(10, .box [vs aText, vl eSite aSites, vl eDescription aDescriptions])]⟩ ?_
  refine sr ?_
  refine SRun.ck tbok 2 ⟨65, [(0, vl eCandidate aList), (3, vl eDescription aDescriptions), (10, .ref 10 0), (19, .agg [vs aText, vl eSite aSites, vl eDescription aDescriptions]), (20, vl eCandidate aList)], [(10, .box [vs aText, vl eSite aSites, vl eDescription aDescriptions])]⟩ ?_
  obtain ⟨x1, hx1, h⟩ := bind_some h
  refine SRun.ls (xc ents79 (impl_question_code_run (question.mk aText aSites aDescriptions) aList _ hx1)) ?_
  refine ckn tbok 1 ⟨65, [(0, vl eCandidate aList), (3, vl eDescription aDescriptions), (10, .ref 10 0), (11, vi x1)], [(10, .box [vs aText, vl eSite aSites, vl eDescription aDescriptions])]⟩ ?_
  refine swp_seq ?_
  refine swp_seqE (r := r) h (fun j2 => ⟨65, [(0, vl eCandidate aList), (3, vl eDescription aDescriptions), (10, .ref 10 0)], [(10, .box [vs aText, vl eSite aSites, vl eDescription aDescriptions])]⟩) (fun v3 h => ?_) (fun j2 h => ?_)
  refine swp_blk (a := v3) ?_
  refine srk tbok ⟨65, [(0, vl eCandidate aList), (3, vl eDescription aDescriptions), (10, .ref 10 0), (11, vi x1), (22, vb (x1 != 0))], [(10, .box [vs aText, vl eSite aSites, vl eDescription aDescriptions])]⟩ ?_
  refine swp_cd h (fun h => ?_) fun h => ?_
  refine srk tbok ⟨65, [(8, .own 8), (9, vi x1)], [(8, oa 2 1 (eI .i64) ([] : List Int))]⟩ ?_
  refine swp_ret ?_
  obtain rfl := inj h
  exact q_br (q_rr (q_fr (f2 (fo (eI_flat .i64)) fv)))
  refine srk tbok ⟨65, [(0, vl eCandidate aList), (3, vl eDescription aDescriptions), (10, .ref 10 0), (26, vb ((aList.length : Int) == 0))], [(10, .box [vs aText, vl eSite aSites, vl eDescription aDescriptions])]⟩ ?_
  refine swp_cd h (fun h => ?_) fun h => ?_
  refine srk tbok ⟨65, [(8, .own 8), (9, vi 4)], [(8, oa 2 1 (eI .i64) ([] : List Int))]⟩ ?_
  refine swp_ret ?_
  obtain rfl := inj h
  exact q_br (q_rr (q_fr (f2 (fo (eI_flat .i64)) fv)))
  refine swp_skip ?_
  obtain rfl := inj h
  exact q_bn (q_l (Le.sub0))
  refine sr ?_
  refine SRun.ck tbok 2 ⟨65, [(0, vl eCandidate aList), (3, vl eDescription aDescriptions), (10, .ref 10 0), (30, .agg [vs aText, vl eSite aSites, vl eDescription aDescriptions]), (31, vl eCandidate aList)], [(10, .box [vs aText, vl eSite aSites, vl eDescription aDescriptions])]⟩ ?_
  obtain ⟨x4, hx4, h⟩ := bind_some h
  refine SRun.ls (xc ents80 (impl_question_answers_run (question.mk aText aSites aDescriptions) aList _ hx4)) ?_
  obtain ⟨x5, hx5, h⟩ := bind_some h
  refine SRun.ls (x_index_own (d := 32) (L := x4) (f := eAnswer) (ti := ti62) (tj := ti59) (e := 59) (e' := 59) (m := 3) (k := .i64) tbok rfl hx5) ?_
  refine SRun.ck tbok 1 ⟨65, [(0, vl eCandidate aList), (3, vl eDescription aDescriptions), (10, .ref 10 0), (34, .eref 32 3 (Int.toNat 0) 0)], [(10, .box [vs aText, vl eSite aSites, vl eDescription aDescriptions]), (32, oa 59 3 eAnswer x4)]⟩ ?_
  refine SRun.ls (x_load_own (d := 32) (m := 3) (j := 0) (L := x4) (f := eAnswer) (ti := ti9) (e := 59) (v := vs x5.Code) tbok rfl hx5) ?_
  refine ckn tbok 1 ⟨65, [(0, vl eCandidate aList), (3, vl eDescription aDescriptions), (10, .ref 10 0), (12, vs x5.Code)], [(10, .box [vs aText, vl eSite aSites, vl eDescription aDescriptions])]⟩ ?_
  refine srk tbok ⟨65, [(0, vl eCandidate aList), (3, vl eDescription aDescriptions), (10, .ref 10 0), (12, vs x5.Code), (13, .own 13)], [(10, .box [vs aText, vl eSite aSites, vl eDescription aDescriptions]), (13, oa 2 1 (eI .i64) ([] : List Int))]⟩ ?_
  refine swp_seq ?_
  refine srk tbok ⟨65, [(0, vl eCandidate aList), (3, vl eDescription aDescriptions), (10, .ref 10 0), (12, vs x5.Code), (13, .own 13), (37, vi (aDescriptions.length : Int)), (38, vi 0)], [(10, .box [vs aText, vl eSite aSites, vl eDescription aDescriptions]), (13, oa 2 1 (eI .i64) ([] : List Int))]⟩ ?_
  refine swp_seqJ h (fun j6 => ⟨65, [(13, .own 13)], [(13, oa 2 1 (eI .i64) j6)]⟩) (fun v7 h => ?_) (fun j6 h => ?_)
  refine swp_blk (a := v7) ?_
  refine swp_lpL (r := v7) (s := (0, (question.mk aText aSites aDescriptions), ([] : List Int))) _ (fun s8 => ⟨65, [(0, vl eCandidate aList), (3, vl eDescription aDescriptions), (10, .ref 10 0), (12, vs x5.Code), (13, .own 13), (37, vi (aDescriptions.length : Int)), (38, vi s8.1)], [(10, .box (tc equestion s8.2.1)), (13, oa 2 1 (eI .i64) s8.2.2)]⟩) _ (Le.sub0) h (fun s8 v9 h => ?_)
  refine srk tbok ⟨65, [(0, vl eCandidate aList), (3, vl eDescription aDescriptions), (10, .ref 10 0), (12, vs x5.Code), (13, .own 13), (37, vi (aDescriptions.length : Int)), (38, vi s8.1), (39, vb (decide (s8.1 < (aDescriptions.length : Int))))], [(10, .box (tc equestion s8.2.1)), (13, oa 2 1 (eI .i64) s8.2.2)]⟩ ?_
  refine swp_seq ?_
  refine swp_cd h (fun h => ?_) fun h => ?_
  refine swp_skip ?_
  refine nx_n ?_
  refine swp_seq ?_
  refine swp_seqJ h (fun j10 => ⟨65, [(0, vl eCandidate aList), (3, vl eDescription aDescriptions), (10, .ref 10 0), (12, vs x5.Code), (13, .own 13), (37, vi (aDescriptions.length : Int)), (38, vi s8.1)], [(10, .box (tc equestion j10.1)), (13, oa 2 1 (eI .i64) j10.2)]⟩) (fun v11 h => ?_) (fun j10 h => ?_)
  refine swp_blk (a := v11) ?_
  refine srk tbok ⟨65, [(0, vl eCandidate aList), (3, vl eDescription aDescriptions), (10, .ref 10 0), (12, vs x5.Code), (13, .own 13), (14, vi s8.1), (37, vi (aDescriptions.length : Int)), (38, vi s8.1)], [(10, .box (tc equestion s8.2.1)), (13, oa 2 1 (eI .i64) s8.2.2)]⟩ ?_
  refine swp_seq ?_
  refine swp_dr mixed ?_
  refine DGo.ck tbok false 2 ⟨65, [(0, vl eCandidate aList), (3, vl eDescription aDescriptions), (10, .ref 10 0), (12, vs x5.Code), (13, .own 13), (14, vi s8.1), (37, vi (aDescriptions.length : Int)), (38, vi s8.1), (41, vl eDescription aDescriptions), (42, vi s8.1)], [(10, .box (tc equestion s8.2.1)), (13, oa 2 1 (eI .i64) s8.2.2)]⟩ ?_
  obtain ⟨x12, hx12, h⟩ := bind_some h
  refine DGo.step (x_slice (m := 6) (f := eDescription) (ti := ti35) (tj := ti84) (e := 84) hx12 (fun _ => rfl) tbok rfl) ?_
  refine DGo.ck tbok false 3 ⟨65, [(0, vl eCandidate aList), (3, vl eDescription aDescriptions), (10, .ref 10 0), (12, vs x5.Code), (13, .own 13), (14, vi s8.1), (37, vi (aDescriptions.length : Int)), (38, vi s8.1), (43, vl eDescription x12), (44, vl eDescription aDescriptions), (46, vi (w64 (s8.1 + 1)))], [(10, .box (tc equestion s8.2.1)), (13, oa 2 1 (eI .i64) s8.2.2)]⟩ ?_
  obtain ⟨x13, hx13, h⟩ := bind_some h
  refine DGo.step (x_slice (m := 6) (f := eDescription) (ti := ti35) (tj := ti84) (e := 84) hx13 (fun _ => rfl) tbok rfl) ?_
  refine DGo.ck tbok false 1 ⟨65, [(0, vl eCandidate aList), (3, vl eDescription aDescriptions), (10, .ref 10 0), (12, vs x5.Code), (13, .own 13), (14, vi s8.1), (37, vi (aDescriptions.length : Int)), (38, vi s8.1), (48, .own 48)], [(10, .box (tc equestion s8.2.1)), (13, oa 2 1 (eI .i64) s8.2.2), (48, oa 35 1 (eL eDescription) ([x12, x13] : List (List Description)))]⟩ ?_
  obtain ⟨x14, hx14, h⟩ := bind_some h
  refine DGo.stepW false [48] (xc ents81 (slices_Concat_Description_run ([x12, x13] : List (List Description)) _ hx14)) ?_
  refine DGo.ck tbok false 1 ⟨65, [(0, vl eCandidate aList), (3, vl eDescription aDescriptions), (10, .ref 10 0), (12, vs x5.Code), (13, .own 13), (14, vi s8.1), (37, vi (aDescriptions.length : Int)), (38, vi s8.1), (49, .own 49), (50, .ref 10 2)], [(10, .box (tc equestion s8.2.1)), (13, oa 2 1 (eI .i64) s8.2.2), (49, oa 84 6 eDescription x14)]⟩ ?_
  refine DGo.seq (by kernel_rfl) (by kernel_rfl) ?_
  refine ckn tbok 1 ⟨65, [(0, vl eCandidate aList), (3, vl eDescription aDescriptions), (10, .ref 10 0), (12, vs x5.Code), (13, .own 13), (14, vi s8.1), (37, vi (aDescriptions.length : Int)), (38, vi s8.1)], [(10, .box [vs s8.2.1.text, vl eSite s8.2.1.sites, .own 49]), (13, oa 2 1 (eI .i64) s8.2.2), (49, oa 84 6 eDescription x14)]⟩ ?_
  refine sr ?_
  refine SRun.ck tbok 2 ⟨65, [(0, vl eCandidate aList), (3, vl eDescription aDescriptions), (10, .ref 10 0), (12, vs x5.Code), (13, .own 13), (14, vi s8.1), (37, vi (aDescriptions.length : Int)), (38, vi s8.1), (51, .agg [vs s8.2.1.text, vl eSite s8.2.1.sites, .own 49]), (52, vl eCandidate aList)], [(10, .box [vs s8.2.1.text, vl eSite s8.2.1.sites, .own 49]), (13, oa 2 1 (eI .i64) s8.2.2), (49, oa 84 6 eDescription x14)]⟩ ?_
  obtain ⟨x15, hx15, h⟩ := bind_some h
  refine SRun.ls (xc ents80 (impl_question_answers_run (question.mk s8.2.1.text s8.2.1.sites x14) aList _ hx15)) ?_
  obtain ⟨x16, hx16, h⟩ := bind_some h
  refine SRun.ls (x_index_own (d := 53) (L := x15) (f := eAnswer) (ti := ti62) (tj := ti59) (e := 59) (e' := 59) (m := 3) (k := .i64) tbok rfl hx16) ?_
  refine SRun.ck tbok 1 ⟨65, [(0, vl eCandidate aList), (3, vl eDescription aDescriptions), (10, .ref 10 0), (12, vs x5.Code), (13, .own 13), (14, vi s8.1), (37, vi (aDescriptions.length : Int)), (38, vi s8.1), (55, .eref 53 3 (Int.toNat 0) 0)], [(10, .box [vs s8.2.1.text, vl eSite s8.2.1.sites, .own 49]), (13, oa 2 1 (eI .i64) s8.2.2), (49, oa 84 6 eDescription x14), (53, oa 59 3 eAnswer x15)]⟩ ?_
  refine SRun.ls (x_load_own (d := 53) (m := 3) (j := 0) (L := x15) (f := eAnswer) (ti := ti9) (e := 59) (v := vs x16.Code) tbok rfl hx16) ?_
  refine ckn tbok 2 ⟨65, [(0, vl eCandidate aList), (3, vl eDescription aDescriptions), (10, .ref 10 0), (12, vs x5.Code), (13, .own 13), (14, vi s8.1), (37, vi (aDescriptions.length : Int)), (38, vi s8.1), (58, vb (!(x16.Code.toList == x5.Code.toList)))], [(10, .box [vs s8.2.1.text, vl eSite s8.2.1.sites, .own 49]), (13, oa 2 1 (eI .i64) s8.2.2), (49, oa 84 6 eDescription x14)]⟩ ?_
  refine swp_cd h (fun h => ?_) fun h => ?_
  refine swp_reg ?_
  refine SRun.ck tbok 3 ⟨65, [(0, vl eCandidate aList), (3, vl eDescription aDescriptions), (10, .ref 10 0), (12, vs x5.Code), (37, vi (aDescriptions.length : Int)), (38, vi s8.1), (59, .own 13), (61, .own 61)], [(10, .box [vs s8.2.1.text, vl eSite s8.2.1.sites, .own 49]), (13, oa 2 1 (eI .i64) s8.2.2), (49, oa 84 6 eDescription x14), (61, oa 2 1 (eI .i64) ([s8.1] : List Int))]⟩ ?_
  obtain ⟨x17, hx17, h⟩ := bind_some h
  refine SRun.estep (x_append (f := (eI .i64)) (t := 54) (ti := ti54) (tj := ti2) (zs := [.int .i64 0]) (e := 2) (m := 1) (d := 13) (xv := .own 61) hx17 tbok rfl rfl rfl rfl (x_src_o (e := 2))) ?_
  refine SRun.ck tbok 1 ⟨65, [(0, vl eCandidate aList), (3, vl eDescription aDescriptions), (10, .ref 10 0), (12, vs x5.Code), (13, .own 62), (37, vi (aDescriptions.length : Int)), (38, vi s8.1)], [(10, .box [vs s8.2.1.text, vl eSite s8.2.1.sites, .own 49]), (49, oa 84 6 eDescription x14), (62, oa 2 1 (eI .i64) x17)]⟩ ?_
  refine SRun.nil ?_
  obtain rfl := inj h
  exact q_bn (q_j ((Le.frz' (d := 49) (e := 84) (m := 6) (n := x14.length) (es := x14.map eDescription) (by kernel_rfl) (by kernel_rfl)).trans ((Le.sub' ([(0, vl eCandidate aList), (3, vl eDescription aDescriptions), (10, .ref 10 0), (12, vs x5.Code), (13, .own 62), (37, vi (aDescriptions.length : Int)), (38, vi s8.1)] : List (Nat × SV)) ([(10, .box [vs s8.2.1.text, vl eSite s8.2.1.sites, vl eDescription x14]), (62, oa 2 1 (eI .i64) x17)] : List (Nat × SO)) (by kernel_rfl) (by kernel_rfl)).trans ((Le.ren' (d := 62) (e := 13) (by kernel_rfl) (by kernel_rfl) (by kernel_rfl)).trans (Le.sub0)))))
  refine swp_skip ?_
  obtain rfl := inj h
  exact q_bn (q_j ((Le.frz' (d := 49) (e := 84) (m := 6) (n := x14.length) (es := x14.map eDescription) (by kernel_rfl) (by kernel_rfl)).trans (Le.sub0)))
  refine swp_reg ?_
  refine SRun.ck tbok 2 ⟨65, [(0, vl eCandidate aList), (3, vl eDescription aDescriptions), (10, .ref 10 0), (12, vs x5.Code), (13, .own 13), (37, vi (aDescriptions.length : Int)), (38, vi (w64 (s8.1 + 1)))], [(10, .box (tc equestion j10.1)), (13, oa 2 1 (eI .i64) j10.2)]⟩ ?_
  refine SRun.nil ?_
  obtain rfl := inj h
  exact q_l (Le.sub0)
  refine swp_exit ?_
  obtain rfl := inj h
  exact nx_e (q_re (q_bh (q_j (Le.sub0))))
  refine srk tbok ⟨65, [(8, .own 13), (9, vi 0)], [(13, oa 2 1 (eI .i64) j6)]⟩ ?_
  refine swp_ret ?_
  obtain rfl := inj h
  exact q_fr (f2 (fo (eI_flat .i64)) fv)
theorem ents32 : Ents Tryz.prog 32 := ents_of Tryz.func32 (by kernel_rfl) rfl
noncomputable def spec_l29Count (aList : (List Site)) (aDescriptions : (List Description)) (aP : Point) : Option (Int) :=
  (((forS (aDescriptions.length : Int) (fun (i3 : Int) (s3 : Int) => ((at' aDescriptions i3).bind fun x7 => ((spec_l29Satisfies aList x7 aP).bind fun x8 => (bif x8 then some (w64 (s3 + 1)) else some s3)))) (fun (s3 : Int) => s3) 0 0)).bind fun (j1 : Int) => some j1)
theorem spec_l29Count_run (aList : (List Site)) (aDescriptions : (List Description)) (aP : Point) (r : Int) (h : spec_l29Count aList aDescriptions aP = some r) : SCall Tryz.prog 114 [.v (vl eSite aList), .v (vl eDescription aDescriptions), .v (.agg (tc ePoint aP))] ⟨[.v (vi r)], [], false⟩ := by
  refine scall_in Tryz.func114 rfl [(.tmp 6)] rfl (fun r => ⟨[.v (vi r)], [], false⟩) (r := r) ?_
  unfold spec_l29Count at h
  refine srk tbok ⟨25, [(0, vl eSite aList), (1, vl eDescription aDescriptions), (5, .ref 5 0)], [(5, .box (tc ePoint aP))]⟩ ?_
  refine srk tbok ⟨25, [(0, vl eSite aList), (1, vl eDescription aDescriptions), (5, .ref 5 0), (7, vi 0)], [(5, .box (tc ePoint aP))]⟩ ?_
  refine swp_seq ?_
  refine srk tbok ⟨25, [(0, vl eSite aList), (1, vl eDescription aDescriptions), (5, .ref 5 0), (7, vi 0), (8, vi 0)], [(5, .box (tc ePoint aP))]⟩ ?_
  refine swp_seqJ h (fun j1 => ⟨25, [(7, vi j1)], []⟩) (fun v2 h => ?_) (fun j1 h => ?_)
  refine swp_blk (a := v2) ?_
  refine swp_lpL (r := v2) (s := (0, 0)) _ (fun s3 => ⟨25, [(0, vl eSite aList), (1, vl eDescription aDescriptions), (5, .ref 5 0), (7, vi s3.2), (8, vi s3.1)], [(5, .box (tc ePoint aP))]⟩) _ (Le.sub0) h (fun s3 v4 h => ?_)
  refine swp_seq ?_
  refine srk tbok ⟨25, [(0, vl eSite aList), (1, vl eDescription aDescriptions), (5, .ref 5 0), (7, vi s3.2), (8, vi s3.1), (12, vb (decide (s3.1 < (aDescriptions.length : Int))))], [(5, .box (tc ePoint aP))]⟩ ?_
  refine swp_cd h (fun h => ?_) fun h => ?_
  refine swp_skip ?_
  refine nx_n ?_
  refine swp_seq ?_
  refine swp_seqJ h (fun j5 => ⟨25, [(0, vl eSite aList), (1, vl eDescription aDescriptions), (5, .ref 5 0), (7, vi j5), (8, vi s3.1)], [(5, .box (tc ePoint aP))]⟩) (fun v6 h => ?_) (fun j5 h => ?_)
  refine swp_blk (a := v6) ?_
  refine swp_seq ?_
  refine swp_dr mixed ?_
  refine DGo.ck tbok false 3 ⟨25, [(0, vl eSite aList), (1, vl eDescription aDescriptions), (5, .ref 5 0), (7, vi s3.2), (8, vi s3.1), (15, vl eSite aList), (16, vl eDescription aDescriptions), (17, vi s3.1)], [(5, .box (tc ePoint aP))]⟩ ?_
  obtain ⟨x7, hx7, h⟩ := bind_some h
  refine DGo.step (x_index (L := aDescriptions) (f := eDescription) (ti := ti35) (tj := ti84) (e := 84) (k := .i64) tbok rfl hx7) ?_
  refine DGo.ck tbok false 2 ⟨25, [(0, vl eSite aList), (1, vl eDescription aDescriptions), (5, .ref 5 0), (7, vi s3.2), (8, vi s3.1), (15, vl eSite aList), (19, .agg (tc eDescription x7)), (20, .agg (tc ePoint aP))], [(5, .box (tc ePoint aP))]⟩ ?_
  obtain ⟨x8, hx8, h⟩ := bind_some h
  refine DGo.step (xc ents52 (spec_l29Satisfies_run aList x7 aP _ hx8)) ?_
  refine DGo.nx ?_
  refine swp_cd h (fun h => ?_) fun h => ?_
  refine swp_reg ?_
  refine SRun.ck tbok 3 ⟨25, [(0, vl eSite aList), (1, vl eDescription aDescriptions), (5, .ref 5 0), (7, vi (w64 (s3.2 + 1))), (8, vi s3.1)], [(5, .box (tc ePoint aP))]⟩ ?_
  refine SRun.nil ?_
  obtain rfl := inj h
  exact q_bn (q_j (Le.sub0))
  refine swp_skip ?_
  obtain rfl := inj h
  exact q_bn (q_j (Le.sub0))
  refine swp_reg ?_
  refine SRun.ck tbok 3 ⟨25, [(0, vl eSite aList), (1, vl eDescription aDescriptions), (5, .ref 5 0), (7, vi j5), (8, vi (w64 (s3.1 + 1)))], [(5, .box (tc ePoint aP))]⟩ ?_
  refine SRun.nil ?_
  obtain rfl := inj h
  exact q_l (Le.sub0)
  refine swp_exit ?_
  obtain rfl := inj h
  exact nx_e (q_re (q_bh (q_j (Le.sub0))))
  refine srk tbok ⟨25, [(6, vi j1)], []⟩ ?_
  refine swp_ret ?_
  obtain rfl := inj h
  exact q_fr (f1 fv)
theorem ents114 : Ents Tryz.prog 114 := ents_of Tryz.func114 (by kernel_rfl) rfl
noncomputable def spec_l30Answer (aC : Candidate) (aText : ByteArray) (aSites : (List Site)) (aDescriptions : (List Description)) : Option (Answer) :=
  ((spec_l30Distance aC.Text aText).bind fun x1 => ((spec_l29Count aSites aDescriptions aC.At).bind fun x2 => some (Answer.mk aC.Code x1 x2)))
theorem spec_l30Answer_run (aC : Candidate) (aText : ByteArray) (aSites : (List Site)) (aDescriptions : (List Description)) (r : Answer) (h : spec_l30Answer aC aText aSites aDescriptions = some r) : SCall Tryz.prog 67 [.v (.agg (tc eCandidate aC)), .v (vs aText), .v (vl eSite aSites), .v (vl eDescription aDescriptions)] ⟨[.v (.agg (tc eAnswer r))], [], false⟩ := by
  refine scall_in Tryz.func67 rfl [(.cell 8 59)] rfl (fun r => ⟨[.v (.agg (tc eAnswer r))], [], false⟩) (r := r) ?_
  unfold spec_l30Answer at h
  refine srk tbok ⟨21, [(1, vs aText), (2, vl eSite aSites), (3, vl eDescription aDescriptions), (4, .ref 4 0), (8, .ref 8 0)], [(4, .box (tc eCandidate aC)), (8, .box [vs (ByteArray.mk #[]), vi 0, vi 0])]⟩ ?_
  refine swp_seq ?_
  refine swp_dr mixed ?_
  refine DGo.ck tbok false 5 ⟨21, [(2, vl eSite aSites), (3, vl eDescription aDescriptions), (4, .ref 4 0), (8, .ref 8 0), (10, vs aC.Code), (12, vs aC.Text), (13, vs aText)], [(4, .box (tc eCandidate aC)), (8, .box [vs (ByteArray.mk #[]), vi 0, vi 0])]⟩ ?_
  obtain ⟨x1, hx1, h⟩ := bind_some h
  refine DGo.step (xc ents77 (spec_l30Distance_run aC.Text aText _ hx1)) ?_
  refine DGo.ck tbok false 4 ⟨21, [(8, .ref 8 0), (10, vs aC.Code), (14, vi x1), (15, vl eSite aSites), (16, vl eDescription aDescriptions), (18, .agg (tc ePoint aC.At))], [(8, .box [vs (ByteArray.mk #[]), vi 0, vi 0])]⟩ ?_
  obtain ⟨x2, hx2, h⟩ := bind_some h
  refine DGo.step (xc ents114 (spec_l29Count_run aSites aDescriptions aC.At _ hx2)) ?_
  refine DGo.step (x_lstep_build (v := .agg [vs aC.Code, vi x1, vi x2]) tbok rfl) ?_
  refine DGo.seq (by kernel_rfl) (by kernel_rfl) ?_
  refine ckn tbok 1 ⟨21, [(8, .ref 8 0)], [(8, .box [vs aC.Code, vi x1, vi x2])]⟩ ?_
  refine swp_ret ?_
  obtain rfl := inj h
  exact q_fr (f1 (fc tbok))
theorem ents67 : Ents Tryz.prog 67 := ents_of Tryz.func67 (by kernel_rfl) rfl
noncomputable def spec_l30Before (aA : Answer) (aB : Answer) : Option (Bool) :=
  some ((decide ((w64 ((w64 (10 * aA.Satisfied)) - aA.Distance)) > (w64 ((w64 (10 * aB.Satisfied)) - aB.Distance)))) || (((w64 ((w64 (10 * aA.Satisfied)) - aA.Distance)) == (w64 ((w64 (10 * aB.Satisfied)) - aB.Distance))) && (Op.bytesLess aA.Code.toList aB.Code.toList)))
theorem spec_l30Before_run (aA : Answer) (aB : Answer) (r : Bool) (h : spec_l30Before aA aB = some r) : SCall Tryz.prog 131 [.v (.agg (tc eAnswer aA)), .v (.agg (tc eAnswer aB))] ⟨[.v (vb r)], [], false⟩ := by
  refine scall_in Tryz.func131 rfl [(.tmp 4)] rfl (fun r => ⟨[.v (vb r)], [], false⟩) (r := r) ?_
  unfold spec_l30Before at h
  refine srk tbok ⟨34, [(2, .ref 2 0), (3, .ref 3 0)], [(2, .box (tc eAnswer aA)), (3, .box (tc eAnswer aB))]⟩ ?_
  refine swp_seq ?_
  refine swp_dr mixed ?_
  refine DGo.ck tbok false 14 ⟨34, [(2, .ref 2 0), (3, .ref 3 0), (5, vi (w64 ((w64 (10 * aA.Satisfied)) - aA.Distance))), (6, vi (w64 ((w64 (10 * aB.Satisfied)) - aB.Distance)))], [(2, .box (tc eAnswer aA)), (3, .box (tc eAnswer aB))]⟩ ?_
  refine DGo.nx ?_
  refine swp_seq ?_
  refine swp_regP ⟨34, [(4, vb ((decide ((w64 ((w64 (10 * aA.Satisfied)) - aA.Distance)) > (w64 ((w64 (10 * aB.Satisfied)) - aB.Distance)))) || (((w64 ((w64 (10 * aA.Satisfied)) - aA.Distance)) == (w64 ((w64 (10 * aB.Satisfied)) - aB.Distance))) && (Op.bytesLess aA.Code.toList aB.Code.toList))))], []⟩ ?_ ?_
  refine SRun.ck tbok 4 ⟨34, [(2, .ref 2 0), (3, .ref 3 0), (5, vi (w64 ((w64 (10 * aA.Satisfied)) - aA.Distance))), (6, vi (w64 ((w64 (10 * aB.Satisfied)) - aB.Distance))), (22, vb (decide ((w64 ((w64 (10 * aA.Satisfied)) - aA.Distance)) > (w64 ((w64 (10 * aB.Satisfied)) - aB.Distance)))))], [(2, .box (tc eAnswer aA)), (3, .box (tc eAnswer aB))]⟩ ?_
  generalize (decide ((w64 ((w64 (10 * aA.Satisfied)) - aA.Distance)) > (w64 ((w64 (10 * aB.Satisfied)) - aB.Distance)))) = bb
  cases bb
  refine SRun.ck tbok 4 ⟨34, [(2, .ref 2 0), (3, .ref 3 0), (22, vb false), (26, vb ((w64 ((w64 (10 * aA.Satisfied)) - aA.Distance)) == (w64 ((w64 (10 * aB.Satisfied)) - aB.Distance))))], [(2, .box (tc eAnswer aA)), (3, .box (tc eAnswer aB))]⟩ ?_
  generalize ((w64 ((w64 (10 * aA.Satisfied)) - aA.Distance)) == (w64 ((w64 (10 * aB.Satisfied)) - aB.Distance))) = bb
  cases bb
  refine SRun.ck tbok 8 ⟨34, [(4, vb false)], []⟩ ?_
  exact SRun.nil (Le.sub0)
  refine SRun.ck tbok 8 ⟨34, [(4, vb (Op.bytesLess aA.Code.toList aB.Code.toList))], []⟩ ?_
  exact SRun.nil (Le.sub0)
  refine SRun.ck tbok 12 ⟨34, [(4, vb true)], []⟩ ?_
  exact SRun.nil (Le.sub0)
  refine swp_ret ?_
  obtain rfl := inj h
  exact q_fr (f1 fv)
theorem ents131 : Ents Tryz.prog 131 := ents_of Tryz.func131 (by kernel_rfl) rfl
noncomputable def spec_l30Ranked (aList : (List Candidate)) (aText : ByteArray) (aSites : (List Site)) (aDescriptions : (List Description)) : Option ((List Answer)) :=
  (((forS (aList.length : Int) (fun (i3 : Int) (s3 : (List Answer)) => ((at' aList i3).bind fun x7 => ((spec_l30Answer x7 aText aSites aDescriptions).bind fun x8 => (((loop (fun (s11 : Int) => (((bif (decide (s11 < (s3.length : Int))) then ((at' s3 s11).bind fun x13 => ((spec_l30Before x13 x8).bind fun x14 => some x14)) else some false)).bind fun (j15 : Bool) => (bif j15 then some (.inl (w64 (s11 + 1))) else some (.inr s11)))) 0)).bind fun (j9 : Int) => ((part' s3 0 j9).bind fun x17 => ((app' ([] : List Answer) x17).bind fun x18 => ((app' x18 ([x8] : List Answer)).bind fun x19 => ((part' s3 j9 (s3.length : Int)).bind fun x20 => ((app' x19 x20).bind fun x21 => some x21))))))))) (fun (s3 : (List Answer)) => s3) 0 ([] : List Answer))).bind fun (j1 : (List Answer)) => some j1)
theorem spec_l30Ranked_run (aList : (List Candidate)) (aText : ByteArray) (aSites : (List Site)) (aDescriptions : (List Description)) (r : (List Answer)) (h : spec_l30Ranked aList aText aSites aDescriptions = some r) : SCall Tryz.prog 82 [.v (vl eCandidate aList), .v (vs aText), .v (vl eSite aSites), .v (vl eDescription aDescriptions)] ⟨[.own 59 3 r.length (r.map eAnswer)], [], false⟩ := by
  refine scall_in Tryz.func82 rfl [(.tmp 8)] rfl (fun r => ⟨[.own 59 3 r.length (r.map eAnswer)], [], false⟩) (r := r) ?_
  unfold spec_l30Ranked at h
  refine srk tbok ⟨55, [(0, vl eCandidate aList), (1, vs aText), (2, vl eSite aSites), (3, vl eDescription aDescriptions)], []⟩ ?_
  refine srk tbok ⟨55, [(0, vl eCandidate aList), (1, vs aText), (2, vl eSite aSites), (3, vl eDescription aDescriptions), (9, .own 13)], [(13, oa 59 3 eAnswer ([] : List Answer))]⟩ ?_
  refine swp_seq ?_
  refine srk tbok ⟨55, [(0, vl eCandidate aList), (1, vs aText), (2, vl eSite aSites), (3, vl eDescription aDescriptions), (9, .own 13), (10, vi 0)], [(13, oa 59 3 eAnswer ([] : List Answer))]⟩ ?_
  refine swp_seqJ h (fun j1 => ⟨55, [(9, .own 9)], [(9, oa 59 3 eAnswer j1)]⟩) (fun v2 h => ?_) (fun j1 h => ?_)
  refine swp_blk (a := v2) ?_
  refine swp_lpL (r := v2) (s := (0, ([] : List Answer))) _ (fun s3 => ⟨55, [(0, vl eCandidate aList), (1, vs aText), (2, vl eSite aSites), (3, vl eDescription aDescriptions), (9, .own 9), (10, vi s3.1)], [(9, oa 59 3 eAnswer s3.2)]⟩) _ ((Le.sub' ([(0, vl eCandidate aList), (1, vs aText), (2, vl eSite aSites), (3, vl eDescription aDescriptions), (9, .own 13), (10, vi 0)] : List (Nat × SV)) ([(13, oa 59 3 eAnswer ([] : List Answer))] : List (Nat × SO)) (by kernel_rfl) (by kernel_rfl)).trans ((Le.ren' (d := 13) (e := 9) (by kernel_rfl) (by kernel_rfl) (by kernel_rfl)).trans (Le.sub0))) h (fun s3 v4 h => ?_)
  refine swp_seq ?_
  refine srk tbok ⟨55, [(0, vl eCandidate aList), (1, vs aText), (2, vl eSite aSites), (3, vl eDescription aDescriptions), (9, .own 9), (10, vi s3.1), (17, vb (decide (s3.1 < (aList.length : Int))))], [(9, oa 59 3 eAnswer s3.2)]⟩ ?_
  refine swp_cd h (fun h => ?_) fun h => ?_
  refine swp_skip ?_
  refine nx_n ?_
  refine swp_seq ?_
  refine swp_seqJ h (fun j5 => ⟨55, [(0, vl eCandidate aList), (1, vs aText), (2, vl eSite aSites), (3, vl eDescription aDescriptions), (9, .own 9), (10, vi s3.1)], [(9, oa 59 3 eAnswer j5)]⟩) (fun v6 h => ?_) (fun j5 h => ?_)
  refine swp_blk (a := v6) ?_
  refine sr ?_
  refine SRun.ck tbok 2 ⟨55, [(0, vl eCandidate aList), (1, vs aText), (2, vl eSite aSites), (3, vl eDescription aDescriptions), (9, .own 9), (10, vi s3.1), (20, vl eCandidate aList), (21, vi s3.1)], [(9, oa 59 3 eAnswer s3.2)]⟩ ?_
  obtain ⟨x7, hx7, h⟩ := bind_some h
  refine SRun.ls (x_index (L := aList) (f := eCandidate) (ti := ti31) (tj := ti87) (e := 87) (k := .i64) tbok rfl hx7) ?_
  refine SRun.ck tbok 4 ⟨55, [(0, vl eCandidate aList), (1, vs aText), (2, vl eSite aSites), (3, vl eDescription aDescriptions), (9, .own 9), (10, vi s3.1), (23, .agg (tc eCandidate x7)), (24, vs aText), (25, vl eSite aSites), (26, vl eDescription aDescriptions)], [(9, oa 59 3 eAnswer s3.2)]⟩ ?_
  obtain ⟨x8, hx8, h⟩ := bind_some h
  refine SRun.ls (xc ents67 (spec_l30Answer_run x7 aText aSites aDescriptions _ hx8)) ?_
  refine ckn tbok 2 ⟨55, [(0, vl eCandidate aList), (1, vs aText), (2, vl eSite aSites), (3, vl eDescription aDescriptions), (9, .own 9), (10, vi s3.1), (11, .ref 11 0)], [(9, oa 59 3 eAnswer s3.2), (11, .box (tc eAnswer x8))]⟩ ?_
  refine srk tbok ⟨55, [(0, vl eCandidate aList), (1, vs aText), (2, vl eSite aSites), (3, vl eDescription aDescriptions), (9, .own 9), (10, vi s3.1), (11, .ref 11 0), (12, vi 0)], [(9, oa 59 3 eAnswer s3.2), (11, .box (tc eAnswer x8))]⟩ ?_
  refine swp_seq ?_
  refine swp_seqJ h (fun j9 => ⟨55, [(0, vl eCandidate aList), (1, vs aText), (2, vl eSite aSites), (3, vl eDescription aDescriptions), (9, .own 9), (10, vi s3.1), (11, .ref 11 0), (12, vi j9)], [(9, oa 59 3 eAnswer s3.2), (11, .box (tc eAnswer x8))]⟩) (fun v10 h => ?_) (fun j9 h => ?_)
  refine swp_blk (a := v10) ?_
  refine swp_lpL (r := v10) (s := 0) _ (fun s11 => ⟨55, [(0, vl eCandidate aList), (1, vs aText), (2, vl eSite aSites), (3, vl eDescription aDescriptions), (9, .own 9), (10, vi s3.1), (11, .ref 11 0), (12, vi s11)], [(9, oa 59 3 eAnswer s3.2), (11, .box (tc eAnswer x8))]⟩) _ (Le.sub0) h (fun s11 v12 h => ?_)
  refine swp_seq ?_
  refine swp_seq ?_
  refine swp_drJ mixed h (fun j15 => ⟨55, [(0, vl eCandidate aList), (1, vs aText), (2, vl eSite aSites), (3, vl eDescription aDescriptions), (9, .own 9), (10, vi s3.1), (11, .ref 11 0), (12, vi s11), (39, vb j15)], [(9, oa 59 3 eAnswer s3.2), (11, .box (tc eAnswer x8))]⟩) (fun v16 h => ?_) (fun j15 h => ?_)
  refine DGo.ck tbok false 5 ⟨55, [(0, vl eCandidate aList), (1, vs aText), (2, vl eSite aSites), (3, vl eDescription aDescriptions), (9, .own 9), (10, vi s3.1), (11, .ref 11 0), (12, vi s11), (32, vb (decide (s11 < (s3.2.length : Int))))], [(9, oa 59 3 eAnswer s3.2), (11, .box (tc eAnswer x8))]⟩ ?_
  refine DGo.cu [(32, fun b => b)] h (fun h => ?_) fun h => ?_
  refine DGo.ck tbok false 2 ⟨55, [(0, vl eCandidate aList), (1, vs aText), (2, vl eSite aSites), (3, vl eDescription aDescriptions), (9, .own 9), (10, vi s3.1), (11, .ref 11 0), (12, vi s11), (32, vb true), (33, .own 9), (34, vi s11)], [(9, oa 59 3 eAnswer s3.2), (11, .box (tc eAnswer x8))]⟩ ?_
  obtain ⟨x13, hx13, h⟩ := bind_some h
  refine DGo.step (x_index_own (d := 9) (L := s3.2) (f := eAnswer) (ti := ti62) (tj := ti59) (e := 59) (e' := 59) (m := 3) (k := .i64) tbok rfl hx13) ?_
  refine DGo.step (x_load_own (d := 9) (m := 3) (j := 0) (L := s3.2) (f := eAnswer) (ti := ti59) (e := 59) (v := .agg (tc eAnswer x13)) tbok rfl hx13) ?_
  refine DGo.ck tbok false 1 ⟨55, [(0, vl eCandidate aList), (1, vs aText), (2, vl eSite aSites), (3, vl eDescription aDescriptions), (9, .own 9), (10, vi s3.1), (11, .ref 11 0), (12, vi s11), (32, vb true), (36, .agg (tc eAnswer x13)), (37, .agg (tc eAnswer x8))], [(9, oa 59 3 eAnswer s3.2), (11, .box (tc eAnswer x8))]⟩ ?_
  obtain ⟨x14, hx14, h⟩ := bind_some h
  refine DGo.step (xc ents131 (spec_l30Before_run x13 x8 _ hx14)) ?_
  refine DGo.ck tbok false 1 ⟨55, [(0, vl eCandidate aList), (1, vs aText), (2, vl eSite aSites), (3, vl eDescription aDescriptions), (9, .own 9), (10, vi s3.1), (11, .ref 11 0), (12, vi s11), (39, vb x14)], [(9, oa 59 3 eAnswer s3.2), (11, .box (tc eAnswer x8))]⟩ ?_
  refine DGo.nil (by kernel_rfl) ?_
  obtain rfl := inj h
  exact Le.sub0
  refine DGo.ck tbok false 7 ⟨55, [(0, vl eCandidate aList), (1, vs aText), (2, vl eSite aSites), (3, vl eDescription aDescriptions), (9, .own 9), (10, vi s3.1), (11, .ref 11 0), (12, vi s11), (39, vb false)], [(9, oa 59 3 eAnswer s3.2), (11, .box (tc eAnswer x8))]⟩ ?_
  refine DGo.nil (by kernel_rfl) ?_
  obtain rfl := inj h
  exact Le.sub0
  refine swp_cd h (fun h => ?_) fun h => ?_
  refine swp_skip ?_
  refine nx_n ?_
  refine swp_blk (a := v12) ?_
  refine swp_reg ?_
  refine SRun.ck tbok 3 ⟨55, [(0, vl eCandidate aList), (1, vs aText), (2, vl eSite aSites), (3, vl eDescription aDescriptions), (9, .own 9), (10, vi s3.1), (11, .ref 11 0), (12, vi (w64 (s11 + 1)))], [(9, oa 59 3 eAnswer s3.2), (11, .box (tc eAnswer x8))]⟩ ?_
  refine SRun.nil ?_
  obtain rfl := inj h
  exact q_bn (q_l (Le.sub0))
  refine swp_exit ?_
  obtain rfl := inj h
  exact nx_e (q_re (q_bh (q_j (Le.sub0))))
  refine swp_le (Le.frz' (d := 9) (e := 59) (m := 3) (n := s3.2.length) (es := s3.2.map eAnswer) (by kernel_rfl) (by kernel_rfl)) ?_
  obtain ⟨x17, hx17, h⟩ := bind_some h
  obtain ⟨x18, hx18, h⟩ := bind_some h
  obtain ⟨x19, hx19, h⟩ := bind_some h
  obtain ⟨x20, hx20, h⟩ := bind_some h
  obtain ⟨x21, hx21, h⟩ := bind_some h
  refine swp_dr mixed ?_
  refine DGo.enum (σE := ⟨55, [(0, vl eCandidate aList), (1, vs aText), (2, vl eSite aSites), (3, vl eDescription aDescriptions), (9, .own 53), (10, vi s3.1)], [(53, oa 59 3 eAnswer x21)]⟩) (n := 13) (L0 := #[false, false, false, false, false, false, false, false, false, false, false, false, false]) (by kernel_rfl) (by kernel_rfl) (fun K hk => ?_) ?_
  refine DE.share (fuel := 0) (L := #[true, true, true, true, true, true, true, true, true, true, true, true, true]) (σ := ⟨55, [(0, vl eCandidate aList), (1, vs aText), (2, vl eSite aSites), (3, vl eDescription aDescriptions), (9, .own 53), (10, vi s3.1)], [(53, oa 59 3 eAnswer x21)]⟩) ?_ (fun d37 => ?_)
  exact DE.done (by kernel_rfl) hk
  refine DE.share (fuel := 1) (L := #[true, true, true, true, true, true, true, true, true, true, true, true, false]) (σ := ⟨55, [(0, vl eCandidate aList), (1, vs aText), (2, vl eSite aSites), (3, vl eDescription aDescriptions), (9, vl eAnswer s3.2), (10, vi s3.1), (53, .own 53)], [(53, oa 59 3 eAnswer x21)]⟩) ?_ (fun d36 => ?_)
  exact DE.take (i := 12) (L' := #[true, true, true, true, true, true, true, true, true, true, true, true, true]) rfl (.inr rfl) rfl (by kernel_rfl) (by kernel_rfl) (by kernel_rfl) (EStep.le (EStep.ofN2 tbok (σ' := ⟨55, [(9, .own 53), (0, vl eCandidate aList), (1, vs aText), (2, vl eSite aSites), (3, vl eDescription aDescriptions), (10, vi s3.1), (53, .own 53)], [(53, oa 59 3 eAnswer x21)]⟩) (by kernel_rfl)) Le.sub0) (by kernel_rfl) d37
  refine DE.share (fuel := 2) (L := #[true, true, true, true, true, true, true, true, true, true, true, false, false]) (σ := ⟨55, [(0, vl eCandidate aList), (1, vs aText), (2, vl eSite aSites), (3, vl eDescription aDescriptions), (9, vl eAnswer s3.2), (10, vi s3.1), (49, .own 49), (52, vl eAnswer x20)], [(49, oa 59 3 eAnswer x19)]⟩) ?_ (fun d35 => ?_)
  exact DE.all [11] (by kernel_rfl) (by simp) (List.forall_mem_cons.2 ⟨DEs.mk (i := 11) (L' := #[true, true, true, true, true, true, true, true, true, true, true, true, false]) rfl (EStep.le (x_append (f := eAnswer) (t := 62) (ti := ti62) (tj := ti59) (zs := [.string (ByteArray.mk #[]), .int .i64 0, .int .i64 0]) (e := 59) (m := 3) (d := 49) (xv := vl eAnswer x20) hx21 tbok rfl rfl rfl rfl (src_e (fun _ => rfl))) Le.sub0) (by kernel_rfl) d36, (fun _ h => absurd h List.not_mem_nil)⟩)
  refine DE.share (fuel := 3) (L := #[true, true, true, true, true, true, true, false, true, true, true, false, false]) (σ := ⟨55, [(0, vl eCandidate aList), (1, vs aText), (2, vl eSite aSites), (3, vl eDescription aDescriptions), (9, vl eAnswer s3.2), (10, vi s3.1), (46, .own 46), (48, .own 48), (52, vl eAnswer x20)], [(46, oa 59 3 eAnswer x18), (48, oa 59 3 eAnswer ([x8] : List Answer))]⟩) ?_ (fun d34 => ?_)
  exact DE.all [7] (by kernel_rfl) (by simp) (List.forall_mem_cons.2 ⟨DEs.mk (i := 7) (L' := #[true, true, true, true, true, true, true, true, true, true, true, false, false]) rfl (EStep.le (x_append (f := eAnswer) (t := 62) (ti := ti62) (tj := ti59) (zs := [.string (ByteArray.mk #[]), .int .i64 0, .int .i64 0]) (e := 59) (m := 3) (d := 46) (xv := .own 48) hx19 tbok rfl rfl rfl rfl (x_src_o (e := 59))) Le.sub0) (by kernel_rfl) d35, (fun _ h => absurd h List.not_mem_nil)⟩)
  refine DE.share (fuel := 3) (L := #[true, true, true, true, true, true, true, true, true, true, false, false, false]) (σ := ⟨55, [(0, vl eCandidate aList), (1, vs aText), (2, vl eSite aSites), (3, vl eDescription aDescriptions), (9, vl eAnswer s3.2), (10, vi s3.1), (49, .own 49), (50, vl eAnswer s3.2), (51, vi j9)], [(49, oa 59 3 eAnswer x19)]⟩) ?_ (fun d33 => ?_)
  exact DE.all [10] (by kernel_rfl) (by simp) (List.forall_mem_cons.2 ⟨DEs.mk (i := 10) (L' := #[true, true, true, true, true, true, true, true, true, true, true, false, false]) rfl (EStep.le (EStep.ofL (x_slice (m := 3) (f := eAnswer) (ti := ti62) (tj := ti59) (e := 59) hx20 (fun _ => rfl) tbok rfl) (by kernel_rfl)) Le.sub0) (by kernel_rfl) d35, (fun _ h => absurd h List.not_mem_nil)⟩)
  refine DE.share (fuel := 4) (L := #[true, true, true, true, false, true, true, false, true, true, true, false, false]) (σ := ⟨55, [(0, vl eCandidate aList), (1, vs aText), (2, vl eSite aSites), (3, vl eDescription aDescriptions), (9, vl eAnswer s3.2), (10, vi s3.1), (42, .own 42), (45, vl eAnswer x17), (48, .own 48), (52, vl eAnswer x20)], [(42, oa 59 3 eAnswer ([] : List Answer)), (48, oa 59 3 eAnswer ([x8] : List Answer))]⟩) ?_ (fun d32 => ?_)
  exact DE.all [4] (by kernel_rfl) (by simp) (List.forall_mem_cons.2 ⟨DEs.mk (i := 4) (L' := #[true, true, true, true, true, true, true, false, true, true, true, false, false]) rfl (EStep.le (x_append (f := eAnswer) (t := 62) (ti := ti62) (tj := ti59) (zs := [.string (ByteArray.mk #[]), .int .i64 0, .int .i64 0]) (e := 59) (m := 3) (d := 42) (xv := vl eAnswer x17) hx18 tbok rfl rfl rfl rfl (src_e (fun _ => rfl))) Le.sub0) (by kernel_rfl) d34, (fun _ h => absurd h List.not_mem_nil)⟩)
  refine DE.share (fuel := 4) (L := #[true, true, true, true, true, true, false, false, true, true, true, false, false]) (σ := ⟨55, [(0, vl eCandidate aList), (1, vs aText), (2, vl eSite aSites), (3, vl eDescription aDescriptions), (9, vl eAnswer s3.2), (10, vi s3.1), (46, .own 46), (47, .agg (tc eAnswer x8)), (52, vl eAnswer x20)], [(46, oa 59 3 eAnswer x18)]⟩) ?_ (fun d31 => ?_)
  exact DE.all [6] (by kernel_rfl) (by simp) (List.forall_mem_cons.2 ⟨DEs.mk (i := 6) (L' := #[true, true, true, true, true, true, true, false, true, true, true, false, false]) rfl (EStep.le (EStep.ofN2 tbok (σ' := ⟨55, [(48, .own 48), (0, vl eCandidate aList), (1, vs aText), (2, vl eSite aSites), (3, vl eDescription aDescriptions), (9, vl eAnswer s3.2), (10, vi s3.1), (46, .own 46), (47, .agg (tc eAnswer x8)), (52, vl eAnswer x20)], [(48, oa 59 3 eAnswer ([x8] : List Answer)), (46, oa 59 3 eAnswer x18)]⟩) (by kernel_rfl)) Le.sub0) (by kernel_rfl) d34, (fun _ h => absurd h List.not_mem_nil)⟩)
  refine DE.share (fuel := 4) (L := #[true, true, true, true, true, true, true, false, true, true, false, false, false]) (σ := ⟨55, [(0, vl eCandidate aList), (1, vs aText), (2, vl eSite aSites), (3, vl eDescription aDescriptions), (9, vl eAnswer s3.2), (10, vi s3.1), (46, .own 46), (48, .own 48), (50, vl eAnswer s3.2), (51, vi j9)], [(46, oa 59 3 eAnswer x18), (48, oa 59 3 eAnswer ([x8] : List Answer))]⟩) ?_ (fun d30 => ?_)
  exact DE.all [7, 10] (by kernel_rfl) (by simp) (List.forall_mem_cons.2 ⟨DEs.mk (i := 7) (L' := #[true, true, true, true, true, true, true, true, true, true, false, false, false]) rfl (EStep.le (x_append (f := eAnswer) (t := 62) (ti := ti62) (tj := ti59) (zs := [.string (ByteArray.mk #[]), .int .i64 0, .int .i64 0]) (e := 59) (m := 3) (d := 46) (xv := .own 48) hx19 tbok rfl rfl rfl rfl (x_src_o (e := 59))) Le.sub0) (by kernel_rfl) d33, (List.forall_mem_cons.2 ⟨DEs.mk (i := 10) (L' := #[true, true, true, true, true, true, true, false, true, true, true, false, false]) rfl (EStep.le (EStep.ofL (x_slice (m := 3) (f := eAnswer) (ti := ti62) (tj := ti59) (e := 59) hx20 (fun _ => rfl) tbok rfl) (by kernel_rfl)) Le.sub0) (by kernel_rfl) d34, (fun _ h => absurd h List.not_mem_nil)⟩)⟩)
  refine DE.share (fuel := 5) (L := #[false, true, true, true, false, true, true, false, true, true, true, false, false]) (σ := ⟨55, [(0, vl eCandidate aList), (1, vs aText), (2, vl eSite aSites), (3, vl eDescription aDescriptions), (9, vl eAnswer s3.2), (10, vi s3.1), (45, vl eAnswer x17), (48, .own 48), (52, vl eAnswer x20)], [(48, oa 59 3 eAnswer ([x8] : List Answer))]⟩) ?_ (fun d29 => ?_)
  exact DE.all [0] (by kernel_rfl) (by simp) (List.forall_mem_cons.2 ⟨DEs.mk (i := 0) (L' := #[true, true, true, true, false, true, true, false, true, true, true, false, false]) rfl (EStep.le (EStep.ofN2 tbok (σ' := ⟨55, [(42, .own 42), (0, vl eCandidate aList), (1, vs aText), (2, vl eSite aSites), (3, vl eDescription aDescriptions), (9, vl eAnswer s3.2), (10, vi s3.1), (45, vl eAnswer x17), (48, .own 48), (52, vl eAnswer x20)], [(42, oa 59 3 eAnswer ([] : List Answer)), (48, oa 59 3 eAnswer ([x8] : List Answer))]⟩) (by kernel_rfl)) Le.sub0) (by kernel_rfl) d32, (fun _ h => absurd h List.not_mem_nil)⟩)
  refine DE.share (fuel := 5) (L := #[true, true, true, false, false, true, true, false, true, true, true, false, false]) (σ := ⟨55, [(0, vl eCandidate aList), (1, vs aText), (2, vl eSite aSites), (3, vl eDescription aDescriptions), (9, vl eAnswer s3.2), (10, vi s3.1), (42, .own 42), (43, vl eAnswer s3.2), (44, vi j9), (48, .own 48), (52, vl eAnswer x20)], [(42, oa 59 3 eAnswer ([] : List Answer)), (48, oa 59 3 eAnswer ([x8] : List Answer))]⟩) ?_ (fun d28 => ?_)
  exact DE.all [3] (by kernel_rfl) (by simp) (List.forall_mem_cons.2 ⟨DEs.mk (i := 3) (L' := #[true, true, true, true, false, true, true, false, true, true, true, false, false]) rfl (EStep.le (EStep.ofL (x_slice (m := 3) (f := eAnswer) (ti := ti62) (tj := ti59) (e := 59) hx17 (fun _ => rfl) tbok rfl) (by kernel_rfl)) Le.sub0) (by kernel_rfl) d32, (fun _ h => absurd h List.not_mem_nil)⟩)
  refine DE.share (fuel := 5) (L := #[true, true, true, true, false, true, false, false, true, true, true, false, false]) (σ := ⟨55, [(0, vl eCandidate aList), (1, vs aText), (2, vl eSite aSites), (3, vl eDescription aDescriptions), (9, vl eAnswer s3.2), (10, vi s3.1), (42, .own 42), (45, vl eAnswer x17), (47, .agg (tc eAnswer x8)), (52, vl eAnswer x20)], [(42, oa 59 3 eAnswer ([] : List Answer))]⟩) ?_ (fun d27 => ?_)
  exact DE.all [4, 6] (by kernel_rfl) (by simp) (List.forall_mem_cons.2 ⟨DEs.mk (i := 4) (L' := #[true, true, true, true, true, true, false, false, true, true, true, false, false]) rfl (EStep.le (x_append (f := eAnswer) (t := 62) (ti := ti62) (tj := ti59) (zs := [.string (ByteArray.mk #[]), .int .i64 0, .int .i64 0]) (e := 59) (m := 3) (d := 42) (xv := vl eAnswer x17) hx18 tbok rfl rfl rfl rfl (src_e (fun _ => rfl))) Le.sub0) (by kernel_rfl) d31, (List.forall_mem_cons.2 ⟨DEs.mk (i := 6) (L' := #[true, true, true, true, false, true, true, false, true, true, true, false, false]) rfl (EStep.le (EStep.ofN2 tbok (σ' := ⟨55, [(48, .own 48), (0, vl eCandidate aList), (1, vs aText), (2, vl eSite aSites), (3, vl eDescription aDescriptions), (9, vl eAnswer s3.2), (10, vi s3.1), (42, .own 42), (45, vl eAnswer x17), (47, .agg (tc eAnswer x8)), (52, vl eAnswer x20)], [(48, oa 59 3 eAnswer ([x8] : List Answer)), (42, oa 59 3 eAnswer ([] : List Answer))]⟩) (by kernel_rfl)) Le.sub0) (by kernel_rfl) d32, (fun _ h => absurd h List.not_mem_nil)⟩)⟩)
  refine DE.share (fuel := 5) (L := #[true, true, true, true, false, true, true, false, true, true, false, false, false]) (σ := ⟨55, [(0, vl eCandidate aList), (1, vs aText), (2, vl eSite aSites), (3, vl eDescription aDescriptions), (9, vl eAnswer s3.2), (10, vi s3.1), (42, .own 42), (45, vl eAnswer x17), (48, .own 48), (50, vl eAnswer s3.2), (51, vi j9)], [(42, oa 59 3 eAnswer ([] : List Answer)), (48, oa 59 3 eAnswer ([x8] : List Answer))]⟩) ?_ (fun d26 => ?_)
  exact DE.all [4, 10] (by kernel_rfl) (by simp) (List.forall_mem_cons.2 ⟨DEs.mk (i := 4) (L' := #[true, true, true, true, true, true, true, false, true, true, false, false, false]) rfl (EStep.le (x_append (f := eAnswer) (t := 62) (ti := ti62) (tj := ti59) (zs := [.string (ByteArray.mk #[]), .int .i64 0, .int .i64 0]) (e := 59) (m := 3) (d := 42) (xv := vl eAnswer x17) hx18 tbok rfl rfl rfl rfl (src_e (fun _ => rfl))) Le.sub0) (by kernel_rfl) d30, (List.forall_mem_cons.2 ⟨DEs.mk (i := 10) (L' := #[true, true, true, true, false, true, true, false, true, true, true, false, false]) rfl (EStep.le (EStep.ofL (x_slice (m := 3) (f := eAnswer) (ti := ti62) (tj := ti59) (e := 59) hx20 (fun _ => rfl) tbok rfl) (by kernel_rfl)) Le.sub0) (by kernel_rfl) d32, (fun _ h => absurd h List.not_mem_nil)⟩)⟩)
  refine DE.share (fuel := 5) (L := #[true, true, true, true, true, false, false, false, true, true, true, false, false]) (σ := ⟨55, [(0, vl eCandidate aList), (1, vs aText), (2, vl eSite aSites), (3, vl eDescription aDescriptions), (9, vl eAnswer s3.2), (10, vi s3.1), (11, .ref 11 0), (46, .own 46), (52, vl eAnswer x20)], [(11, .box (tc eAnswer x8)), (46, oa 59 3 eAnswer x18)]⟩) ?_ (fun d25 => ?_)
  exact DE.all [5] (by kernel_rfl) (by simp) (List.forall_mem_cons.2 ⟨DEs.mk (i := 5) (L' := #[true, true, true, true, true, true, false, false, true, true, true, false, false]) rfl (EStep.le (EStep.ofN2 tbok (σ' := ⟨55, [(47, .agg (tc eAnswer x8)), (0, vl eCandidate aList), (1, vs aText), (2, vl eSite aSites), (3, vl eDescription aDescriptions), (9, vl eAnswer s3.2), (10, vi s3.1), (11, .ref 11 0), (46, .own 46), (52, vl eAnswer x20)], [(11, .box (tc eAnswer x8)), (46, oa 59 3 eAnswer x18)]⟩) (by kernel_rfl)) Le.sub0) (by kernel_rfl) d31, (fun _ h => absurd h List.not_mem_nil)⟩)
  refine DE.share (fuel := 5) (L := #[true, true, true, true, true, true, false, false, true, true, false, false, false]) (σ := ⟨55, [(0, vl eCandidate aList), (1, vs aText), (2, vl eSite aSites), (3, vl eDescription aDescriptions), (9, vl eAnswer s3.2), (10, vi s3.1), (46, .own 46), (47, .agg (tc eAnswer x8)), (50, vl eAnswer s3.2), (51, vi j9)], [(46, oa 59 3 eAnswer x18)]⟩) ?_ (fun d24 => ?_)
  exact DE.all [6, 10] (by kernel_rfl) (by simp) (List.forall_mem_cons.2 ⟨DEs.mk (i := 6) (L' := #[true, true, true, true, true, true, true, false, true, true, false, false, false]) rfl (EStep.le (EStep.ofN2 tbok (σ' := ⟨55, [(48, .own 48), (0, vl eCandidate aList), (1, vs aText), (2, vl eSite aSites), (3, vl eDescription aDescriptions), (9, vl eAnswer s3.2), (10, vi s3.1), (46, .own 46), (47, .agg (tc eAnswer x8)), (50, vl eAnswer s3.2), (51, vi j9)], [(48, oa 59 3 eAnswer ([x8] : List Answer)), (46, oa 59 3 eAnswer x18)]⟩) (by kernel_rfl)) Le.sub0) (by kernel_rfl) d30, (List.forall_mem_cons.2 ⟨DEs.mk (i := 10) (L' := #[true, true, true, true, true, true, false, false, true, true, true, false, false]) rfl (EStep.le (EStep.ofL (x_slice (m := 3) (f := eAnswer) (ti := ti62) (tj := ti59) (e := 59) hx20 (fun _ => rfl) tbok rfl) (by kernel_rfl)) Le.sub0) (by kernel_rfl) d31, (fun _ h => absurd h List.not_mem_nil)⟩)⟩)
  refine DE.share (fuel := 6) (L := #[false, true, true, false, false, true, true, false, true, true, true, false, false]) (σ := ⟨55, [(0, vl eCandidate aList), (1, vs aText), (2, vl eSite aSites), (3, vl eDescription aDescriptions), (9, vl eAnswer s3.2), (10, vi s3.1), (43, vl eAnswer s3.2), (44, vi j9), (48, .own 48), (52, vl eAnswer x20)], [(48, oa 59 3 eAnswer ([x8] : List Answer))]⟩) ?_ (fun d23 => ?_)
  exact DE.all [0, 3] (by kernel_rfl) (by simp) (List.forall_mem_cons.2 ⟨DEs.mk (i := 0) (L' := #[true, true, true, false, false, true, true, false, true, true, true, false, false]) rfl (EStep.le (EStep.ofN2 tbok (σ' := ⟨55, [(42, .own 42), (0, vl eCandidate aList), (1, vs aText), (2, vl eSite aSites), (3, vl eDescription aDescriptions), (9, vl eAnswer s3.2), (10, vi s3.1), (43, vl eAnswer s3.2), (44, vi j9), (48, .own 48), (52, vl eAnswer x20)], [(42, oa 59 3 eAnswer ([] : List Answer)), (48, oa 59 3 eAnswer ([x8] : List Answer))]⟩) (by kernel_rfl)) Le.sub0) (by kernel_rfl) d28, (List.forall_mem_cons.2 ⟨DEs.mk (i := 3) (L' := #[false, true, true, true, false, true, true, false, true, true, true, false, false]) rfl (EStep.le (EStep.ofL (x_slice (m := 3) (f := eAnswer) (ti := ti62) (tj := ti59) (e := 59) hx17 (fun _ => rfl) tbok rfl) (by kernel_rfl)) Le.sub0) (by kernel_rfl) d29, (fun _ h => absurd h List.not_mem_nil)⟩)⟩)
  refine DE.share (fuel := 6) (L := #[false, true, true, true, false, true, false, false, true, true, true, false, false]) (σ := ⟨55, [(0, vl eCandidate aList), (1, vs aText), (2, vl eSite aSites), (3, vl eDescription aDescriptions), (9, vl eAnswer s3.2), (10, vi s3.1), (45, vl eAnswer x17), (47, .agg (tc eAnswer x8)), (52, vl eAnswer x20)], []⟩) ?_ (fun d22 => ?_)
  exact DE.all [0, 6] (by kernel_rfl) (by simp) (List.forall_mem_cons.2 ⟨DEs.mk (i := 0) (L' := #[true, true, true, true, false, true, false, false, true, true, true, false, false]) rfl (EStep.le (EStep.ofN2 tbok (σ' := ⟨55, [(42, .own 42), (0, vl eCandidate aList), (1, vs aText), (2, vl eSite aSites), (3, vl eDescription aDescriptions), (9, vl eAnswer s3.2), (10, vi s3.1), (45, vl eAnswer x17), (47, .agg (tc eAnswer x8)), (52, vl eAnswer x20)], [(42, oa 59 3 eAnswer ([] : List Answer))]⟩) (by kernel_rfl)) Le.sub0) (by kernel_rfl) d27, (List.forall_mem_cons.2 ⟨DEs.mk (i := 6) (L' := #[false, true, true, true, false, true, true, false, true, true, true, false, false]) rfl (EStep.le (EStep.ofN2 tbok (σ' := ⟨55, [(48, .own 48), (0, vl eCandidate aList), (1, vs aText), (2, vl eSite aSites), (3, vl eDescription aDescriptions), (9, vl eAnswer s3.2), (10, vi s3.1), (45, vl eAnswer x17), (47, .agg (tc eAnswer x8)), (52, vl eAnswer x20)], [(48, oa 59 3 eAnswer ([x8] : List Answer))]⟩) (by kernel_rfl)) Le.sub0) (by kernel_rfl) d29, (fun _ h => absurd h List.not_mem_nil)⟩)⟩)
  refine DE.share (fuel := 6) (L := #[false, true, true, true, false, true, true, false, true, true, false, false, false]) (σ := ⟨55, [(0, vl eCandidate aList), (1, vs aText), (2, vl eSite aSites), (3, vl eDescription aDescriptions), (9, vl eAnswer s3.2), (10, vi s3.1), (45, vl eAnswer x17), (48, .own 48), (50, vl eAnswer s3.2), (51, vi j9)], [(48, oa 59 3 eAnswer ([x8] : List Answer))]⟩) ?_ (fun d21 => ?_)
  exact DE.all [0, 10] (by kernel_rfl) (by simp) (List.forall_mem_cons.2 ⟨DEs.mk (i := 0) (L' := #[true, true, true, true, false, true, true, false, true, true, false, false, false]) rfl (EStep.le (EStep.ofN2 tbok (σ' := ⟨55, [(42, .own 42), (0, vl eCandidate aList), (1, vs aText), (2, vl eSite aSites), (3, vl eDescription aDescriptions), (9, vl eAnswer s3.2), (10, vi s3.1), (45, vl eAnswer x17), (48, .own 48), (50, vl eAnswer s3.2), (51, vi j9)], [(42, oa 59 3 eAnswer ([] : List Answer)), (48, oa 59 3 eAnswer ([x8] : List Answer))]⟩) (by kernel_rfl)) Le.sub0) (by kernel_rfl) d26, (List.forall_mem_cons.2 ⟨DEs.mk (i := 10) (L' := #[false, true, true, true, false, true, true, false, true, true, true, false, false]) rfl (EStep.le (EStep.ofL (x_slice (m := 3) (f := eAnswer) (ti := ti62) (tj := ti59) (e := 59) hx20 (fun _ => rfl) tbok rfl) (by kernel_rfl)) Le.sub0) (by kernel_rfl) d29, (fun _ h => absurd h List.not_mem_nil)⟩)⟩)
  refine DE.share (fuel := 6) (L := #[true, true, true, false, false, true, false, false, true, true, true, false, false]) (σ := ⟨55, [(0, vl eCandidate aList), (1, vs aText), (2, vl eSite aSites), (3, vl eDescription aDescriptions), (9, vl eAnswer s3.2), (10, vi s3.1), (42, .own 42), (43, vl eAnswer s3.2), (44, vi j9), (47, .agg (tc eAnswer x8)), (52, vl eAnswer x20)], [(42, oa 59 3 eAnswer ([] : List Answer))]⟩) ?_ (fun d20 => ?_)
  exact DE.all [3, 6] (by kernel_rfl) (by simp) (List.forall_mem_cons.2 ⟨DEs.mk (i := 3) (L' := #[true, true, true, true, false, true, false, false, true, true, true, false, false]) rfl (EStep.le (EStep.ofL (x_slice (m := 3) (f := eAnswer) (ti := ti62) (tj := ti59) (e := 59) hx17 (fun _ => rfl) tbok rfl) (by kernel_rfl)) Le.sub0) (by kernel_rfl) d27, (List.forall_mem_cons.2 ⟨DEs.mk (i := 6) (L' := #[true, true, true, false, false, true, true, false, true, true, true, false, false]) rfl (EStep.le (EStep.ofN2 tbok (σ' := ⟨55, [(48, .own 48), (0, vl eCandidate aList), (1, vs aText), (2, vl eSite aSites), (3, vl eDescription aDescriptions), (9, vl eAnswer s3.2), (10, vi s3.1), (42, .own 42), (43, vl eAnswer s3.2), (44, vi j9), (47, .agg (tc eAnswer x8)), (52, vl eAnswer x20)], [(48, oa 59 3 eAnswer ([x8] : List Answer)), (42, oa 59 3 eAnswer ([] : List Answer))]⟩) (by kernel_rfl)) Le.sub0) (by kernel_rfl) d28, (fun _ h => absurd h List.not_mem_nil)⟩)⟩)
  refine DE.share (fuel := 6) (L := #[true, true, true, false, false, true, true, false, true, true, false, false, false]) (σ := ⟨55, [(0, vl eCandidate aList), (1, vs aText), (2, vl eSite aSites), (3, vl eDescription aDescriptions), (9, vl eAnswer s3.2), (10, vi s3.1), (42, .own 42), (43, vl eAnswer s3.2), (44, vi j9), (48, .own 48), (50, vl eAnswer s3.2), (51, vi j9)], [(42, oa 59 3 eAnswer ([] : List Answer)), (48, oa 59 3 eAnswer ([x8] : List Answer))]⟩) ?_ (fun d19 => ?_)
  exact DE.all [3, 10] (by kernel_rfl) (by simp) (List.forall_mem_cons.2 ⟨DEs.mk (i := 3) (L' := #[true, true, true, true, false, true, true, false, true, true, false, false, false]) rfl (EStep.le (EStep.ofL (x_slice (m := 3) (f := eAnswer) (ti := ti62) (tj := ti59) (e := 59) hx17 (fun _ => rfl) tbok rfl) (by kernel_rfl)) Le.sub0) (by kernel_rfl) d26, (List.forall_mem_cons.2 ⟨DEs.mk (i := 10) (L' := #[true, true, true, false, false, true, true, false, true, true, true, false, false]) rfl (EStep.le (EStep.ofL (x_slice (m := 3) (f := eAnswer) (ti := ti62) (tj := ti59) (e := 59) hx20 (fun _ => rfl) tbok rfl) (by kernel_rfl)) Le.sub0) (by kernel_rfl) d28, (fun _ h => absurd h List.not_mem_nil)⟩)⟩)
  refine DE.share (fuel := 6) (L := #[true, true, true, true, false, false, false, false, true, true, true, false, false]) (σ := ⟨55, [(0, vl eCandidate aList), (1, vs aText), (2, vl eSite aSites), (3, vl eDescription aDescriptions), (9, vl eAnswer s3.2), (10, vi s3.1), (11, .ref 11 0), (42, .own 42), (45, vl eAnswer x17), (52, vl eAnswer x20)], [(11, .box (tc eAnswer x8)), (42, oa 59 3 eAnswer ([] : List Answer))]⟩) ?_ (fun d18 => ?_)
  exact DE.all [4, 5] (by kernel_rfl) (by simp) (List.forall_mem_cons.2 ⟨DEs.mk (i := 4) (L' := #[true, true, true, true, true, false, false, false, true, true, true, false, false]) rfl (EStep.le (x_append (f := eAnswer) (t := 62) (ti := ti62) (tj := ti59) (zs := [.string (ByteArray.mk #[]), .int .i64 0, .int .i64 0]) (e := 59) (m := 3) (d := 42) (xv := vl eAnswer x17) hx18 tbok rfl rfl rfl rfl (src_e (fun _ => rfl))) Le.sub0) (by kernel_rfl) d25, (List.forall_mem_cons.2 ⟨DEs.mk (i := 5) (L' := #[true, true, true, true, false, true, false, false, true, true, true, false, false]) rfl (EStep.le (EStep.ofN2 tbok (σ' := ⟨55, [(47, .agg (tc eAnswer x8)), (0, vl eCandidate aList), (1, vs aText), (2, vl eSite aSites), (3, vl eDescription aDescriptions), (9, vl eAnswer s3.2), (10, vi s3.1), (11, .ref 11 0), (42, .own 42), (45, vl eAnswer x17), (52, vl eAnswer x20)], [(11, .box (tc eAnswer x8)), (42, oa 59 3 eAnswer ([] : List Answer))]⟩) (by kernel_rfl)) Le.sub0) (by kernel_rfl) d27, (fun _ h => absurd h List.not_mem_nil)⟩)⟩)
  refine DE.share (fuel := 6) (L := #[true, true, true, true, false, true, false, false, true, true, false, false, false]) (σ := ⟨55, [(0, vl eCandidate aList), (1, vs aText), (2, vl eSite aSites), (3, vl eDescription aDescriptions), (9, vl eAnswer s3.2), (10, vi s3.1), (42, .own 42), (45, vl eAnswer x17), (47, .agg (tc eAnswer x8)), (50, vl eAnswer s3.2), (51, vi j9)], [(42, oa 59 3 eAnswer ([] : List Answer))]⟩) ?_ (fun d17 => ?_)
  exact DE.all [4, 6, 10] (by kernel_rfl) (by simp) (List.forall_mem_cons.2 ⟨DEs.mk (i := 4) (L' := #[true, true, true, true, true, true, false, false, true, true, false, false, false]) rfl (EStep.le (x_append (f := eAnswer) (t := 62) (ti := ti62) (tj := ti59) (zs := [.string (ByteArray.mk #[]), .int .i64 0, .int .i64 0]) (e := 59) (m := 3) (d := 42) (xv := vl eAnswer x17) hx18 tbok rfl rfl rfl rfl (src_e (fun _ => rfl))) Le.sub0) (by kernel_rfl) d24, (List.forall_mem_cons.2 ⟨DEs.mk (i := 6) (L' := #[true, true, true, true, false, true, true, false, true, true, false, false, false]) rfl (EStep.le (EStep.ofN2 tbok (σ' := ⟨55, [(48, .own 48), (0, vl eCandidate aList), (1, vs aText), (2, vl eSite aSites), (3, vl eDescription aDescriptions), (9, vl eAnswer s3.2), (10, vi s3.1), (42, .own 42), (45, vl eAnswer x17), (47, .agg (tc eAnswer x8)), (50, vl eAnswer s3.2), (51, vi j9)], [(48, oa 59 3 eAnswer ([x8] : List Answer)), (42, oa 59 3 eAnswer ([] : List Answer))]⟩) (by kernel_rfl)) Le.sub0) (by kernel_rfl) d26, (List.forall_mem_cons.2 ⟨DEs.mk (i := 10) (L' := #[true, true, true, true, false, true, false, false, true, true, true, false, false]) rfl (EStep.le (EStep.ofL (x_slice (m := 3) (f := eAnswer) (ti := ti62) (tj := ti59) (e := 59) hx20 (fun _ => rfl) tbok rfl) (by kernel_rfl)) Le.sub0) (by kernel_rfl) d27, (fun _ h => absurd h List.not_mem_nil)⟩)⟩)⟩)
  refine DE.share (fuel := 6) (L := #[true, true, true, true, true, false, false, false, true, true, false, false, false]) (σ := ⟨55, [(0, vl eCandidate aList), (1, vs aText), (2, vl eSite aSites), (3, vl eDescription aDescriptions), (9, vl eAnswer s3.2), (10, vi s3.1), (11, .ref 11 0), (46, .own 46), (50, vl eAnswer s3.2), (51, vi j9)], [(11, .box (tc eAnswer x8)), (46, oa 59 3 eAnswer x18)]⟩) ?_ (fun d16 => ?_)
  exact DE.all [5, 10] (by kernel_rfl) (by simp) (List.forall_mem_cons.2 ⟨DEs.mk (i := 5) (L' := #[true, true, true, true, true, true, false, false, true, true, false, false, false]) rfl (EStep.le (EStep.ofN2 tbok (σ' := ⟨55, [(47, .agg (tc eAnswer x8)), (0, vl eCandidate aList), (1, vs aText), (2, vl eSite aSites), (3, vl eDescription aDescriptions), (9, vl eAnswer s3.2), (10, vi s3.1), (11, .ref 11 0), (46, .own 46), (50, vl eAnswer s3.2), (51, vi j9)], [(11, .box (tc eAnswer x8)), (46, oa 59 3 eAnswer x18)]⟩) (by kernel_rfl)) Le.sub0) (by kernel_rfl) d24, (List.forall_mem_cons.2 ⟨DEs.mk (i := 10) (L' := #[true, true, true, true, true, false, false, false, true, true, true, false, false]) rfl (EStep.le (EStep.ofL (x_slice (m := 3) (f := eAnswer) (ti := ti62) (tj := ti59) (e := 59) hx20 (fun _ => rfl) tbok rfl) (by kernel_rfl)) Le.sub0) (by kernel_rfl) d25, (fun _ h => absurd h List.not_mem_nil)⟩)⟩)
  refine DE.share (fuel := 7) (L := #[false, true, true, false, false, true, false, false, true, true, true, false, false]) (σ := ⟨55, [(0, vl eCandidate aList), (1, vs aText), (2, vl eSite aSites), (3, vl eDescription aDescriptions), (9, vl eAnswer s3.2), (10, vi s3.1), (43, vl eAnswer s3.2), (44, vi j9), (47, .agg (tc eAnswer x8)), (52, vl eAnswer x20)], []⟩) ?_ (fun d15 => ?_)
  exact DE.all [0, 3, 6] (by kernel_rfl) (by simp) (List.forall_mem_cons.2 ⟨DEs.mk (i := 0) (L' := #[true, true, true, false, false, true, false, false, true, true, true, false, false]) rfl (EStep.le (EStep.ofN2 tbok (σ' := ⟨55, [(42, .own 42), (0, vl eCandidate aList), (1, vs aText), (2, vl eSite aSites), (3, vl eDescription aDescriptions), (9, vl eAnswer s3.2), (10, vi s3.1), (43, vl eAnswer s3.2), (44, vi j9), (47, .agg (tc eAnswer x8)), (52, vl eAnswer x20)], [(42, oa 59 3 eAnswer ([] : List Answer))]⟩) (by kernel_rfl)) Le.sub0) (by kernel_rfl) d20, (List.forall_mem_cons.2 ⟨DEs.mk (i := 3) (L' := #[false, true, true, true, false, true, false, false, true, true, true, false, false]) rfl (EStep.le (EStep.ofL (x_slice (m := 3) (f := eAnswer) (ti := ti62) (tj := ti59) (e := 59) hx17 (fun _ => rfl) tbok rfl) (by kernel_rfl)) Le.sub0) (by kernel_rfl) d22, (List.forall_mem_cons.2 ⟨DEs.mk (i := 6) (L' := #[false, true, true, false, false, true, true, false, true, true, true, false, false]) rfl (EStep.le (EStep.ofN2 tbok (σ' := ⟨55, [(48, .own 48), (0, vl eCandidate aList), (1, vs aText), (2, vl eSite aSites), (3, vl eDescription aDescriptions), (9, vl eAnswer s3.2), (10, vi s3.1), (43, vl eAnswer s3.2), (44, vi j9), (47, .agg (tc eAnswer x8)), (52, vl eAnswer x20)], [(48, oa 59 3 eAnswer ([x8] : List Answer))]⟩) (by kernel_rfl)) Le.sub0) (by kernel_rfl) d23, (fun _ h => absurd h List.not_mem_nil)⟩)⟩)⟩)
  refine DE.share (fuel := 7) (L := #[false, true, true, false, false, true, true, false, true, true, false, false, false]) (σ := ⟨55, [(0, vl eCandidate aList), (1, vs aText), (2, vl eSite aSites), (3, vl eDescription aDescriptions), (9, vl eAnswer s3.2), (10, vi s3.1), (43, vl eAnswer s3.2), (44, vi j9), (48, .own 48), (50, vl eAnswer s3.2), (51, vi j9)], [(48, oa 59 3 eAnswer ([x8] : List Answer))]⟩) ?_ (fun d14 => ?_)
  exact DE.all [0, 3, 10] (by kernel_rfl) (by simp) (List.forall_mem_cons.2 ⟨DEs.mk (i := 0) (L' := #[true, true, true, false, false, true, true, false, true, true, false, false, false]) rfl (EStep.le (EStep.ofN2 tbok (σ' := ⟨55, [(42, .own 42), (0, vl eCandidate aList), (1, vs aText), (2, vl eSite aSites), (3, vl eDescription aDescriptions), (9, vl eAnswer s3.2), (10, vi s3.1), (43, vl eAnswer s3.2), (44, vi j9), (48, .own 48), (50, vl eAnswer s3.2), (51, vi j9)], [(42, oa 59 3 eAnswer ([] : List Answer)), (48, oa 59 3 eAnswer ([x8] : List Answer))]⟩) (by kernel_rfl)) Le.sub0) (by kernel_rfl) d19, (List.forall_mem_cons.2 ⟨DEs.mk (i := 3) (L' := #[false, true, true, true, false, true, true, false, true, true, false, false, false]) rfl (EStep.le (EStep.ofL (x_slice (m := 3) (f := eAnswer) (ti := ti62) (tj := ti59) (e := 59) hx17 (fun _ => rfl) tbok rfl) (by kernel_rfl)) Le.sub0) (by kernel_rfl) d21, (List.forall_mem_cons.2 ⟨DEs.mk (i := 10) (L' := #[false, true, true, false, false, true, true, false, true, true, true, false, false]) rfl (EStep.le (EStep.ofL (x_slice (m := 3) (f := eAnswer) (ti := ti62) (tj := ti59) (e := 59) hx20 (fun _ => rfl) tbok rfl) (by kernel_rfl)) Le.sub0) (by kernel_rfl) d23, (fun _ h => absurd h List.not_mem_nil)⟩)⟩)⟩)
  refine DE.share (fuel := 7) (L := #[false, true, true, true, false, false, false, false, true, true, true, false, false]) (σ := ⟨55, [(0, vl eCandidate aList), (1, vs aText), (2, vl eSite aSites), (3, vl eDescription aDescriptions), (9, vl eAnswer s3.2), (10, vi s3.1), (11, .ref 11 0), (45, vl eAnswer x17), (52, vl eAnswer x20)], [(11, .box (tc eAnswer x8))]⟩) ?_ (fun d13 => ?_)
  exact DE.all [0, 5] (by kernel_rfl) (by simp) (List.forall_mem_cons.2 ⟨DEs.mk (i := 0) (L' := #[true, true, true, true, false, false, false, false, true, true, true, false, false]) rfl (EStep.le (EStep.ofN2 tbok (σ' := ⟨55, [(42, .own 42), (0, vl eCandidate aList), (1, vs aText), (2, vl eSite aSites), (3, vl eDescription aDescriptions), (9, vl eAnswer s3.2), (10, vi s3.1), (11, .ref 11 0), (45, vl eAnswer x17), (52, vl eAnswer x20)], [(42, oa 59 3 eAnswer ([] : List Answer)), (11, .box (tc eAnswer x8))]⟩) (by kernel_rfl)) Le.sub0) (by kernel_rfl) d18, (List.forall_mem_cons.2 ⟨DEs.mk (i := 5) (L' := #[false, true, true, true, false, true, false, false, true, true, true, false, false]) rfl (EStep.le (EStep.ofN2 tbok (σ' := ⟨55, [(47, .agg (tc eAnswer x8)), (0, vl eCandidate aList), (1, vs aText), (2, vl eSite aSites), (3, vl eDescription aDescriptions), (9, vl eAnswer s3.2), (10, vi s3.1), (11, .ref 11 0), (45, vl eAnswer x17), (52, vl eAnswer x20)], [(11, .box (tc eAnswer x8))]⟩) (by kernel_rfl)) Le.sub0) (by kernel_rfl) d22, (fun _ h => absurd h List.not_mem_nil)⟩)⟩)
  refine DE.share (fuel := 7) (L := #[false, true, true, true, false, true, false, false, true, true, false, false, false]) (σ := ⟨55, [(0, vl eCandidate aList), (1, vs aText), (2, vl eSite aSites), (3, vl eDescription aDescriptions), (9, vl eAnswer s3.2), (10, vi s3.1), (45, vl eAnswer x17), (47, .agg (tc eAnswer x8)), (50, vl eAnswer s3.2), (51, vi j9)], []⟩) ?_ (fun d12 => ?_)
  exact DE.all [0, 6, 10] (by kernel_rfl) (by simp) (List.forall_mem_cons.2 ⟨DEs.mk (i := 0) (L' := #[true, true, true, true, false, true, false, false, true, true, false, false, false]) rfl (EStep.le (EStep.ofN2 tbok (σ' := ⟨55, [(42, .own 42), (0, vl eCandidate aList), (1, vs aText), (2, vl eSite aSites), (3, vl eDescription aDescriptions), (9, vl eAnswer s3.2), (10, vi s3.1), (45, vl eAnswer x17), (47, .agg (tc eAnswer x8)), (50, vl eAnswer s3.2), (51, vi j9)], [(42, oa 59 3 eAnswer ([] : List Answer))]⟩) (by kernel_rfl)) Le.sub0) (by kernel_rfl) d17, (List.forall_mem_cons.2 ⟨DEs.mk (i := 6) (L' := #[false, true, true, true, false, true, true, false, true, true, false, false, false]) rfl (EStep.le (EStep.ofN2 tbok (σ' := ⟨55, [(48, .own 48), (0, vl eCandidate aList), (1, vs aText), (2, vl eSite aSites), (3, vl eDescription aDescriptions), (9, vl eAnswer s3.2), (10, vi s3.1), (45, vl eAnswer x17), (47, .agg (tc eAnswer x8)), (50, vl eAnswer s3.2), (51, vi j9)], [(48, oa 59 3 eAnswer ([x8] : List Answer))]⟩) (by kernel_rfl)) Le.sub0) (by kernel_rfl) d21, (List.forall_mem_cons.2 ⟨DEs.mk (i := 10) (L' := #[false, true, true, true, false, true, false, false, true, true, true, false, false]) rfl (EStep.le (EStep.ofL (x_slice (m := 3) (f := eAnswer) (ti := ti62) (tj := ti59) (e := 59) hx20 (fun _ => rfl) tbok rfl) (by kernel_rfl)) Le.sub0) (by kernel_rfl) d22, (fun _ h => absurd h List.not_mem_nil)⟩)⟩)⟩)
  refine DE.share (fuel := 7) (L := #[true, true, true, false, false, false, false, false, true, true, true, false, false]) (σ := ⟨55, [(0, vl eCandidate aList), (1, vs aText), (2, vl eSite aSites), (3, vl eDescription aDescriptions), (9, vl eAnswer s3.2), (10, vi s3.1), (11, .ref 11 0), (42, .own 42), (43, vl eAnswer s3.2), (44, vi j9), (52, vl eAnswer x20)], [(11, .box (tc eAnswer x8)), (42, oa 59 3 eAnswer ([] : List Answer))]⟩) ?_ (fun d11 => ?_)
  exact DE.all [3, 5] (by kernel_rfl) (by simp) (List.forall_mem_cons.2 ⟨DEs.mk (i := 3) (L' := #[true, true, true, true, false, false, false, false, true, true, true, false, false]) rfl (EStep.le (EStep.ofL (x_slice (m := 3) (f := eAnswer) (ti := ti62) (tj := ti59) (e := 59) hx17 (fun _ => rfl) tbok rfl) (by kernel_rfl)) Le.sub0) (by kernel_rfl) d18, (List.forall_mem_cons.2 ⟨DEs.mk (i := 5) (L' := #[true, true, true, false, false, true, false, false, true, true, true, false, false]) rfl (EStep.le (EStep.ofN2 tbok (σ' := ⟨55, [(47, .agg (tc eAnswer x8)), (0, vl eCandidate aList), (1, vs aText), (2, vl eSite aSites), (3, vl eDescription aDescriptions), (9, vl eAnswer s3.2), (10, vi s3.1), (11, .ref 11 0), (42, .own 42), (43, vl eAnswer s3.2), (44, vi j9), (52, vl eAnswer x20)], [(11, .box (tc eAnswer x8)), (42, oa 59 3 eAnswer ([] : List Answer))]⟩) (by kernel_rfl)) Le.sub0) (by kernel_rfl) d20, (fun _ h => absurd h List.not_mem_nil)⟩)⟩)
  refine DE.share (fuel := 7) (L := #[true, true, true, false, false, true, false, false, true, true, false, false, false]) (σ := ⟨55, [(0, vl eCandidate aList), (1, vs aText), (2, vl eSite aSites), (3, vl eDescription aDescriptions), (9, vl eAnswer s3.2), (10, vi s3.1), (42, .own 42), (43, vl eAnswer s3.2), (44, vi j9), (47, .agg (tc eAnswer x8)), (50, vl eAnswer s3.2), (51, vi j9)], [(42, oa 59 3 eAnswer ([] : List Answer))]⟩) ?_ (fun d10 => ?_)
  exact DE.all [3, 6, 10] (by kernel_rfl) (by simp) (List.forall_mem_cons.2 ⟨DEs.mk (i := 3) (L' := #[true, true, true, true, false, true, false, false, true, true, false, false, false]) rfl (EStep.le (EStep.ofL (x_slice (m := 3) (f := eAnswer) (ti := ti62) (tj := ti59) (e := 59) hx17 (fun _ => rfl) tbok rfl) (by kernel_rfl)) Le.sub0) (by kernel_rfl) d17, (List.forall_mem_cons.2 ⟨DEs.mk (i := 6) (L' := #[true, true, true, false, false, true, true, false, true, true, false, false, false]) rfl (EStep.le (EStep.ofN2 tbok (σ' := ⟨55, [(48, .own 48), (0, vl eCandidate aList), (1, vs aText), (2, vl eSite aSites), (3, vl eDescription aDescriptions), (9, vl eAnswer s3.2), (10, vi s3.1), (42, .own 42), (43, vl eAnswer s3.2), (44, vi j9), (47, .agg (tc eAnswer x8)), (50, vl eAnswer s3.2), (51, vi j9)], [(48, oa 59 3 eAnswer ([x8] : List Answer)), (42, oa 59 3 eAnswer ([] : List Answer))]⟩) (by kernel_rfl)) Le.sub0) (by kernel_rfl) d19, (List.forall_mem_cons.2 ⟨DEs.mk (i := 10) (L' := #[true, true, true, false, false, true, false, false, true, true, true, false, false]) rfl (EStep.le (EStep.ofL (x_slice (m := 3) (f := eAnswer) (ti := ti62) (tj := ti59) (e := 59) hx20 (fun _ => rfl) tbok rfl) (by kernel_rfl)) Le.sub0) (by kernel_rfl) d20, (fun _ h => absurd h List.not_mem_nil)⟩)⟩)⟩)
  refine DE.share (fuel := 7) (L := #[true, true, true, true, false, false, false, false, true, true, false, false, false]) (σ := ⟨55, [(0, vl eCandidate aList), (1, vs aText), (2, vl eSite aSites), (3, vl eDescription aDescriptions), (9, vl eAnswer s3.2), (10, vi s3.1), (11, .ref 11 0), (42, .own 42), (45, vl eAnswer x17), (50, vl eAnswer s3.2), (51, vi j9)], [(11, .box (tc eAnswer x8)), (42, oa 59 3 eAnswer ([] : List Answer))]⟩) ?_ (fun d9 => ?_)
  exact DE.all [4, 5, 10] (by kernel_rfl) (by simp) (List.forall_mem_cons.2 ⟨DEs.mk (i := 4) (L' := #[true, true, true, true, true, false, false, false, true, true, false, false, false]) rfl (EStep.le (x_append (f := eAnswer) (t := 62) (ti := ti62) (tj := ti59) (zs := [.string (ByteArray.mk #[]), .int .i64 0, .int .i64 0]) (e := 59) (m := 3) (d := 42) (xv := vl eAnswer x17) hx18 tbok rfl rfl rfl rfl (src_e (fun _ => rfl))) Le.sub0) (by kernel_rfl) d16, (List.forall_mem_cons.2 ⟨DEs.mk (i := 5) (L' := #[true, true, true, true, false, true, false, false, true, true, false, false, false]) rfl (EStep.le (EStep.ofN2 tbok (σ' := ⟨55, [(47, .agg (tc eAnswer x8)), (0, vl eCandidate aList), (1, vs aText), (2, vl eSite aSites), (3, vl eDescription aDescriptions), (9, vl eAnswer s3.2), (10, vi s3.1), (11, .ref 11 0), (42, .own 42), (45, vl eAnswer x17), (50, vl eAnswer s3.2), (51, vi j9)], [(11, .box (tc eAnswer x8)), (42, oa 59 3 eAnswer ([] : List Answer))]⟩) (by kernel_rfl)) Le.sub0) (by kernel_rfl) d17, (List.forall_mem_cons.2 ⟨DEs.mk (i := 10) (L' := #[true, true, true, true, false, false, false, false, true, true, true, false, false]) rfl (EStep.le (EStep.ofL (x_slice (m := 3) (f := eAnswer) (ti := ti62) (tj := ti59) (e := 59) hx20 (fun _ => rfl) tbok rfl) (by kernel_rfl)) Le.sub0) (by kernel_rfl) d18, (fun _ h => absurd h List.not_mem_nil)⟩)⟩)⟩)
  refine DE.share (fuel := 8) (L := #[false, true, true, false, false, false, false, false, true, true, true, false, false]) (σ := ⟨55, [(0, vl eCandidate aList), (1, vs aText), (2, vl eSite aSites), (3, vl eDescription aDescriptions), (9, vl eAnswer s3.2), (10, vi s3.1), (11, .ref 11 0), (43, vl eAnswer s3.2), (44, vi j9), (52, vl eAnswer x20)], [(11, .box (tc eAnswer x8))]⟩) ?_ (fun d8 => ?_)
  exact DE.all [0, 3, 5] (by kernel_rfl) (by simp) (List.forall_mem_cons.2 ⟨DEs.mk (i := 0) (L' := #[true, true, true, false, false, false, false, false, true, true, true, false, false]) rfl (EStep.le (EStep.ofN2 tbok (σ' := ⟨55, [(42, .own 42), (0, vl eCandidate aList), (1, vs aText), (2, vl eSite aSites), (3, vl eDescription aDescriptions), (9, vl eAnswer s3.2), (10, vi s3.1), (11, .ref 11 0), (43, vl eAnswer s3.2), (44, vi j9), (52, vl eAnswer x20)], [(42, oa 59 3 eAnswer ([] : List Answer)), (11, .box (tc eAnswer x8))]⟩) (by kernel_rfl)) Le.sub0) (by kernel_rfl) d11, (List.forall_mem_cons.2 ⟨DEs.mk (i := 3) (L' := #[false, true, true, true, false, false, false, false, true, true, true, false, false]) rfl (EStep.le (EStep.ofL (x_slice (m := 3) (f := eAnswer) (ti := ti62) (tj := ti59) (e := 59) hx17 (fun _ => rfl) tbok rfl) (by kernel_rfl)) Le.sub0) (by kernel_rfl) d13, (List.forall_mem_cons.2 ⟨DEs.mk (i := 5) (L' := #[false, true, true, false, false, true, false, false, true, true, true, false, false]) rfl (EStep.le (EStep.ofN2 tbok (σ' := ⟨55, [(47, .agg (tc eAnswer x8)), (0, vl eCandidate aList), (1, vs aText), (2, vl eSite aSites), (3, vl eDescription aDescriptions), (9, vl eAnswer s3.2), (10, vi s3.1), (11, .ref 11 0), (43, vl eAnswer s3.2), (44, vi j9), (52, vl eAnswer x20)], [(11, .box (tc eAnswer x8))]⟩) (by kernel_rfl)) Le.sub0) (by kernel_rfl) d15, (fun _ h => absurd h List.not_mem_nil)⟩)⟩)⟩)
  refine DE.share (fuel := 8) (L := #[false, true, true, false, false, true, false, false, true, true, false, false, false]) (σ := ⟨55, [(0, vl eCandidate aList), (1, vs aText), (2, vl eSite aSites), (3, vl eDescription aDescriptions), (9, vl eAnswer s3.2), (10, vi s3.1), (43, vl eAnswer s3.2), (44, vi j9), (47, .agg (tc eAnswer x8)), (50, vl eAnswer s3.2), (51, vi j9)], []⟩) ?_ (fun d7 => ?_)
  exact DE.all [0, 3, 6, 10] (by kernel_rfl) (by simp) (List.forall_mem_cons.2 ⟨DEs.mk (i := 0) (L' := #[true, true, true, false, false, true, false, false, true, true, false, false, false]) rfl (EStep.le (EStep.ofN2 tbok (σ' := ⟨55, [(42, .own 42), (0, vl eCandidate aList), (1, vs aText), (2, vl eSite aSites), (3, vl eDescription aDescriptions), (9, vl eAnswer s3.2), (10, vi s3.1), (43, vl eAnswer s3.2), (44, vi j9), (47, .agg (tc eAnswer x8)), (50, vl eAnswer s3.2), (51, vi j9)], [(42, oa 59 3 eAnswer ([] : List Answer))]⟩) (by kernel_rfl)) Le.sub0) (by kernel_rfl) d10, (List.forall_mem_cons.2 ⟨DEs.mk (i := 3) (L' := #[false, true, true, true, false, true, false, false, true, true, false, false, false]) rfl (EStep.le (EStep.ofL (x_slice (m := 3) (f := eAnswer) (ti := ti62) (tj := ti59) (e := 59) hx17 (fun _ => rfl) tbok rfl) (by kernel_rfl)) Le.sub0) (by kernel_rfl) d12, (List.forall_mem_cons.2 ⟨DEs.mk (i := 6) (L' := #[false, true, true, false, false, true, true, false, true, true, false, false, false]) rfl (EStep.le (EStep.ofN2 tbok (σ' := ⟨55, [(48, .own 48), (0, vl eCandidate aList), (1, vs aText), (2, vl eSite aSites), (3, vl eDescription aDescriptions), (9, vl eAnswer s3.2), (10, vi s3.1), (43, vl eAnswer s3.2), (44, vi j9), (47, .agg (tc eAnswer x8)), (50, vl eAnswer s3.2), (51, vi j9)], [(48, oa 59 3 eAnswer ([x8] : List Answer))]⟩) (by kernel_rfl)) Le.sub0) (by kernel_rfl) d14, (List.forall_mem_cons.2 ⟨DEs.mk (i := 10) (L' := #[false, true, true, false, false, true, false, false, true, true, true, false, false]) rfl (EStep.le (EStep.ofL (x_slice (m := 3) (f := eAnswer) (ti := ti62) (tj := ti59) (e := 59) hx20 (fun _ => rfl) tbok rfl) (by kernel_rfl)) Le.sub0) (by kernel_rfl) d15, (fun _ h => absurd h List.not_mem_nil)⟩)⟩)⟩)⟩)
  refine DE.share (fuel := 8) (L := #[false, true, true, true, false, false, false, false, true, true, false, false, false]) (σ := ⟨55, [(0, vl eCandidate aList), (1, vs aText), (2, vl eSite aSites), (3, vl eDescription aDescriptions), (9, vl eAnswer s3.2), (10, vi s3.1), (11, .ref 11 0), (45, vl eAnswer x17), (50, vl eAnswer s3.2), (51, vi j9)], [(11, .box (tc eAnswer x8))]⟩) ?_ (fun d6 => ?_)
  exact DE.all [0, 5, 10] (by kernel_rfl) (by simp) (List.forall_mem_cons.2 ⟨DEs.mk (i := 0) (L' := #[true, true, true, true, false, false, false, false, true, true, false, false, false]) rfl (EStep.le (EStep.ofN2 tbok (σ' := ⟨55, [(42, .own 42), (0, vl eCandidate aList), (1, vs aText), (2, vl eSite aSites), (3, vl eDescription aDescriptions), (9, vl eAnswer s3.2), (10, vi s3.1), (11, .ref 11 0), (45, vl eAnswer x17), (50, vl eAnswer s3.2), (51, vi j9)], [(42, oa 59 3 eAnswer ([] : List Answer)), (11, .box (tc eAnswer x8))]⟩) (by kernel_rfl)) Le.sub0) (by kernel_rfl) d9, (List.forall_mem_cons.2 ⟨DEs.mk (i := 5) (L' := #[false, true, true, true, false, true, false, false, true, true, false, false, false]) rfl (EStep.le (EStep.ofN2 tbok (σ' := ⟨55, [(47, .agg (tc eAnswer x8)), (0, vl eCandidate aList), (1, vs aText), (2, vl eSite aSites), (3, vl eDescription aDescriptions), (9, vl eAnswer s3.2), (10, vi s3.1), (11, .ref 11 0), (45, vl eAnswer x17), (50, vl eAnswer s3.2), (51, vi j9)], [(11, .box (tc eAnswer x8))]⟩) (by kernel_rfl)) Le.sub0) (by kernel_rfl) d12, (List.forall_mem_cons.2 ⟨DEs.mk (i := 10) (L' := #[false, true, true, true, false, false, false, false, true, true, true, false, false]) rfl (EStep.le (EStep.ofL (x_slice (m := 3) (f := eAnswer) (ti := ti62) (tj := ti59) (e := 59) hx20 (fun _ => rfl) tbok rfl) (by kernel_rfl)) Le.sub0) (by kernel_rfl) d13, (fun _ h => absurd h List.not_mem_nil)⟩)⟩)⟩)
  refine DE.share (fuel := 8) (L := #[true, true, true, false, false, false, false, false, true, true, false, false, false]) (σ := ⟨55, [(0, vl eCandidate aList), (1, vs aText), (2, vl eSite aSites), (3, vl eDescription aDescriptions), (9, vl eAnswer s3.2), (10, vi s3.1), (11, .ref 11 0), (42, .own 42), (43, vl eAnswer s3.2), (44, vi j9), (50, vl eAnswer s3.2), (51, vi j9)], [(11, .box (tc eAnswer x8)), (42, oa 59 3 eAnswer ([] : List Answer))]⟩) ?_ (fun d5 => ?_)
  exact DE.all [3, 5, 10] (by kernel_rfl) (by simp) (List.forall_mem_cons.2 ⟨DEs.mk (i := 3) (L' := #[true, true, true, true, false, false, false, false, true, true, false, false, false]) rfl (EStep.le (EStep.ofL (x_slice (m := 3) (f := eAnswer) (ti := ti62) (tj := ti59) (e := 59) hx17 (fun _ => rfl) tbok rfl) (by kernel_rfl)) Le.sub0) (by kernel_rfl) d9, (List.forall_mem_cons.2 ⟨DEs.mk (i := 5) (L' := #[true, true, true, false, false, true, false, false, true, true, false, false, false]) rfl (EStep.le (EStep.ofN2 tbok (σ' := ⟨55, [(47, .agg (tc eAnswer x8)), (0, vl eCandidate aList), (1, vs aText), (2, vl eSite aSites), (3, vl eDescription aDescriptions), (9, vl eAnswer s3.2), (10, vi s3.1), (11, .ref 11 0), (42, .own 42), (43, vl eAnswer s3.2), (44, vi j9), (50, vl eAnswer s3.2), (51, vi j9)], [(11, .box (tc eAnswer x8)), (42, oa 59 3 eAnswer ([] : List Answer))]⟩) (by kernel_rfl)) Le.sub0) (by kernel_rfl) d10, (List.forall_mem_cons.2 ⟨DEs.mk (i := 10) (L' := #[true, true, true, false, false, false, false, false, true, true, true, false, false]) rfl (EStep.le (EStep.ofL (x_slice (m := 3) (f := eAnswer) (ti := ti62) (tj := ti59) (e := 59) hx20 (fun _ => rfl) tbok rfl) (by kernel_rfl)) Le.sub0) (by kernel_rfl) d11, (fun _ h => absurd h List.not_mem_nil)⟩)⟩)⟩)
  refine DE.share (fuel := 9) (L := #[false, true, true, false, false, false, false, false, true, true, false, false, false]) (σ := ⟨55, [(0, vl eCandidate aList), (1, vs aText), (2, vl eSite aSites), (3, vl eDescription aDescriptions), (9, vl eAnswer s3.2), (10, vi s3.1), (11, .ref 11 0), (43, vl eAnswer s3.2), (44, vi j9), (50, vl eAnswer s3.2), (51, vi j9)], [(11, .box (tc eAnswer x8))]⟩) ?_ (fun d4 => ?_)
  exact DE.all [0, 3, 5, 10] (by kernel_rfl) (by simp) (List.forall_mem_cons.2 ⟨DEs.mk (i := 0) (L' := #[true, true, true, false, false, false, false, false, true, true, false, false, false]) rfl (EStep.le (EStep.ofN2 tbok (σ' := ⟨55, [(42, .own 42), (0, vl eCandidate aList), (1, vs aText), (2, vl eSite aSites), (3, vl eDescription aDescriptions), (9, vl eAnswer s3.2), (10, vi s3.1), (11, .ref 11 0), (43, vl eAnswer s3.2), (44, vi j9), (50, vl eAnswer s3.2), (51, vi j9)], [(42, oa 59 3 eAnswer ([] : List Answer)), (11, .box (tc eAnswer x8))]⟩) (by kernel_rfl)) Le.sub0) (by kernel_rfl) d5, (List.forall_mem_cons.2 ⟨DEs.mk (i := 3) (L' := #[false, true, true, true, false, false, false, false, true, true, false, false, false]) rfl (EStep.le (EStep.ofL (x_slice (m := 3) (f := eAnswer) (ti := ti62) (tj := ti59) (e := 59) hx17 (fun _ => rfl) tbok rfl) (by kernel_rfl)) Le.sub0) (by kernel_rfl) d6, (List.forall_mem_cons.2 ⟨DEs.mk (i := 5) (L' := #[false, true, true, false, false, true, false, false, true, true, false, false, false]) rfl (EStep.le (EStep.ofN2 tbok (σ' := ⟨55, [(47, .agg (tc eAnswer x8)), (0, vl eCandidate aList), (1, vs aText), (2, vl eSite aSites), (3, vl eDescription aDescriptions), (9, vl eAnswer s3.2), (10, vi s3.1), (11, .ref 11 0), (43, vl eAnswer s3.2), (44, vi j9), (50, vl eAnswer s3.2), (51, vi j9)], [(11, .box (tc eAnswer x8))]⟩) (by kernel_rfl)) Le.sub0) (by kernel_rfl) d7, (List.forall_mem_cons.2 ⟨DEs.mk (i := 10) (L' := #[false, true, true, false, false, false, false, false, true, true, true, false, false]) rfl (EStep.le (EStep.ofL (x_slice (m := 3) (f := eAnswer) (ti := ti62) (tj := ti59) (e := 59) hx20 (fun _ => rfl) tbok rfl) (by kernel_rfl)) Le.sub0) (by kernel_rfl) d8, (fun _ h => absurd h List.not_mem_nil)⟩)⟩)⟩)⟩)
  refine DE.share (fuel := 10) (L := #[false, true, true, false, false, false, false, false, true, false, false, false, false]) (σ := ⟨55, [(0, vl eCandidate aList), (1, vs aText), (2, vl eSite aSites), (3, vl eDescription aDescriptions), (9, vl eAnswer s3.2), (10, vi s3.1), (11, .ref 11 0), (12, vi j9), (43, vl eAnswer s3.2), (44, vi j9), (50, vl eAnswer s3.2)], [(11, .box (tc eAnswer x8))]⟩) ?_ (fun d3 => ?_)
  exact DE.take (i := 9) (L' := #[false, true, true, false, false, false, false, false, true, true, false, false, false]) rfl (.inl rfl) rfl (by kernel_rfl) (by kernel_rfl) (by kernel_rfl) (EStep.le (EStep.ofN2 tbok (σ' := ⟨55, [(51, vi j9), (0, vl eCandidate aList), (1, vs aText), (2, vl eSite aSites), (3, vl eDescription aDescriptions), (9, vl eAnswer s3.2), (10, vi s3.1), (11, .ref 11 0), (12, vi j9), (43, vl eAnswer s3.2), (44, vi j9), (50, vl eAnswer s3.2)], [(11, .box (tc eAnswer x8))]⟩) (by kernel_rfl)) Le.sub0) (by kernel_rfl) d4
  refine DE.share (fuel := 11) (L := #[false, true, true, false, false, false, false, false, false, false, false, false, false]) (σ := ⟨55, [(0, vl eCandidate aList), (1, vs aText), (2, vl eSite aSites), (3, vl eDescription aDescriptions), (9, vl eAnswer s3.2), (10, vi s3.1), (11, .ref 11 0), (12, vi j9), (43, vl eAnswer s3.2), (44, vi j9)], [(11, .box (tc eAnswer x8))]⟩) ?_ (fun d2 => ?_)
  exact DE.take (i := 8) (L' := #[false, true, true, false, false, false, false, false, true, false, false, false, false]) rfl (.inl rfl) rfl (by kernel_rfl) (by kernel_rfl) (by kernel_rfl) (EStep.le (EStep.ofN2 tbok (σ' := ⟨55, [(50, vl eAnswer s3.2), (0, vl eCandidate aList), (1, vs aText), (2, vl eSite aSites), (3, vl eDescription aDescriptions), (9, vl eAnswer s3.2), (10, vi s3.1), (11, .ref 11 0), (12, vi j9), (43, vl eAnswer s3.2), (44, vi j9)], [(11, .box (tc eAnswer x8))]⟩) (by kernel_rfl)) Le.sub0) (by kernel_rfl) d3
  refine DE.share (fuel := 12) (L := #[false, true, false, false, false, false, false, false, false, false, false, false, false]) (σ := ⟨55, [(0, vl eCandidate aList), (1, vs aText), (2, vl eSite aSites), (3, vl eDescription aDescriptions), (9, vl eAnswer s3.2), (10, vi s3.1), (11, .ref 11 0), (12, vi j9), (43, vl eAnswer s3.2)], [(11, .box (tc eAnswer x8))]⟩) ?_ (fun d1 => ?_)
  exact DE.take (i := 2) (L' := #[false, true, true, false, false, false, false, false, false, false, false, false, false]) rfl (.inl rfl) rfl (by kernel_rfl) (by kernel_rfl) (by kernel_rfl) (EStep.le (EStep.ofN2 tbok (σ' := ⟨55, [(44, vi j9), (0, vl eCandidate aList), (1, vs aText), (2, vl eSite aSites), (3, vl eDescription aDescriptions), (9, vl eAnswer s3.2), (10, vi s3.1), (11, .ref 11 0), (12, vi j9), (43, vl eAnswer s3.2)], [(11, .box (tc eAnswer x8))]⟩) (by kernel_rfl)) Le.sub0) (by kernel_rfl) d2
  exact DE.take (i := 1) (L' := #[false, true, false, false, false, false, false, false, false, false, false, false, false]) rfl (.inl rfl) rfl (by kernel_rfl) (by kernel_rfl) (by kernel_rfl) (EStep.le (EStep.ofN2 tbok (σ' := ⟨55, [(43, vl eAnswer s3.2), (0, vl eCandidate aList), (1, vs aText), (2, vl eSite aSites), (3, vl eDescription aDescriptions), (9, vl eAnswer s3.2), (10, vi s3.1), (11, .ref 11 0), (12, vi j9)], [(11, .box (tc eAnswer x8))]⟩) (by kernel_rfl)) Le.sub0) (by kernel_rfl) d1
  obtain rfl := inj h
  exact q_bn (q_j ((Le.sub' ([(0, vl eCandidate aList), (1, vs aText), (2, vl eSite aSites), (3, vl eDescription aDescriptions), (9, .own 53), (10, vi s3.1)] : List (Nat × SV)) ([(53, oa 59 3 eAnswer x21)] : List (Nat × SO)) (by kernel_rfl) (by kernel_rfl)).trans ((Le.ren' (d := 53) (e := 9) (by kernel_rfl) (by kernel_rfl) (by kernel_rfl)).trans (Le.sub0))))
  refine swp_reg ?_
  refine SRun.ck tbok 3 ⟨55, [(0, vl eCandidate aList), (1, vs aText), (2, vl eSite aSites), (3, vl eDescription aDescriptions), (9, .own 9), (10, vi (w64 (s3.1 + 1)))], [(9, oa 59 3 eAnswer j5)]⟩ ?_
  refine SRun.nil ?_
  obtain rfl := inj h
  exact q_l (Le.sub0)
  refine swp_exit ?_
  obtain rfl := inj h
  exact nx_e (q_re (q_bh (q_j (Le.sub0))))
  refine srk tbok ⟨55, [(8, .own 9)], [(9, oa 59 3 eAnswer j1)]⟩ ?_
  refine swp_ret ?_
  obtain rfl := inj h
  exact q_fr (f1 (fo eAnswer_flat))
theorem ents82 : Ents Tryz.prog 82 := ents_of Tryz.func82 (by kernel_rfl) rfl
noncomputable def spec_LostWithout (aList : (List Candidate)) (aText : ByteArray) (aSites : (List Site)) (aDescriptions : (List Description)) : Option ((List Int) × Int) :=
  ((spec_l30Code aList aText aSites aDescriptions).bind fun x1 => (((bif ((x1 == 0) && ((aList.length : Int) == 0)) then some 4 else some x1)).bind fun (j2 : Int) => (bif (j2 != 0) then some (([] : List Int), j2) else ((spec_l30Ranked aList aText aSites aDescriptions).bind fun x4 => ((at' x4 0).bind fun x5 => (((forS (aDescriptions.length : Int) (fun (i8 : Int) (s8 : (List Int)) => ((part' aDescriptions 0 i8).bind fun x12 => ((app' ([] : List Description) x12).bind fun x13 => ((part' aDescriptions (w64 (i8 + 1)) (aDescriptions.length : Int)).bind fun x14 => ((app' x13 x14).bind fun x15 => ((spec_l30Ranked aList aText aSites x15).bind fun x16 => ((at' x16 0).bind fun x17 => (bif (!(x17.Code.toList == x5.Code.toList)) then ((app' s8 ([i8] : List Int)).bind fun x18 => some x18) else some s8)))))))) (fun (s8 : (List Int)) => s8) 0 ([] : List Int))).bind fun (j6 : (List Int)) => some (j6, 0)))))))
theorem spec_LostWithout_run (aList : (List Candidate)) (aText : ByteArray) (aSites : (List Site)) (aDescriptions : (List Description)) (r : (List Int) × Int) (h : spec_LostWithout aList aText aSites aDescriptions = some r) : SCall Tryz.prog 33 [.v (vl eCandidate aList), .v (vs aText), .v (vl eSite aSites), .v (vl eDescription aDescriptions)] ⟨[.own 2 1 r.1.length (r.1.map (eI .i64)), .v (vi r.2)], [], false⟩ := by
  refine scall_in Tryz.func33 rfl [(.tmp 8), (.tmp 9)] rfl (fun r => ⟨[.own 2 1 r.1.length (r.1.map (eI .i64)), .v (vi r.2)], [], false⟩) (r := r) ?_
  unfold spec_LostWithout at h
  refine srk tbok ⟨70, [(0, vl eCandidate aList), (1, vs aText), (2, vl eSite aSites), (3, vl eDescription aDescriptions)], []⟩ ?_
  refine sr ?_
  refine SRun.ck tbok 4 ⟨70, [(0, vl eCandidate aList), (1, vs aText), (2, vl eSite aSites), (3, vl eDescription aDescriptions), (15, vl eCandidate aList), (16, vs aText), (17, vl eSite aSites), (18, vl eDescription aDescriptions)], []⟩ ?_
  obtain ⟨x1, hx1, h⟩ := bind_some h
  refine SRun.ls (xc ents66 (spec_l30Code_run aList aText aSites aDescriptions _ hx1)) ?_
  refine ckn tbok 1 ⟨70, [(0, vl eCandidate aList), (1, vs aText), (2, vl eSite aSites), (3, vl eDescription aDescriptions), (10, vi x1)], []⟩ ?_
  refine swp_seq ?_
  refine swp_seq ?_
  refine swp_regP ⟨70, [(0, vl eCandidate aList), (1, vs aText), (2, vl eSite aSites), (3, vl eDescription aDescriptions), (10, vi x1), (26, vb ((x1 == 0) && ((aList.length : Int) == 0)))], []⟩ ?_ ?_
  refine SRun.ck tbok 3 ⟨70, [(0, vl eCandidate aList), (1, vs aText), (2, vl eSite aSites), (3, vl eDescription aDescriptions), (10, vi x1), (22, vb (x1 == 0))], []⟩ ?_
  generalize (x1 == 0) = bb
  cases bb
  refine SRun.ck tbok 4 ⟨70, [(0, vl eCandidate aList), (1, vs aText), (2, vl eSite aSites), (3, vl eDescription aDescriptions), (10, vi x1), (26, vb false)], []⟩ ?_
  exact SRun.nil (Le.sub0)
  refine SRun.ck tbok 4 ⟨70, [(0, vl eCandidate aList), (1, vs aText), (2, vl eSite aSites), (3, vl eDescription aDescriptions), (10, vi x1), (26, vb ((aList.length : Int) == 0))], []⟩ ?_
  exact SRun.nil (Le.sub0)
  refine swp_seqJ h (fun j2 => ⟨70, [(0, vl eCandidate aList), (1, vs aText), (2, vl eSite aSites), (3, vl eDescription aDescriptions), (10, vi j2)], []⟩) (fun v3 h => ?_) (fun j2 h => ?_)
  refine swp_cd h (fun h => ?_) fun h => ?_
  refine swp_reg ?_
  refine SRun.ck tbok 1 ⟨70, [(0, vl eCandidate aList), (1, vs aText), (2, vl eSite aSites), (3, vl eDescription aDescriptions), (10, vi 4)], []⟩ ?_
  refine SRun.nil ?_
  obtain rfl := inj h
  exact q_j (Le.sub0)
  refine swp_skip ?_
  obtain rfl := inj h
  exact q_j (Le.sub0)
  refine swp_seq ?_
  refine srk tbok ⟨70, [(0, vl eCandidate aList), (1, vs aText), (2, vl eSite aSites), (3, vl eDescription aDescriptions), (10, vi j2), (28, vb (j2 != 0))], []⟩ ?_
  refine swp_cd h (fun h => ?_) fun h => ?_
  refine srk tbok ⟨70, [(8, .own 8), (9, vi j2)], [(8, oa 2 1 (eI .i64) ([] : List Int))]⟩ ?_
  refine swp_ret ?_
  obtain rfl := inj h
  exact nx_r (q_fr (f2 (fo (eI_flat .i64)) fv))
  refine swp_skip ?_
  refine nx_n ?_
  refine sr ?_
  refine SRun.ck tbok 4 ⟨70, [(0, vl eCandidate aList), (1, vs aText), (2, vl eSite aSites), (3, vl eDescription aDescriptions), (30, vl eCandidate aList), (31, vs aText), (32, vl eSite aSites), (33, vl eDescription aDescriptions)], []⟩ ?_
  obtain ⟨x4, hx4, h⟩ := bind_some h
  refine SRun.ls (xc ents82 (spec_l30Ranked_run aList aText aSites aDescriptions _ hx4)) ?_
  obtain ⟨x5, hx5, h⟩ := bind_some h
  refine SRun.ls (x_index_own (d := 34) (L := x4) (f := eAnswer) (ti := ti62) (tj := ti59) (e := 59) (e' := 59) (m := 3) (k := .i64) tbok rfl hx5) ?_
  refine SRun.ck tbok 1 ⟨70, [(0, vl eCandidate aList), (1, vs aText), (2, vl eSite aSites), (3, vl eDescription aDescriptions), (36, .eref 34 3 (Int.toNat 0) 0)], [(34, oa 59 3 eAnswer x4)]⟩ ?_
  refine SRun.ls (x_load_own (d := 34) (m := 3) (j := 0) (L := x4) (f := eAnswer) (ti := ti9) (e := 59) (v := vs x5.Code) tbok rfl hx5) ?_
  refine ckn tbok 1 ⟨70, [(0, vl eCandidate aList), (1, vs aText), (2, vl eSite aSites), (3, vl eDescription aDescriptions), (11, vs x5.Code)], []⟩ ?_
  refine srk tbok ⟨70, [(0, vl eCandidate aList), (1, vs aText), (2, vl eSite aSites), (3, vl eDescription aDescriptions), (11, vs x5.Code), (12, .own 38)], [(38, oa 2 1 (eI .i64) ([] : List Int))]⟩ ?_
  refine swp_seq ?_
  refine srk tbok ⟨70, [(0, vl eCandidate aList), (1, vs aText), (2, vl eSite aSites), (3, vl eDescription aDescriptions), (11, vs x5.Code), (12, .own 38), (13, vi 0)], [(38, oa 2 1 (eI .i64) ([] : List Int))]⟩ ?_
  refine swp_seqJ h (fun j6 => ⟨70, [(12, .own 12)], [(12, oa 2 1 (eI .i64) j6)]⟩) (fun v7 h => ?_) (fun j6 h => ?_)
  refine swp_blk (a := v7) ?_
  refine swp_lpL (r := v7) (s := (0, ([] : List Int))) _ (fun s8 => ⟨70, [(0, vl eCandidate aList), (1, vs aText), (2, vl eSite aSites), (3, vl eDescription aDescriptions), (11, vs x5.Code), (12, .own 12), (13, vi s8.1)], [(12, oa 2 1 (eI .i64) s8.2)]⟩) _ ((Le.sub' ([(0, vl eCandidate aList), (1, vs aText), (2, vl eSite aSites), (3, vl eDescription aDescriptions), (11, vs x5.Code), (12, .own 38), (13, vi 0)] : List (Nat × SV)) ([(38, oa 2 1 (eI .i64) ([] : List Int))] : List (Nat × SO)) (by kernel_rfl) (by kernel_rfl)).trans ((Le.ren' (d := 38) (e := 12) (by kernel_rfl) (by kernel_rfl) (by kernel_rfl)).trans (Le.sub0))) h (fun s8 v9 h => ?_)
  refine swp_seq ?_
  refine srk tbok ⟨70, [(0, vl eCandidate aList), (1, vs aText), (2, vl eSite aSites), (3, vl eDescription aDescriptions), (11, vs x5.Code), (12, .own 12), (13, vi s8.1), (42, vb (decide (s8.1 < (aDescriptions.length : Int))))], [(12, oa 2 1 (eI .i64) s8.2)]⟩ ?_
  refine swp_cd h (fun h => ?_) fun h => ?_
  refine swp_skip ?_
  refine nx_n ?_
  refine swp_seq ?_
  refine swp_seqJ h (fun j10 => ⟨70, [(0, vl eCandidate aList), (1, vs aText), (2, vl eSite aSites), (3, vl eDescription aDescriptions), (11, vs x5.Code), (12, .own 12), (13, vi s8.1)], [(12, oa 2 1 (eI .i64) j10)]⟩) (fun v11 h => ?_) (fun j10 h => ?_)
  refine swp_blk (a := v11) ?_
  refine swp_seq ?_
  obtain ⟨x12, hx12, h⟩ := bind_some h
  obtain ⟨x13, hx13, h⟩ := bind_some h
  obtain ⟨x14, hx14, h⟩ := bind_some h
  obtain ⟨x15, hx15, h⟩ := bind_some h
  refine swp_dr mixed ?_
  refine DGo.enum (σE := ⟨70, [(0, vl eCandidate aList), (1, vs aText), (2, vl eSite aSites), (3, vl eDescription aDescriptions), (11, vs x5.Code), (12, .own 12), (13, vi s8.1), (14, .own 54)], [(12, oa 2 1 (eI .i64) s8.2), (54, oa 84 6 eDescription x15)]⟩) (n := 11) (L0 := #[false, false, false, false, false, false, false, false, false, false, false]) (by kernel_rfl) (by kernel_rfl) (fun K hk => ?_) ?_
  refine DE.share (fuel := 0) (L := #[true, true, true, true, true, true, true, true, true, true, true]) (σ := ⟨70, [(0, vl eCandidate aList), (1, vs aText), (2, vl eSite aSites), (3, vl eDescription aDescriptions), (11, vs x5.Code), (12, .own 12), (13, vi s8.1), (14, .own 54)], [(12, oa 2 1 (eI .i64) s8.2), (54, oa 84 6 eDescription x15)]⟩) ?_ (fun d20 => ?_)
  exact DE.done (by kernel_rfl) hk
  refine DE.share (fuel := 1) (L := #[true, true, true, true, true, true, true, true, true, true, false]) (σ := ⟨70, [(0, vl eCandidate aList), (1, vs aText), (2, vl eSite aSites), (3, vl eDescription aDescriptions), (11, vs x5.Code), (12, .own 12), (13, vi s8.1), (54, .own 54)], [(12, oa 2 1 (eI .i64) s8.2), (54, oa 84 6 eDescription x15)]⟩) ?_ (fun d19 => ?_)
  exact DE.take (i := 10) (L' := #[true, true, true, true, true, true, true, true, true, true, true]) rfl (.inr rfl) rfl (by kernel_rfl) (by kernel_rfl) (by kernel_rfl) (EStep.le (EStep.ofN2 tbok (σ' := ⟨70, [(14, .own 54), (0, vl eCandidate aList), (1, vs aText), (2, vl eSite aSites), (3, vl eDescription aDescriptions), (11, vs x5.Code), (12, .own 12), (13, vi s8.1), (54, .own 54)], [(12, oa 2 1 (eI .i64) s8.2), (54, oa 84 6 eDescription x15)]⟩) (by kernel_rfl)) Le.sub0) (by kernel_rfl) d20
  refine DE.share (fuel := 2) (L := #[true, true, true, true, true, true, true, true, true, false, false]) (σ := ⟨70, [(0, vl eCandidate aList), (1, vs aText), (2, vl eSite aSites), (3, vl eDescription aDescriptions), (11, vs x5.Code), (12, .own 12), (13, vi s8.1), (49, .own 49), (53, vl eDescription x14)], [(12, oa 2 1 (eI .i64) s8.2), (49, oa 84 6 eDescription x13)]⟩) ?_ (fun d18 => ?_)
  exact DE.all [9] (by kernel_rfl) (by simp) (List.forall_mem_cons.2 ⟨DEs.mk (i := 9) (L' := #[true, true, true, true, true, true, true, true, true, true, false]) rfl (EStep.le (x_append (f := eDescription) (t := 35) (ti := ti35) (tj := ti84) (zs := [.int .i64 0, .int .i64 0, .string (ByteArray.mk #[]), .int .i64 0, .string (ByteArray.mk #[]), .string (ByteArray.mk #[])]) (e := 84) (m := 6) (d := 49) (xv := vl eDescription x14) hx15 tbok rfl rfl rfl rfl (src_e (fun _ => rfl))) Le.sub0) (by kernel_rfl) d19, (fun _ h => absurd h List.not_mem_nil)⟩)
  refine DE.share (fuel := 3) (L := #[true, true, true, true, false, true, true, true, true, false, false]) (σ := ⟨70, [(0, vl eCandidate aList), (1, vs aText), (2, vl eSite aSites), (3, vl eDescription aDescriptions), (11, vs x5.Code), (12, .own 12), (13, vi s8.1), (45, .own 45), (48, vl eDescription x12), (53, vl eDescription x14)], [(12, oa 2 1 (eI .i64) s8.2), (45, oa 84 6 eDescription ([] : List Description))]⟩) ?_ (fun d17 => ?_)
  exact DE.all [4] (by kernel_rfl) (by simp) (List.forall_mem_cons.2 ⟨DEs.mk (i := 4) (L' := #[true, true, true, true, true, true, true, true, true, false, false]) rfl (EStep.le (x_append (f := eDescription) (t := 35) (ti := ti35) (tj := ti84) (zs := [.int .i64 0, .int .i64 0, .string (ByteArray.mk #[]), .int .i64 0, .string (ByteArray.mk #[]), .string (ByteArray.mk #[])]) (e := 84) (m := 6) (d := 45) (xv := vl eDescription x12) hx13 tbok rfl rfl rfl rfl (src_e (fun _ => rfl))) Le.sub0) (by kernel_rfl) d18, (fun _ h => absurd h List.not_mem_nil)⟩)
  refine DE.share (fuel := 3) (L := #[true, true, true, true, true, true, true, true, false, false, false]) (σ := ⟨70, [(0, vl eCandidate aList), (1, vs aText), (2, vl eSite aSites), (3, vl eDescription aDescriptions), (11, vs x5.Code), (12, .own 12), (13, vi s8.1), (49, .own 49), (50, vl eDescription aDescriptions), (52, vi (w64 (s8.1 + 1)))], [(12, oa 2 1 (eI .i64) s8.2), (49, oa 84 6 eDescription x13)]⟩) ?_ (fun d16 => ?_)
  exact DE.all [8] (by kernel_rfl) (by simp) (List.forall_mem_cons.2 ⟨DEs.mk (i := 8) (L' := #[true, true, true, true, true, true, true, true, true, false, false]) rfl (EStep.le (EStep.ofL (x_slice (m := 6) (f := eDescription) (ti := ti35) (tj := ti84) (e := 84) hx14 (fun _ => rfl) tbok rfl) (by kernel_rfl)) Le.sub0) (by kernel_rfl) d18, (fun _ h => absurd h List.not_mem_nil)⟩)
  refine DE.share (fuel := 4) (L := #[false, true, true, true, false, true, true, true, true, false, false]) (σ := ⟨70, [(0, vl eCandidate aList), (1, vs aText), (2, vl eSite aSites), (3, vl eDescription aDescriptions), (11, vs x5.Code), (12, .own 12), (13, vi s8.1), (48, vl eDescription x12), (53, vl eDescription x14)], [(12, oa 2 1 (eI .i64) s8.2)]⟩) ?_ (fun d15 => ?_)
  exact DE.all [0] (by kernel_rfl) (by simp) (List.forall_mem_cons.2 ⟨DEs.mk (i := 0) (L' := #[true, true, true, true, false, true, true, true, true, false, false]) rfl (EStep.le (EStep.ofN2 tbok (σ' := ⟨70, [(45, .own 45), (0, vl eCandidate aList), (1, vs aText), (2, vl eSite aSites), (3, vl eDescription aDescriptions), (11, vs x5.Code), (12, .own 12), (13, vi s8.1), (48, vl eDescription x12), (53, vl eDescription x14)], [(45, oa 84 6 eDescription ([] : List Description)), (12, oa 2 1 (eI .i64) s8.2)]⟩) (by kernel_rfl)) Le.sub0) (by kernel_rfl) d17, (fun _ h => absurd h List.not_mem_nil)⟩)
  refine DE.share (fuel := 4) (L := #[true, true, true, false, false, true, true, true, true, false, false]) (σ := ⟨70, [(0, vl eCandidate aList), (1, vs aText), (2, vl eSite aSites), (3, vl eDescription aDescriptions), (11, vs x5.Code), (12, .own 12), (13, vi s8.1), (45, .own 45), (46, vl eDescription aDescriptions), (47, vi s8.1), (53, vl eDescription x14)], [(12, oa 2 1 (eI .i64) s8.2), (45, oa 84 6 eDescription ([] : List Description))]⟩) ?_ (fun d14 => ?_)
  exact DE.all [3] (by kernel_rfl) (by simp) (List.forall_mem_cons.2 ⟨DEs.mk (i := 3) (L' := #[true, true, true, true, false, true, true, true, true, false, false]) rfl (EStep.le (EStep.ofL (x_slice (m := 6) (f := eDescription) (ti := ti35) (tj := ti84) (e := 84) hx12 (fun _ => rfl) tbok rfl) (by kernel_rfl)) Le.sub0) (by kernel_rfl) d17, (fun _ h => absurd h List.not_mem_nil)⟩)
  refine DE.share (fuel := 4) (L := #[true, true, true, true, false, true, true, true, false, false, false]) (σ := ⟨70, [(0, vl eCandidate aList), (1, vs aText), (2, vl eSite aSites), (3, vl eDescription aDescriptions), (11, vs x5.Code), (12, .own 12), (13, vi s8.1), (45, .own 45), (48, vl eDescription x12), (50, vl eDescription aDescriptions), (52, vi (w64 (s8.1 + 1)))], [(12, oa 2 1 (eI .i64) s8.2), (45, oa 84 6 eDescription ([] : List Description))]⟩) ?_ (fun d13 => ?_)
  exact DE.all [4, 8] (by kernel_rfl) (by simp) (List.forall_mem_cons.2 ⟨DEs.mk (i := 4) (L' := #[true, true, true, true, true, true, true, true, false, false, false]) rfl (EStep.le (x_append (f := eDescription) (t := 35) (ti := ti35) (tj := ti84) (zs := [.int .i64 0, .int .i64 0, .string (ByteArray.mk #[]), .int .i64 0, .string (ByteArray.mk #[]), .string (ByteArray.mk #[])]) (e := 84) (m := 6) (d := 45) (xv := vl eDescription x12) hx13 tbok rfl rfl rfl rfl (src_e (fun _ => rfl))) Le.sub0) (by kernel_rfl) d16, (List.forall_mem_cons.2 ⟨DEs.mk (i := 8) (L' := #[true, true, true, true, false, true, true, true, true, false, false]) rfl (EStep.le (EStep.ofL (x_slice (m := 6) (f := eDescription) (ti := ti35) (tj := ti84) (e := 84) hx14 (fun _ => rfl) tbok rfl) (by kernel_rfl)) Le.sub0) (by kernel_rfl) d17, (fun _ h => absurd h List.not_mem_nil)⟩)⟩)
  refine DE.share (fuel := 4) (L := #[true, true, true, true, true, true, true, false, false, false, false]) (σ := ⟨70, [(0, vl eCandidate aList), (1, vs aText), (2, vl eSite aSites), (3, vl eDescription aDescriptions), (11, vs x5.Code), (12, .own 12), (13, vi s8.1), (49, .own 49), (50, vl eDescription aDescriptions), (51, vi s8.1)], [(12, oa 2 1 (eI .i64) s8.2), (49, oa 84 6 eDescription x13)]⟩) ?_ (fun d12 => ?_)
  exact DE.all [7] (by kernel_rfl) (by simp) (List.forall_mem_cons.2 ⟨DEs.mk (i := 7) (L' := #[true, true, true, true, true, true, true, true, false, false, false]) rfl (EStep.le (EStep.ofN2 tbok (σ' := ⟨70, [(52, vi (w64 (s8.1 + 1))), (0, vl eCandidate aList), (1, vs aText), (2, vl eSite aSites), (3, vl eDescription aDescriptions), (11, vs x5.Code), (12, .own 12), (13, vi s8.1), (49, .own 49), (50, vl eDescription aDescriptions), (51, vi s8.1)], [(12, oa 2 1 (eI .i64) s8.2), (49, oa 84 6 eDescription x13)]⟩) (by kernel_rfl)) Le.sub0) (by kernel_rfl) d16, (fun _ h => absurd h List.not_mem_nil)⟩)
  refine DE.share (fuel := 5) (L := #[false, true, true, false, false, true, true, true, true, false, false]) (σ := ⟨70, [(0, vl eCandidate aList), (1, vs aText), (2, vl eSite aSites), (3, vl eDescription aDescriptions), (11, vs x5.Code), (12, .own 12), (13, vi s8.1), (46, vl eDescription aDescriptions), (47, vi s8.1), (53, vl eDescription x14)], [(12, oa 2 1 (eI .i64) s8.2)]⟩) ?_ (fun d11 => ?_)
  exact DE.all [0, 3] (by kernel_rfl) (by simp) (List.forall_mem_cons.2 ⟨DEs.mk (i := 0) (L' := #[true, true, true, false, false, true, true, true, true, false, false]) rfl (EStep.le (EStep.ofN2 tbok (σ' := ⟨70, [(45, .own 45), (0, vl eCandidate aList), (1, vs aText), (2, vl eSite aSites), (3, vl eDescription aDescriptions), (11, vs x5.Code), (12, .own 12), (13, vi s8.1), (46, vl eDescription aDescriptions), (47, vi s8.1), (53, vl eDescription x14)], [(45, oa 84 6 eDescription ([] : List Description)), (12, oa 2 1 (eI .i64) s8.2)]⟩) (by kernel_rfl)) Le.sub0) (by kernel_rfl) d14, (List.forall_mem_cons.2 ⟨DEs.mk (i := 3) (L' := #[false, true, true, true, false, true, true, true, true, false, false]) rfl (EStep.le (EStep.ofL (x_slice (m := 6) (f := eDescription) (ti := ti35) (tj := ti84) (e := 84) hx12 (fun _ => rfl) tbok rfl) (by kernel_rfl)) Le.sub0) (by kernel_rfl) d15, (fun _ h => absurd h List.not_mem_nil)⟩)⟩)
  refine DE.share (fuel := 5) (L := #[false, true, true, true, false, true, true, true, false, false, false]) (σ := ⟨70, [(0, vl eCandidate aList), (1, vs aText), (2, vl eSite aSites), (3, vl eDescription aDescriptions), (11, vs x5.Code), (12, .own 12), (13, vi s8.1), (48, vl eDescription x12), (50, vl eDescription aDescriptions), (52, vi (w64 (s8.1 + 1)))], [(12, oa 2 1 (eI .i64) s8.2)]⟩) ?_ (fun d10 => ?_)
  exact DE.all [0, 8] (by kernel_rfl) (by simp) (List.forall_mem_cons.2 ⟨DEs.mk (i := 0) (L' := #[true, true, true, true, false, true, true, true, false, false, false]) rfl (EStep.le (EStep.ofN2 tbok (σ' := ⟨70, [(45, .own 45), (0, vl eCandidate aList), (1, vs aText), (2, vl eSite aSites), (3, vl eDescription aDescriptions), (11, vs x5.Code), (12, .own 12), (13, vi s8.1), (48, vl eDescription x12), (50, vl eDescription aDescriptions), (52, vi (w64 (s8.1 + 1)))], [(45, oa 84 6 eDescription ([] : List Description)), (12, oa 2 1 (eI .i64) s8.2)]⟩) (by kernel_rfl)) Le.sub0) (by kernel_rfl) d13, (List.forall_mem_cons.2 ⟨DEs.mk (i := 8) (L' := #[false, true, true, true, false, true, true, true, true, false, false]) rfl (EStep.le (EStep.ofL (x_slice (m := 6) (f := eDescription) (ti := ti35) (tj := ti84) (e := 84) hx14 (fun _ => rfl) tbok rfl) (by kernel_rfl)) Le.sub0) (by kernel_rfl) d15, (fun _ h => absurd h List.not_mem_nil)⟩)⟩)
  refine DE.share (fuel := 5) (L := #[true, true, true, false, false, true, true, true, false, false, false]) (σ := ⟨70, [(0, vl eCandidate aList), (1, vs aText), (2, vl eSite aSites), (3, vl eDescription aDescriptions), (11, vs x5.Code), (12, .own 12), (13, vi s8.1), (45, .own 45), (46, vl eDescription aDescriptions), (47, vi s8.1), (50, vl eDescription aDescriptions), (52, vi (w64 (s8.1 + 1)))], [(12, oa 2 1 (eI .i64) s8.2), (45, oa 84 6 eDescription ([] : List Description))]⟩) ?_ (fun d9 => ?_)
  exact DE.all [3, 8] (by kernel_rfl) (by simp) (List.forall_mem_cons.2 ⟨DEs.mk (i := 3) (L' := #[true, true, true, true, false, true, true, true, false, false, false]) rfl (EStep.le (EStep.ofL (x_slice (m := 6) (f := eDescription) (ti := ti35) (tj := ti84) (e := 84) hx12 (fun _ => rfl) tbok rfl) (by kernel_rfl)) Le.sub0) (by kernel_rfl) d13, (List.forall_mem_cons.2 ⟨DEs.mk (i := 8) (L' := #[true, true, true, false, false, true, true, true, true, false, false]) rfl (EStep.le (EStep.ofL (x_slice (m := 6) (f := eDescription) (ti := ti35) (tj := ti84) (e := 84) hx14 (fun _ => rfl) tbok rfl) (by kernel_rfl)) Le.sub0) (by kernel_rfl) d14, (fun _ h => absurd h List.not_mem_nil)⟩)⟩)
  refine DE.share (fuel := 5) (L := #[true, true, true, true, false, true, true, false, false, false, false]) (σ := ⟨70, [(0, vl eCandidate aList), (1, vs aText), (2, vl eSite aSites), (3, vl eDescription aDescriptions), (11, vs x5.Code), (12, .own 12), (13, vi s8.1), (45, .own 45), (48, vl eDescription x12), (50, vl eDescription aDescriptions), (51, vi s8.1)], [(12, oa 2 1 (eI .i64) s8.2), (45, oa 84 6 eDescription ([] : List Description))]⟩) ?_ (fun d8 => ?_)
  exact DE.all [4, 7] (by kernel_rfl) (by simp) (List.forall_mem_cons.2 ⟨DEs.mk (i := 4) (L' := #[true, true, true, true, true, true, true, false, false, false, false]) rfl (EStep.le (x_append (f := eDescription) (t := 35) (ti := ti35) (tj := ti84) (zs := [.int .i64 0, .int .i64 0, .string (ByteArray.mk #[]), .int .i64 0, .string (ByteArray.mk #[]), .string (ByteArray.mk #[])]) (e := 84) (m := 6) (d := 45) (xv := vl eDescription x12) hx13 tbok rfl rfl rfl rfl (src_e (fun _ => rfl))) Le.sub0) (by kernel_rfl) d12, (List.forall_mem_cons.2 ⟨DEs.mk (i := 7) (L' := #[true, true, true, true, false, true, true, true, false, false, false]) rfl (EStep.le (EStep.ofN2 tbok (σ' := ⟨70, [(52, vi (w64 (s8.1 + 1))), (0, vl eCandidate aList), (1, vs aText), (2, vl eSite aSites), (3, vl eDescription aDescriptions), (11, vs x5.Code), (12, .own 12), (13, vi s8.1), (45, .own 45), (48, vl eDescription x12), (50, vl eDescription aDescriptions), (51, vi s8.1)], [(12, oa 2 1 (eI .i64) s8.2), (45, oa 84 6 eDescription ([] : List Description))]⟩) (by kernel_rfl)) Le.sub0) (by kernel_rfl) d13, (fun _ h => absurd h List.not_mem_nil)⟩)⟩)
  refine DE.share (fuel := 6) (L := #[false, true, true, false, false, true, true, true, false, false, false]) (σ := ⟨70, [(0, vl eCandidate aList), (1, vs aText), (2, vl eSite aSites), (3, vl eDescription aDescriptions), (11, vs x5.Code), (12, .own 12), (13, vi s8.1), (46, vl eDescription aDescriptions), (47, vi s8.1), (50, vl eDescription aDescriptions), (52, vi (w64 (s8.1 + 1)))], [(12, oa 2 1 (eI .i64) s8.2)]⟩) ?_ (fun d7 => ?_)
  exact DE.all [0, 3, 8] (by kernel_rfl) (by simp) (List.forall_mem_cons.2 ⟨DEs.mk (i := 0) (L' := #[true, true, true, false, false, true, true, true, false, false, false]) rfl (EStep.le (EStep.ofN2 tbok (σ' := ⟨70, [(45, .own 45), (0, vl eCandidate aList), (1, vs aText), (2, vl eSite aSites), (3, vl eDescription aDescriptions), (11, vs x5.Code), (12, .own 12), (13, vi s8.1), (46, vl eDescription aDescriptions), (47, vi s8.1), (50, vl eDescription aDescriptions), (52, vi (w64 (s8.1 + 1)))], [(45, oa 84 6 eDescription ([] : List Description)), (12, oa 2 1 (eI .i64) s8.2)]⟩) (by kernel_rfl)) Le.sub0) (by kernel_rfl) d9, (List.forall_mem_cons.2 ⟨DEs.mk (i := 3) (L' := #[false, true, true, true, false, true, true, true, false, false, false]) rfl (EStep.le (EStep.ofL (x_slice (m := 6) (f := eDescription) (ti := ti35) (tj := ti84) (e := 84) hx12 (fun _ => rfl) tbok rfl) (by kernel_rfl)) Le.sub0) (by kernel_rfl) d10, (List.forall_mem_cons.2 ⟨DEs.mk (i := 8) (L' := #[false, true, true, false, false, true, true, true, true, false, false]) rfl (EStep.le (EStep.ofL (x_slice (m := 6) (f := eDescription) (ti := ti35) (tj := ti84) (e := 84) hx14 (fun _ => rfl) tbok rfl) (by kernel_rfl)) Le.sub0) (by kernel_rfl) d11, (fun _ h => absurd h List.not_mem_nil)⟩)⟩)⟩)
  refine DE.share (fuel := 6) (L := #[false, true, true, true, false, true, true, false, false, false, false]) (σ := ⟨70, [(0, vl eCandidate aList), (1, vs aText), (2, vl eSite aSites), (3, vl eDescription aDescriptions), (11, vs x5.Code), (12, .own 12), (13, vi s8.1), (48, vl eDescription x12), (50, vl eDescription aDescriptions), (51, vi s8.1)], [(12, oa 2 1 (eI .i64) s8.2)]⟩) ?_ (fun d6 => ?_)
  exact DE.all [0, 7] (by kernel_rfl) (by simp) (List.forall_mem_cons.2 ⟨DEs.mk (i := 0) (L' := #[true, true, true, true, false, true, true, false, false, false, false]) rfl (EStep.le (EStep.ofN2 tbok (σ' := ⟨70, [(45, .own 45), (0, vl eCandidate aList), (1, vs aText), (2, vl eSite aSites), (3, vl eDescription aDescriptions), (11, vs x5.Code), (12, .own 12), (13, vi s8.1), (48, vl eDescription x12), (50, vl eDescription aDescriptions), (51, vi s8.1)], [(45, oa 84 6 eDescription ([] : List Description)), (12, oa 2 1 (eI .i64) s8.2)]⟩) (by kernel_rfl)) Le.sub0) (by kernel_rfl) d8, (List.forall_mem_cons.2 ⟨DEs.mk (i := 7) (L' := #[false, true, true, true, false, true, true, true, false, false, false]) rfl (EStep.le (EStep.ofN2 tbok (σ' := ⟨70, [(52, vi (w64 (s8.1 + 1))), (0, vl eCandidate aList), (1, vs aText), (2, vl eSite aSites), (3, vl eDescription aDescriptions), (11, vs x5.Code), (12, .own 12), (13, vi s8.1), (48, vl eDescription x12), (50, vl eDescription aDescriptions), (51, vi s8.1)], [(12, oa 2 1 (eI .i64) s8.2)]⟩) (by kernel_rfl)) Le.sub0) (by kernel_rfl) d10, (fun _ h => absurd h List.not_mem_nil)⟩)⟩)
  refine DE.share (fuel := 6) (L := #[true, true, true, false, false, true, true, false, false, false, false]) (σ := ⟨70, [(0, vl eCandidate aList), (1, vs aText), (2, vl eSite aSites), (3, vl eDescription aDescriptions), (11, vs x5.Code), (12, .own 12), (13, vi s8.1), (45, .own 45), (46, vl eDescription aDescriptions), (47, vi s8.1), (50, vl eDescription aDescriptions), (51, vi s8.1)], [(12, oa 2 1 (eI .i64) s8.2), (45, oa 84 6 eDescription ([] : List Description))]⟩) ?_ (fun d5 => ?_)
  exact DE.all [3, 7] (by kernel_rfl) (by simp) (List.forall_mem_cons.2 ⟨DEs.mk (i := 3) (L' := #[true, true, true, true, false, true, true, false, false, false, false]) rfl (EStep.le (EStep.ofL (x_slice (m := 6) (f := eDescription) (ti := ti35) (tj := ti84) (e := 84) hx12 (fun _ => rfl) tbok rfl) (by kernel_rfl)) Le.sub0) (by kernel_rfl) d8, (List.forall_mem_cons.2 ⟨DEs.mk (i := 7) (L' := #[true, true, true, false, false, true, true, true, false, false, false]) rfl (EStep.le (EStep.ofN2 tbok (σ' := ⟨70, [(52, vi (w64 (s8.1 + 1))), (0, vl eCandidate aList), (1, vs aText), (2, vl eSite aSites), (3, vl eDescription aDescriptions), (11, vs x5.Code), (12, .own 12), (13, vi s8.1), (45, .own 45), (46, vl eDescription aDescriptions), (47, vi s8.1), (50, vl eDescription aDescriptions), (51, vi s8.1)], [(12, oa 2 1 (eI .i64) s8.2), (45, oa 84 6 eDescription ([] : List Description))]⟩) (by kernel_rfl)) Le.sub0) (by kernel_rfl) d9, (fun _ h => absurd h List.not_mem_nil)⟩)⟩)
  refine DE.share (fuel := 7) (L := #[false, true, true, false, false, true, true, false, false, false, false]) (σ := ⟨70, [(0, vl eCandidate aList), (1, vs aText), (2, vl eSite aSites), (3, vl eDescription aDescriptions), (11, vs x5.Code), (12, .own 12), (13, vi s8.1), (46, vl eDescription aDescriptions), (47, vi s8.1), (50, vl eDescription aDescriptions), (51, vi s8.1)], [(12, oa 2 1 (eI .i64) s8.2)]⟩) ?_ (fun d4 => ?_)
  exact DE.all [0, 3, 7] (by kernel_rfl) (by simp) (List.forall_mem_cons.2 ⟨DEs.mk (i := 0) (L' := #[true, true, true, false, false, true, true, false, false, false, false]) rfl (EStep.le (EStep.ofN2 tbok (σ' := ⟨70, [(45, .own 45), (0, vl eCandidate aList), (1, vs aText), (2, vl eSite aSites), (3, vl eDescription aDescriptions), (11, vs x5.Code), (12, .own 12), (13, vi s8.1), (46, vl eDescription aDescriptions), (47, vi s8.1), (50, vl eDescription aDescriptions), (51, vi s8.1)], [(45, oa 84 6 eDescription ([] : List Description)), (12, oa 2 1 (eI .i64) s8.2)]⟩) (by kernel_rfl)) Le.sub0) (by kernel_rfl) d5, (List.forall_mem_cons.2 ⟨DEs.mk (i := 3) (L' := #[false, true, true, true, false, true, true, false, false, false, false]) rfl (EStep.le (EStep.ofL (x_slice (m := 6) (f := eDescription) (ti := ti35) (tj := ti84) (e := 84) hx12 (fun _ => rfl) tbok rfl) (by kernel_rfl)) Le.sub0) (by kernel_rfl) d6, (List.forall_mem_cons.2 ⟨DEs.mk (i := 7) (L' := #[false, true, true, false, false, true, true, true, false, false, false]) rfl (EStep.le (EStep.ofN2 tbok (σ' := ⟨70, [(52, vi (w64 (s8.1 + 1))), (0, vl eCandidate aList), (1, vs aText), (2, vl eSite aSites), (3, vl eDescription aDescriptions), (11, vs x5.Code), (12, .own 12), (13, vi s8.1), (46, vl eDescription aDescriptions), (47, vi s8.1), (50, vl eDescription aDescriptions), (51, vi s8.1)], [(12, oa 2 1 (eI .i64) s8.2)]⟩) (by kernel_rfl)) Le.sub0) (by kernel_rfl) d7, (fun _ h => absurd h List.not_mem_nil)⟩)⟩)⟩)
  refine DE.share (fuel := 8) (L := #[false, true, true, false, false, true, false, false, false, false, false]) (σ := ⟨70, [(0, vl eCandidate aList), (1, vs aText), (2, vl eSite aSites), (3, vl eDescription aDescriptions), (11, vs x5.Code), (12, .own 12), (13, vi s8.1), (46, vl eDescription aDescriptions), (47, vi s8.1), (50, vl eDescription aDescriptions)], [(12, oa 2 1 (eI .i64) s8.2)]⟩) ?_ (fun d3 => ?_)
  exact DE.take (i := 6) (L' := #[false, true, true, false, false, true, true, false, false, false, false]) rfl (.inl rfl) rfl (by kernel_rfl) (by kernel_rfl) (by kernel_rfl) (EStep.le (EStep.ofN2 tbok (σ' := ⟨70, [(51, vi s8.1), (0, vl eCandidate aList), (1, vs aText), (2, vl eSite aSites), (3, vl eDescription aDescriptions), (11, vs x5.Code), (12, .own 12), (13, vi s8.1), (46, vl eDescription aDescriptions), (47, vi s8.1), (50, vl eDescription aDescriptions)], [(12, oa 2 1 (eI .i64) s8.2)]⟩) (by kernel_rfl)) Le.sub0) (by kernel_rfl) d4
  refine DE.share (fuel := 9) (L := #[false, true, true, false, false, false, false, false, false, false, false]) (σ := ⟨70, [(0, vl eCandidate aList), (1, vs aText), (2, vl eSite aSites), (3, vl eDescription aDescriptions), (11, vs x5.Code), (12, .own 12), (13, vi s8.1), (46, vl eDescription aDescriptions), (47, vi s8.1)], [(12, oa 2 1 (eI .i64) s8.2)]⟩) ?_ (fun d2 => ?_)
  exact DE.take (i := 5) (L' := #[false, true, true, false, false, true, false, false, false, false, false]) rfl (.inl rfl) rfl (by kernel_rfl) (by kernel_rfl) (by kernel_rfl) (EStep.le (EStep.ofN2 tbok (σ' := ⟨70, [(50, vl eDescription aDescriptions), (0, vl eCandidate aList), (1, vs aText), (2, vl eSite aSites), (3, vl eDescription aDescriptions), (11, vs x5.Code), (12, .own 12), (13, vi s8.1), (46, vl eDescription aDescriptions), (47, vi s8.1)], [(12, oa 2 1 (eI .i64) s8.2)]⟩) (by kernel_rfl)) Le.sub0) (by kernel_rfl) d3
  refine DE.share (fuel := 10) (L := #[false, true, false, false, false, false, false, false, false, false, false]) (σ := ⟨70, [(0, vl eCandidate aList), (1, vs aText), (2, vl eSite aSites), (3, vl eDescription aDescriptions), (11, vs x5.Code), (12, .own 12), (13, vi s8.1), (46, vl eDescription aDescriptions)], [(12, oa 2 1 (eI .i64) s8.2)]⟩) ?_ (fun d1 => ?_)
  exact DE.take (i := 2) (L' := #[false, true, true, false, false, false, false, false, false, false, false]) rfl (.inl rfl) rfl (by kernel_rfl) (by kernel_rfl) (by kernel_rfl) (EStep.le (EStep.ofN2 tbok (σ' := ⟨70, [(47, vi s8.1), (0, vl eCandidate aList), (1, vs aText), (2, vl eSite aSites), (3, vl eDescription aDescriptions), (11, vs x5.Code), (12, .own 12), (13, vi s8.1), (46, vl eDescription aDescriptions)], [(12, oa 2 1 (eI .i64) s8.2)]⟩) (by kernel_rfl)) Le.sub0) (by kernel_rfl) d2
  exact DE.take (i := 1) (L' := #[false, true, false, false, false, false, false, false, false, false, false]) rfl (.inl rfl) rfl (by kernel_rfl) (by kernel_rfl) (by kernel_rfl) (EStep.le (EStep.ofN2 tbok (σ' := ⟨70, [(46, vl eDescription aDescriptions), (0, vl eCandidate aList), (1, vs aText), (2, vl eSite aSites), (3, vl eDescription aDescriptions), (11, vs x5.Code), (12, .own 12), (13, vi s8.1), (42, vb (decide (s8.1 < (aDescriptions.length : Int))))], [(12, oa 2 1 (eI .i64) s8.2)]⟩) (by kernel_rfl)) Le.sub0) (by kernel_rfl) d1
  refine nx_n ?_
  refine sr ?_
  refine SRun.ck tbok 4 ⟨70, [(0, vl eCandidate aList), (1, vs aText), (2, vl eSite aSites), (3, vl eDescription aDescriptions), (11, vs x5.Code), (12, .own 12), (13, vi s8.1), (55, vl eCandidate aList), (56, vs aText), (57, vl eSite aSites), (58, .own 54)], [(12, oa 2 1 (eI .i64) s8.2), (54, oa 84 6 eDescription x15)]⟩ ?_
  obtain ⟨x16, hx16, h⟩ := bind_some h
  refine SRun.ls (xc ents82 (spec_l30Ranked_run aList aText aSites x15 _ hx16)) ?_
  obtain ⟨x17, hx17, h⟩ := bind_some h
  refine SRun.ls (x_index_own (d := 59) (L := x16) (f := eAnswer) (ti := ti62) (tj := ti59) (e := 59) (e' := 59) (m := 3) (k := .i64) tbok rfl hx17) ?_
  refine SRun.ck tbok 1 ⟨70, [(0, vl eCandidate aList), (1, vs aText), (2, vl eSite aSites), (3, vl eDescription aDescriptions), (11, vs x5.Code), (12, .own 12), (13, vi s8.1), (61, .eref 59 3 (Int.toNat 0) 0)], [(12, oa 2 1 (eI .i64) s8.2), (59, oa 59 3 eAnswer x16)]⟩ ?_
  refine SRun.ls (x_load_own (d := 59) (m := 3) (j := 0) (L := x16) (f := eAnswer) (ti := ti9) (e := 59) (v := vs x17.Code) tbok rfl hx17) ?_
  refine ckn tbok 2 ⟨70, [(0, vl eCandidate aList), (1, vs aText), (2, vl eSite aSites), (3, vl eDescription aDescriptions), (11, vs x5.Code), (12, .own 12), (13, vi s8.1), (64, vb (!(x17.Code.toList == x5.Code.toList)))], [(12, oa 2 1 (eI .i64) s8.2)]⟩ ?_
  refine swp_cd h (fun h => ?_) fun h => ?_
  refine swp_reg ?_
  refine SRun.ck tbok 3 ⟨70, [(0, vl eCandidate aList), (1, vs aText), (2, vl eSite aSites), (3, vl eDescription aDescriptions), (11, vs x5.Code), (13, vi s8.1), (65, .own 12), (67, .own 67)], [(12, oa 2 1 (eI .i64) s8.2), (67, oa 2 1 (eI .i64) ([s8.1] : List Int))]⟩ ?_
  obtain ⟨x18, hx18, h⟩ := bind_some h
  refine SRun.estep (x_append (f := (eI .i64)) (t := 54) (ti := ti54) (tj := ti2) (zs := [.int .i64 0]) (e := 2) (m := 1) (d := 12) (xv := .own 67) hx18 tbok rfl rfl rfl rfl (x_src_o (e := 2))) ?_
  refine SRun.ck tbok 1 ⟨70, [(0, vl eCandidate aList), (1, vs aText), (2, vl eSite aSites), (3, vl eDescription aDescriptions), (11, vs x5.Code), (12, .own 68), (13, vi s8.1)], [(68, oa 2 1 (eI .i64) x18)]⟩ ?_
  refine SRun.nil ?_
  obtain rfl := inj h
  exact q_bn (q_j ((Le.sub' ([(0, vl eCandidate aList), (1, vs aText), (2, vl eSite aSites), (3, vl eDescription aDescriptions), (11, vs x5.Code), (12, .own 68), (13, vi s8.1)] : List (Nat × SV)) ([(68, oa 2 1 (eI .i64) x18)] : List (Nat × SO)) (by kernel_rfl) (by kernel_rfl)).trans ((Le.ren' (d := 68) (e := 12) (by kernel_rfl) (by kernel_rfl) (by kernel_rfl)).trans (Le.sub0))))
  refine swp_skip ?_
  obtain rfl := inj h
  exact q_bn (q_j (Le.sub0))
  refine swp_reg ?_
  refine SRun.ck tbok 3 ⟨70, [(0, vl eCandidate aList), (1, vs aText), (2, vl eSite aSites), (3, vl eDescription aDescriptions), (11, vs x5.Code), (12, .own 12), (13, vi (w64 (s8.1 + 1)))], [(12, oa 2 1 (eI .i64) j10)]⟩ ?_
  refine SRun.nil ?_
  obtain rfl := inj h
  exact q_l (Le.sub0)
  refine swp_exit ?_
  obtain rfl := inj h
  exact nx_e (q_re (q_bh (q_j (Le.sub0))))
  refine srk tbok ⟨70, [(8, .own 12), (9, vi 0)], [(12, oa 2 1 (eI .i64) j6)]⟩ ?_
  refine swp_ret ?_
  obtain rfl := inj h
  exact q_fr (f2 (fo (eI_flat .i64)) fv)
theorem ents33 : Ents Tryz.prog 33 := ents_of Tryz.func33 (by kernel_rfl) rfl
noncomputable def laws_likeTexts (aA : (List ByteArray)) (aB : (List ByteArray)) : Option (Bool) :=
  (bif ((aA.length : Int) != (aB.length : Int)) then some false else (((forN (aA.length : Int) (fun (i3 : Int) (_ : Unit) => ((at' aA i3).bind fun x7 => ((at' aB i3).bind fun x8 => (bif (!(x7.toList == x8.toList)) then some (.inr (.inr false)) else some (.inl ()))))) (fun (_ : Unit) => .inl ()) 0 ())).bind (Sum.elim (fun (_ : Unit) => some true) some)))
theorem laws_likeTexts_run (aA : (List ByteArray)) (aB : (List ByteArray)) (r : Bool) (h : laws_likeTexts aA aB = some r) : SCall Tryz.prog 34 [.v (vl eS aA), .v (vl eS aB)] ⟨[.v (vb r)], [], false⟩ := by
  refine scall_in Tryz.func34 rfl [(.tmp 4)] rfl (fun r => ⟨[.v (vb r)], [], false⟩) (r := r) ?_
  unfold laws_likeTexts at h
  refine srk tbok ⟨26, [(0, vl eS aA), (1, vl eS aB)], []⟩ ?_
  refine swp_seq ?_
  refine srk tbok ⟨26, [(0, vl eS aA), (1, vl eS aB), (10, vb ((aA.length : Int) != (aB.length : Int)))], []⟩ ?_
  refine swp_cd h (fun h => ?_) fun h => ?_
  refine srk tbok ⟨26, [(4, vb false)], []⟩ ?_
  refine swp_ret ?_
  obtain rfl := inj h
  exact nx_r (q_fr (f1 fv))
  refine swp_skip ?_
  refine nx_n ?_
  refine swp_seq ?_
  refine srk tbok ⟨26, [(0, vl eS aA), (1, vl eS aB), (5, vi 0)], []⟩ ?_
  refine swp_seqE (r := r) h (fun j1 => ⟨26, [], []⟩) (fun v2 h => ?_) (fun j1 h => ?_)
  refine swp_blk (a := v2) ?_
  refine swp_lpL (r := v2) (s := (0, ())) _ (fun s3 => ⟨26, [(0, vl eS aA), (1, vl eS aB), (5, vi s3.1)], []⟩) _ (Le.sub0) h (fun s3 v4 h => ?_)
  refine swp_seq ?_
  refine srk tbok ⟨26, [(0, vl eS aA), (1, vl eS aB), (5, vi s3.1), (14, vb (decide (s3.1 < (aA.length : Int))))], []⟩ ?_
  refine swp_cd h (fun h => ?_) fun h => ?_
  refine swp_skip ?_
  refine nx_n ?_
  refine swp_seq ?_
  refine swp_seqL (r := v4) h (fun j5 => ⟨26, [(0, vl eS aA), (1, vl eS aB), (5, vi s3.1)], []⟩) (fun v6 h => ?_) (fun j5 h => ?_)
  refine swp_blk (a := v6) ?_
  refine swp_seq ?_
  refine swp_dr mixed ?_
  refine DGo.ck tbok false 2 ⟨26, [(0, vl eS aA), (1, vl eS aB), (5, vi s3.1), (17, vl eS aA), (18, vi s3.1)], []⟩ ?_
  obtain ⟨x7, hx7, h⟩ := bind_some h
  refine DGo.step (x_index (L := aA) (f := eS) (ti := ti28) (tj := ti9) (e := 9) (k := .i64) tbok rfl hx7) ?_
  refine DGo.ck tbok false 3 ⟨26, [(0, vl eS aA), (1, vl eS aB), (5, vi s3.1), (20, vs x7), (21, vl eS aB), (22, vi s3.1)], []⟩ ?_
  obtain ⟨x8, hx8, h⟩ := bind_some h
  refine DGo.step (x_index (L := aB) (f := eS) (ti := ti28) (tj := ti9) (e := 9) (k := .i64) tbok rfl hx8) ?_
  refine DGo.ck tbok false 2 ⟨26, [(0, vl eS aA), (1, vl eS aB), (5, vi s3.1), (25, vb (!(x7.toList == x8.toList)))], []⟩ ?_
  refine DGo.nx ?_
  refine swp_cd h (fun h => ?_) fun h => ?_
  refine srk tbok ⟨26, [(4, vb false)], []⟩ ?_
  refine swp_ret ?_
  obtain rfl := inj h
  exact q_br (q_rr (q_rr (q_br (q_rr (q_fr (f1 fv))))))
  refine swp_skip ?_
  obtain rfl := inj h
  exact q_bn (q_l (Le.sub0))
  refine swp_reg ?_
  refine SRun.ck tbok 3 ⟨26, [(0, vl eS aA), (1, vl eS aB), (5, vi (w64 (s3.1 + 1)))], []⟩ ?_
  refine SRun.nil ?_
  obtain rfl := inj h
  exact q_l (Le.sub0)
  refine swp_exit ?_
  obtain rfl := inj h
  exact nx_e (q_re (q_bh (q_l (Le.sub0))))
  refine srk tbok ⟨26, [(4, vb true)], []⟩ ?_
  refine swp_ret ?_
  obtain rfl := inj h
  exact q_fr (f1 fv)
theorem ents34 : Ents Tryz.prog 34 := ents_of Tryz.func34 (by kernel_rfl) rfl
noncomputable def laws_likeInts (aA : (List Int)) (aB : (List Int)) : Option (Bool) :=
  (bif ((aA.length : Int) != (aB.length : Int)) then some false else (((forN (aA.length : Int) (fun (i3 : Int) (_ : Unit) => ((at' aA i3).bind fun x7 => ((at' aB i3).bind fun x8 => (bif (x7 != x8) then some (.inr (.inr false)) else some (.inl ()))))) (fun (_ : Unit) => .inl ()) 0 ())).bind (Sum.elim (fun (_ : Unit) => some true) some)))
theorem laws_likeInts_run (aA : (List Int)) (aB : (List Int)) (r : Bool) (h : laws_likeInts aA aB = some r) : SCall Tryz.prog 35 [.v (vl (eI .i64) aA), .v (vl (eI .i64) aB)] ⟨[.v (vb r)], [], false⟩ := by
  refine scall_in Tryz.func35 rfl [(.tmp 4)] rfl (fun r => ⟨[.v (vb r)], [], false⟩) (r := r) ?_
  unfold laws_likeInts at h
  refine srk tbok ⟨26, [(0, vl (eI .i64) aA), (1, vl (eI .i64) aB)], []⟩ ?_
  refine swp_seq ?_
  refine srk tbok ⟨26, [(0, vl (eI .i64) aA), (1, vl (eI .i64) aB), (10, vb ((aA.length : Int) != (aB.length : Int)))], []⟩ ?_
  refine swp_cd h (fun h => ?_) fun h => ?_
  refine srk tbok ⟨26, [(4, vb false)], []⟩ ?_
  refine swp_ret ?_
  obtain rfl := inj h
  exact nx_r (q_fr (f1 fv))
  refine swp_skip ?_
  refine nx_n ?_
  refine swp_seq ?_
  refine srk tbok ⟨26, [(0, vl (eI .i64) aA), (1, vl (eI .i64) aB), (5, vi 0)], []⟩ ?_
  refine swp_seqE (r := r) h (fun j1 => ⟨26, [], []⟩) (fun v2 h => ?_) (fun j1 h => ?_)
  refine swp_blk (a := v2) ?_
  refine swp_lpL (r := v2) (s := (0, ())) _ (fun s3 => ⟨26, [(0, vl (eI .i64) aA), (1, vl (eI .i64) aB), (5, vi s3.1)], []⟩) _ (Le.sub0) h (fun s3 v4 h => ?_)
  refine swp_seq ?_
  refine srk tbok ⟨26, [(0, vl (eI .i64) aA), (1, vl (eI .i64) aB), (5, vi s3.1), (14, vb (decide (s3.1 < (aA.length : Int))))], []⟩ ?_
  refine swp_cd h (fun h => ?_) fun h => ?_
  refine swp_skip ?_
  refine nx_n ?_
  refine swp_seq ?_
  refine swp_seqL (r := v4) h (fun j5 => ⟨26, [(0, vl (eI .i64) aA), (1, vl (eI .i64) aB), (5, vi s3.1)], []⟩) (fun v6 h => ?_) (fun j5 h => ?_)
  refine swp_blk (a := v6) ?_
  refine swp_seq ?_
  refine swp_dr mixed ?_
  refine DGo.ck tbok false 2 ⟨26, [(0, vl (eI .i64) aA), (1, vl (eI .i64) aB), (5, vi s3.1), (17, vl (eI .i64) aA), (18, vi s3.1)], []⟩ ?_
  obtain ⟨x7, hx7, h⟩ := bind_some h
  refine DGo.step (x_index (L := aA) (f := (eI .i64)) (ti := ti54) (tj := ti2) (e := 2) (k := .i64) tbok rfl hx7) ?_
  refine DGo.ck tbok false 3 ⟨26, [(0, vl (eI .i64) aA), (1, vl (eI .i64) aB), (5, vi s3.1), (20, vi x7), (21, vl (eI .i64) aB), (22, vi s3.1)], []⟩ ?_
  obtain ⟨x8, hx8, h⟩ := bind_some h
  refine DGo.step (x_index (L := aB) (f := (eI .i64)) (ti := ti54) (tj := ti2) (e := 2) (k := .i64) tbok rfl hx8) ?_
  refine DGo.ck tbok false 2 ⟨26, [(0, vl (eI .i64) aA), (1, vl (eI .i64) aB), (5, vi s3.1), (25, vb (x7 != x8))], []⟩ ?_
  refine DGo.nx ?_
  refine swp_cd h (fun h => ?_) fun h => ?_
  refine srk tbok ⟨26, [(4, vb false)], []⟩ ?_
  refine swp_ret ?_
  obtain rfl := inj h
  exact q_br (q_rr (q_rr (q_br (q_rr (q_fr (f1 fv))))))
  refine swp_skip ?_
  obtain rfl := inj h
  exact q_bn (q_l (Le.sub0))
  refine swp_reg ?_
  refine SRun.ck tbok 3 ⟨26, [(0, vl (eI .i64) aA), (1, vl (eI .i64) aB), (5, vi (w64 (s3.1 + 1)))], []⟩ ?_
  refine SRun.nil ?_
  obtain rfl := inj h
  exact q_l (Le.sub0)
  refine swp_exit ?_
  obtain rfl := inj h
  exact nx_e (q_re (q_bh (q_l (Le.sub0))))
  refine srk tbok ⟨26, [(4, vb true)], []⟩ ?_
  refine swp_ret ?_
  obtain rfl := inj h
  exact q_fr (f1 fv)
theorem ents35 : Ents Tryz.prog 35 := ents_of Tryz.func35 (by kernel_rfl) rfl
noncomputable def impl_AnswerFor (aList : (List Candidate)) (aCode : ByteArray) (aText : ByteArray) (aSites : (List Site)) (aDescriptions : (List Description)) : Option (Answer × Int) :=
  ((impl_question_code (question.mk aText aSites aDescriptions) aList).bind fun x1 => (bif (x1 != 0) then some ((Answer.mk (ByteArray.mk #[]) 0 0), x1) else ((impl_findCandidate aList aCode).bind fun x2 => (bif (decide (x2 < 0)) then some ((Answer.mk (ByteArray.mk #[]) 0 0), 4) else ((at' aList x2).bind fun x3 => ((impl_question_answer (question.mk aText aSites aDescriptions) x3).bind fun x4 => some (x4, 0)))))))
theorem impl_AnswerFor_run (aList : (List Candidate)) (aCode : ByteArray) (aText : ByteArray) (aSites : (List Site)) (aDescriptions : (List Description)) (r : Answer × Int) (h : impl_AnswerFor aList aCode aText aSites aDescriptions = some r) : SCall Tryz.prog 36 [.v (vl eCandidate aList), .v (vs aCode), .v (vs aText), .v (vl eSite aSites), .v (vl eDescription aDescriptions)] ⟨[.v (.agg (tc eAnswer r.1)), .v (vi r.2)], [], false⟩ := by
  refine scall_in Tryz.func36 rfl [(.cell 10 59), (.tmp 11)] rfl (fun r => ⟨[.v (.agg (tc eAnswer r.1)), .v (vi r.2)], [], false⟩) (r := r) ?_
  unfold impl_AnswerFor at h
  refine srk tbok ⟨38, [(0, vl eCandidate aList), (1, vs aCode), (2, vs aText), (3, vl eSite aSites), (4, vl eDescription aDescriptions), (10, .ref 10 0)], [(10, .box [vs (ByteArray.mk #[]), vi 0, vi 0])]⟩ ?_
  refine sr ?_
  refine SRun.ck tbok 3 ⟨38, [(0, vl eCandidate aList), (1, vs aCode), (10, .ref 10 0), (15, vs aText), (16, vl eSite aSites), (17, vl eDescription aDescriptions)], [(10, .box [vs (ByteArray.mk #[]), vi 0, vi 0])]⟩ ?_
  refine SRun.ls (x_lstep_build (v := .agg [vs aText, vl eSite aSites, vl eDescription aDescriptions]) tbok rfl) ?_
  refine ckn tbok 2 ⟨38, [(0, vl eCandidate aList), (1, vs aCode), (10, .ref 10 0), (12, .ref 12 0)], [(10, .box [vs (ByteArray.mk #[]), vi 0, vi 0]), (12, .box [vs aText, vl eSite aSites, vl eDescription aDescriptions])]⟩ ?_
  refine swp_seq ?_
  refine sr ?_
  refine SRun.ck tbok 2 ⟨38, [(0, vl eCandidate aList), (1, vs aCode), (10, .ref 10 0), (12, .ref 12 0), (19, .agg [vs aText, vl eSite aSites, vl eDescription aDescriptions]), (20, vl eCandidate aList)], [(10, .box [vs (ByteArray.mk #[]), vi 0, vi 0]), (12, .box [vs aText, vl eSite aSites, vl eDescription aDescriptions])]⟩ ?_
  obtain ⟨x1, hx1, h⟩ := bind_some h
  refine SRun.ls (xc ents79 (impl_question_code_run (question.mk aText aSites aDescriptions) aList _ hx1)) ?_
  refine ckn tbok 1 ⟨38, [(0, vl eCandidate aList), (1, vs aCode), (10, .ref 10 0), (12, .ref 12 0), (13, vi x1)], [(10, .box [vs (ByteArray.mk #[]), vi 0, vi 0]), (12, .box [vs aText, vl eSite aSites, vl eDescription aDescriptions])]⟩ ?_
  refine srk tbok ⟨38, [(0, vl eCandidate aList), (1, vs aCode), (10, .ref 10 0), (12, .ref 12 0), (13, vi x1), (23, vb (x1 != 0))], [(10, .box [vs (ByteArray.mk #[]), vi 0, vi 0]), (12, .box [vs aText, vl eSite aSites, vl eDescription aDescriptions])]⟩ ?_
  refine swp_cd h (fun h => ?_) fun h => ?_
  refine sr ?_
  refine SRun.ls (x_lstep_build (v := .agg [vs (ByteArray.mk #[]), vi 0, vi 0]) tbok rfl) ?_
  refine ckn tbok 3 ⟨38, [(10, .ref 10 0), (11, vi x1)], [(10, .box [vs (ByteArray.mk #[]), vi 0, vi 0])]⟩ ?_
  refine swp_ret ?_
  obtain rfl := inj h
  exact nx_r (q_fr (f2 (fc tbok) fv))
  refine swp_skip ?_
  refine nx_n ?_
  refine sr ?_
  refine SRun.ck tbok 2 ⟨38, [(0, vl eCandidate aList), (10, .ref 10 0), (12, .ref 12 0), (26, vl eCandidate aList), (27, vs aCode)], [(10, .box [vs (ByteArray.mk #[]), vi 0, vi 0]), (12, .box [vs aText, vl eSite aSites, vl eDescription aDescriptions])]⟩ ?_
  obtain ⟨x2, hx2, h⟩ := bind_some h
  refine SRun.ls (xc ents59 (impl_findCandidate_run aList aCode _ hx2)) ?_
  refine ckn tbok 1 ⟨38, [(0, vl eCandidate aList), (10, .ref 10 0), (12, .ref 12 0), (14, vi x2)], [(10, .box [vs (ByteArray.mk #[]), vi 0, vi 0]), (12, .box [vs aText, vl eSite aSites, vl eDescription aDescriptions])]⟩ ?_
  refine swp_seq ?_
  refine srk tbok ⟨38, [(0, vl eCandidate aList), (10, .ref 10 0), (12, .ref 12 0), (14, vi x2), (30, vb (decide (x2 < 0)))], [(10, .box [vs (ByteArray.mk #[]), vi 0, vi 0]), (12, .box [vs aText, vl eSite aSites, vl eDescription aDescriptions])]⟩ ?_
  refine swp_cd h (fun h => ?_) fun h => ?_
  refine sr ?_
  refine SRun.ls (x_lstep_build (v := .agg [vs (ByteArray.mk #[]), vi 0, vi 0]) tbok rfl) ?_
  refine ckn tbok 2 ⟨38, [(10, .ref 10 0), (11, vi 4)], [(10, .box [vs (ByteArray.mk #[]), vi 0, vi 0])]⟩ ?_
  refine swp_ret ?_
  obtain rfl := inj h
  exact nx_r (q_fr (f2 (fc tbok) fv))
  refine swp_skip ?_
  refine nx_n ?_
  refine swp_seq ?_
  refine swp_dr mixed ?_
  refine DGo.ck tbok false 3 ⟨38, [(10, .ref 10 0), (32, .agg [vs aText, vl eSite aSites, vl eDescription aDescriptions]), (33, vl eCandidate aList), (34, vi x2)], [(10, .box [vs (ByteArray.mk #[]), vi 0, vi 0])]⟩ ?_
  obtain ⟨x3, hx3, h⟩ := bind_some h
  refine DGo.step (x_index (L := aList) (f := eCandidate) (ti := ti31) (tj := ti87) (e := 87) (k := .i64) tbok rfl hx3) ?_
  refine DGo.ck tbok false 1 ⟨38, [(10, .ref 10 0), (32, .agg [vs aText, vl eSite aSites, vl eDescription aDescriptions]), (36, .agg (tc eCandidate x3))], [(10, .box [vs (ByteArray.mk #[]), vi 0, vi 0])]⟩ ?_
  obtain ⟨x4, hx4, h⟩ := bind_some h
  refine DGo.step (xc ents83 (impl_question_answer_run (question.mk aText aSites aDescriptions) x3 _ hx4)) ?_
  refine DGo.seq (by kernel_rfl) (by kernel_rfl) ?_
  refine ckn tbok 2 ⟨38, [(10, .ref 10 0), (11, vi 0)], [(10, .box (tc eAnswer x4))]⟩ ?_
  refine swp_ret ?_
  obtain rfl := inj h
  exact q_fr (f2 (fc tbok) fv)
theorem ents36 : Ents Tryz.prog 36 := ents_of Tryz.func36 (by kernel_rfl) rfl
noncomputable def laws_FnEvidence (aCode : (List Int)) : Option (Bool) :=
  ((laws_big aCode).bind fun x1 => (bif x1 then some true else ((spec_DrawEvidenceFor aCode).bind fun x2 => ((impl_EvidenceFor x2.1 x2.2.1 x2.2.2.1 x2.2.2.2).bind fun x3 => ((spec_EvidenceFor x2.1 x2.2.1 x2.2.2.1 x2.2.2.2).bind fun x4 => ((spec_DrawPhraseDistance aCode).bind fun x5 => ((impl_PhraseDistance x5.1 x5.2).bind fun x6 => ((spec_PhraseDistance x5.1 x5.2).bind fun x7 => ((spec_DrawLostWithout aCode).bind fun x8 => ((impl_LostWithout x8.1 x8.2.1 x8.2.2.1 x8.2.2.2).bind fun x9 => ((spec_LostWithout x8.1 x8.2.1 x8.2.2.1 x8.2.2.2).bind fun x10 => (((bif (x3.2 != x4.2) then some true else ((laws_likeTexts x3.1 x4.1).bind fun x11 => (bif (!x11) then some true else (bif (x6.2 != x7.2) then some true else (bif (x6.1 != x7.1) then some true else (bif (x9.2 != x10.2) then some true else ((laws_likeInts x9.1 x10.1).bind fun x12 => some (!x12))))))))).bind fun (j13 : Bool) => (bif j13 then some false else (((bif (x6.2 == 0) then ((impl_PhraseDistance x5.2 x5.1).bind fun x17 => (bif ((x17.2 != 0) || ((x17.1 != x6.1) || (!((x6.1 == 0) == (x5.1.toList == x5.2.toList))))) then some (.inr false) else some (.inl ()))) else some (.inl ()))).bind (Sum.elim (fun (_ : Unit) => (bif (x3.2 != 0) then some true else ((impl_AnswerFor x2.1 x2.2.1 (ByteArray.mk #[97]) x2.2.2.1 x2.2.2.2).bind fun x18 => some ((x18.2 == 0) && (x18.1.Satisfied == (x3.1.length : Int)))))) some)))))))))))))))
theorem laws_FnEvidence_run (aCode : (List Int)) (r : Bool) (h : laws_FnEvidence aCode = some r) : SCall Tryz.prog 5 [.v (vl (eI .u8) aCode)] ⟨[.v (vb r)], [], false⟩ := by
  refine scall_in Tryz.func5 rfl [(.tmp 2)] rfl (fun r => ⟨[.v (vb r)], [], false⟩) (r := r) ?_
  unfold laws_FnEvidence at h
  refine srk tbok ⟨166, [(0, vl (eI .u8) aCode)], []⟩ ?_
  refine swp_seq ?_
  refine sr ?_
  refine SRun.ck tbok 1 ⟨166, [(0, vl (eI .u8) aCode), (29, vl (eI .u8) aCode)], []⟩ ?_
  obtain ⟨x1, hx1, h⟩ := bind_some h
  refine SRun.ls (xc ents26 (laws_big_run aCode _ hx1)) ?_
  refine SRun.nx ?_
  refine swp_cd h (fun h => ?_) fun h => ?_
  refine srk tbok ⟨166, [(2, vb true)], []⟩ ?_
  refine swp_ret ?_
  obtain rfl := inj h
  exact nx_r (q_fr (f1 fv))
  refine swp_skip ?_
  refine nx_n ?_
  refine sr ?_
  refine SRun.ck tbok 1 ⟨166, [(0, vl (eI .u8) aCode), (32, vl (eI .u8) aCode)], []⟩ ?_
  obtain ⟨x2, hx2, h⟩ := bind_some h
  refine SRun.ls (xc ents27 (spec_DrawEvidenceFor_run aCode _ hx2)) ?_
  refine ckn tbok 9 ⟨166, [(0, vl (eI .u8) aCode), (3, .own 33), (4, vs x2.2.1), (5, vl eSite x2.2.2.1), (6, vl eDescription x2.2.2.2)], [(33, oa 87 4 eCandidate x2.1)]⟩ ?_
  refine sr ?_
  refine SRun.ck tbok 4 ⟨166, [(0, vl (eI .u8) aCode), (3, .own 33), (4, vs x2.2.1), (5, vl eSite x2.2.2.1), (6, vl eDescription x2.2.2.2), (39, .own 33), (40, vs x2.2.1), (41, vl eSite x2.2.2.1), (42, vl eDescription x2.2.2.2)], [(33, oa 87 4 eCandidate x2.1)]⟩ ?_
  obtain ⟨x3, hx3, h⟩ := bind_some h
  refine SRun.ls (xc ents14 (impl_EvidenceFor_run x2.1 x2.2.1 x2.2.2.1 x2.2.2.2 _ hx3)) ?_
  refine ckn tbok 5 ⟨166, [(0, vl (eI .u8) aCode), (3, .own 33), (4, vs x2.2.1), (5, vl eSite x2.2.2.1), (6, vl eDescription x2.2.2.2), (7, .own 43), (8, vi x3.2)], [(33, oa 87 4 eCandidate x2.1), (43, oa 9 1 eS x3.1)]⟩ ?_
  refine sr ?_
  refine SRun.ck tbok 4 ⟨166, [(0, vl (eI .u8) aCode), (3, .own 33), (4, vs x2.2.1), (5, vl eSite x2.2.2.1), (6, vl eDescription x2.2.2.2), (7, .own 43), (8, vi x3.2), (47, .own 33), (48, vs x2.2.1), (49, vl eSite x2.2.2.1), (50, vl eDescription x2.2.2.2)], [(33, oa 87 4 eCandidate x2.1), (43, oa 9 1 eS x3.1)]⟩ ?_
  obtain ⟨x4, hx4, h⟩ := bind_some h
  refine SRun.ls (xc ents10 (spec_EvidenceFor_run x2.1 x2.2.1 x2.2.2.1 x2.2.2.2 _ hx4)) ?_
  refine ckn tbok 5 ⟨166, [(0, vl (eI .u8) aCode), (3, .own 33), (4, vs x2.2.1), (5, vl eSite x2.2.2.1), (6, vl eDescription x2.2.2.2), (7, .own 43), (8, vi x3.2), (9, .own 51), (10, vi x4.2)], [(33, oa 87 4 eCandidate x2.1), (43, oa 9 1 eS x3.1), (51, oa 9 1 eS x4.1)]⟩ ?_
  refine sr ?_
  refine SRun.ck tbok 1 ⟨166, [(0, vl (eI .u8) aCode), (3, .own 33), (4, vs x2.2.1), (5, vl eSite x2.2.2.1), (6, vl eDescription x2.2.2.2), (7, .own 43), (8, vi x3.2), (9, .own 51), (10, vi x4.2), (55, vl (eI .u8) aCode)], [(33, oa 87 4 eCandidate x2.1), (43, oa 9 1 eS x3.1), (51, oa 9 1 eS x4.1)]⟩ ?_
  obtain ⟨x5, hx5, h⟩ := bind_some h
  refine SRun.ls (xc ents28 (spec_DrawPhraseDistance_run aCode _ hx5)) ?_
  refine ckn tbok 5 ⟨166, [(0, vl (eI .u8) aCode), (3, .own 33), (4, vs x2.2.1), (5, vl eSite x2.2.2.1), (6, vl eDescription x2.2.2.2), (7, .own 43), (8, vi x3.2), (9, .own 51), (10, vi x4.2), (11, vs x5.1), (12, vs x5.2)], [(33, oa 87 4 eCandidate x2.1), (43, oa 9 1 eS x3.1), (51, oa 9 1 eS x4.1)]⟩ ?_
  refine sr ?_
  refine SRun.ck tbok 2 ⟨166, [(0, vl (eI .u8) aCode), (3, .own 33), (4, vs x2.2.1), (5, vl eSite x2.2.2.1), (6, vl eDescription x2.2.2.2), (7, .own 43), (8, vi x3.2), (9, .own 51), (10, vi x4.2), (11, vs x5.1), (12, vs x5.2), (60, vs x5.1), (61, vs x5.2)], [(33, oa 87 4 eCandidate x2.1), (43, oa 9 1 eS x3.1), (51, oa 9 1 eS x4.1)]⟩ ?_
  obtain ⟨x6, hx6, h⟩ := bind_some h
  refine SRun.ls (xc ents29 (impl_PhraseDistance_run x5.1 x5.2 _ hx6)) ?_
  refine ckn tbok 5 ⟨166, [(0, vl (eI .u8) aCode), (3, .own 33), (4, vs x2.2.1), (5, vl eSite x2.2.2.1), (6, vl eDescription x2.2.2.2), (7, .own 43), (8, vi x3.2), (9, .own 51), (10, vi x4.2), (11, vs x5.1), (12, vs x5.2), (13, vi x6.1), (14, vi x6.2)], [(33, oa 87 4 eCandidate x2.1), (43, oa 9 1 eS x3.1), (51, oa 9 1 eS x4.1)]⟩ ?_
  refine sr ?_
  refine SRun.ck tbok 2 ⟨166, [(0, vl (eI .u8) aCode), (3, .own 33), (4, vs x2.2.1), (5, vl eSite x2.2.2.1), (6, vl eDescription x2.2.2.2), (7, .own 43), (8, vi x3.2), (9, .own 51), (10, vi x4.2), (11, vs x5.1), (12, vs x5.2), (13, vi x6.1), (14, vi x6.2), (66, vs x5.1), (67, vs x5.2)], [(33, oa 87 4 eCandidate x2.1), (43, oa 9 1 eS x3.1), (51, oa 9 1 eS x4.1)]⟩ ?_
  obtain ⟨x7, hx7, h⟩ := bind_some h
  refine SRun.ls (xc ents30 (spec_PhraseDistance_run x5.1 x5.2 _ hx7)) ?_
  refine ckn tbok 5 ⟨166, [(0, vl (eI .u8) aCode), (3, .own 33), (4, vs x2.2.1), (5, vl eSite x2.2.2.1), (6, vl eDescription x2.2.2.2), (7, .own 43), (8, vi x3.2), (9, .own 51), (10, vi x4.2), (11, vs x5.1), (12, vs x5.2), (13, vi x6.1), (14, vi x6.2), (15, vi x7.1), (16, vi x7.2)], [(33, oa 87 4 eCandidate x2.1), (43, oa 9 1 eS x3.1), (51, oa 9 1 eS x4.1)]⟩ ?_
  refine sr ?_
  refine SRun.ck tbok 1 ⟨166, [(3, .own 33), (4, vs x2.2.1), (5, vl eSite x2.2.2.1), (6, vl eDescription x2.2.2.2), (7, .own 43), (8, vi x3.2), (9, .own 51), (10, vi x4.2), (11, vs x5.1), (12, vs x5.2), (13, vi x6.1), (14, vi x6.2), (15, vi x7.1), (16, vi x7.2), (72, vl (eI .u8) aCode)], [(33, oa 87 4 eCandidate x2.1), (43, oa 9 1 eS x3.1), (51, oa 9 1 eS x4.1)]⟩ ?_
  obtain ⟨x8, hx8, h⟩ := bind_some h
  refine SRun.ls (xc ents31 (spec_DrawLostWithout_run aCode _ hx8)) ?_
  refine ckn tbok 9 ⟨166, [(3, .own 33), (4, vs x2.2.1), (5, vl eSite x2.2.2.1), (6, vl eDescription x2.2.2.2), (7, .own 43), (8, vi x3.2), (9, .own 51), (10, vi x4.2), (11, vs x5.1), (12, vs x5.2), (13, vi x6.1), (14, vi x6.2), (15, vi x7.1), (16, vi x7.2), (17, .own 73), (18, vs x8.2.1), (19, vl eSite x8.2.2.1), (20, vl eDescription x8.2.2.2)], [(33, oa 87 4 eCandidate x2.1), (43, oa 9 1 eS x3.1), (51, oa 9 1 eS x4.1), (73, oa 87 4 eCandidate x8.1)]⟩ ?_
  refine sr ?_
  refine SRun.ck tbok 4 ⟨166, [(3, .own 33), (4, vs x2.2.1), (5, vl eSite x2.2.2.1), (6, vl eDescription x2.2.2.2), (7, .own 43), (8, vi x3.2), (9, .own 51), (10, vi x4.2), (11, vs x5.1), (12, vs x5.2), (13, vi x6.1), (14, vi x6.2), (15, vi x7.1), (16, vi x7.2), (17, .own 73), (18, vs x8.2.1), (19, vl eSite x8.2.2.1), (20, vl eDescription x8.2.2.2), (79, .own 73), (80, vs x8.2.1), (81, vl eSite x8.2.2.1), (82, vl eDescription x8.2.2.2)], [(33, oa 87 4 eCandidate x2.1), (43, oa 9 1 eS x3.1), (51, oa 9 1 eS x4.1), (73, oa 87 4 eCandidate x8.1)]⟩ ?_
  obtain ⟨x9, hx9, h⟩ := bind_some h
  refine SRun.ls (xc ents32 (impl_LostWithout_run x8.1 x8.2.1 x8.2.2.1 x8.2.2.2 _ hx9)) ?_
  refine ckn tbok 5 ⟨166, [(3, .own 33), (4, vs x2.2.1), (5, vl eSite x2.2.2.1), (6, vl eDescription x2.2.2.2), (7, .own 43), (8, vi x3.2), (9, .own 51), (10, vi x4.2), (11, vs x5.1), (12, vs x5.2), (13, vi x6.1), (14, vi x6.2), (15, vi x7.1), (16, vi x7.2), (17, .own 73), (18, vs x8.2.1), (19, vl eSite x8.2.2.1), (20, vl eDescription x8.2.2.2), (21, .own 83), (22, vi x9.2)], [(33, oa 87 4 eCandidate x2.1), (43, oa 9 1 eS x3.1), (51, oa 9 1 eS x4.1), (73, oa 87 4 eCandidate x8.1), (83, oa 2 1 (eI .i64) x9.1)]⟩ ?_
  refine sr ?_
  refine SRun.ck tbok 4 ⟨166, [(3, .own 33), (4, vs x2.2.1), (5, vl eSite x2.2.2.1), (6, vl eDescription x2.2.2.2), (7, .own 43), (8, vi x3.2), (9, .own 51), (10, vi x4.2), (11, vs x5.1), (12, vs x5.2), (13, vi x6.1), (14, vi x6.2), (15, vi x7.1), (16, vi x7.2), (21, .own 83), (22, vi x9.2), (87, .own 73), (88, vs x8.2.1), (89, vl eSite x8.2.2.1), (90, vl eDescription x8.2.2.2)], [(33, oa 87 4 eCandidate x2.1), (43, oa 9 1 eS x3.1), (51, oa 9 1 eS x4.1), (73, oa 87 4 eCandidate x8.1), (83, oa 2 1 (eI .i64) x9.1)]⟩ ?_
  obtain ⟨x10, hx10, h⟩ := bind_some h
  refine SRun.ls (xc ents33 (spec_LostWithout_run x8.1 x8.2.1 x8.2.2.1 x8.2.2.2 _ hx10)) ?_
  refine ckn tbok 5 ⟨166, [(3, .own 33), (4, vs x2.2.1), (5, vl eSite x2.2.2.1), (6, vl eDescription x2.2.2.2), (7, .own 43), (8, vi x3.2), (9, .own 51), (10, vi x4.2), (11, vs x5.1), (12, vs x5.2), (13, vi x6.1), (14, vi x6.2), (15, vi x7.1), (16, vi x7.2), (21, .own 83), (22, vi x9.2), (23, .own 91), (24, vi x10.2)], [(33, oa 87 4 eCandidate x2.1), (43, oa 9 1 eS x3.1), (51, oa 9 1 eS x4.1), (83, oa 2 1 (eI .i64) x9.1), (91, oa 2 1 (eI .i64) x10.1)]⟩ ?_
  refine swp_seq ?_
  refine swp_seq ?_
  refine swp_regJ h (fun j13 => ⟨166, [(3, .own 3), (4, vs x2.2.1), (5, vl eSite x2.2.2.1), (6, vl eDescription x2.2.2.2), (7, .own 7), (8, vi x3.2), (11, vs x5.1), (12, vs x5.2), (13, vi x6.1), (14, vi x6.2), (123, vb j13)], [(3, oa 87 4 eCandidate x2.1), (7, oa 9 1 eS x3.1)]⟩) (fun v14 h => ?_) (fun j13 h => ?_)
  refine SRun.ck tbok 4 ⟨166, [(3, .own 33), (4, vs x2.2.1), (5, vl eSite x2.2.2.1), (6, vl eDescription x2.2.2.2), (7, .own 43), (8, vi x3.2), (9, .own 51), (11, vs x5.1), (12, vs x5.2), (13, vi x6.1), (14, vi x6.2), (15, vi x7.1), (16, vi x7.2), (21, .own 83), (22, vi x9.2), (23, .own 91), (24, vi x10.2), (97, vb (x3.2 != x4.2))], [(33, oa 87 4 eCandidate x2.1), (43, oa 9 1 eS x3.1), (51, oa 9 1 eS x4.1), (83, oa 2 1 (eI .i64) x9.1), (91, oa 2 1 (eI .i64) x10.1)]⟩ ?_
  refine SRun.cu [(97, fun b => b)] h (fun h => ?_) fun h => ?_
  refine SRun.ck tbok 26 ⟨166, [(3, .own 33), (4, vs x2.2.1), (5, vl eSite x2.2.2.1), (6, vl eDescription x2.2.2.2), (7, .own 43), (8, vi x3.2), (11, vs x5.1), (12, vs x5.2), (13, vi x6.1), (14, vi x6.2), (123, vb true)], [(33, oa 87 4 eCandidate x2.1), (43, oa 9 1 eS x3.1)]⟩ ?_
  refine SRun.nil ?_
  obtain rfl := inj h
  exact (Le.sub' ([(3, .own 33), (4, vs x2.2.1), (5, vl eSite x2.2.2.1), (6, vl eDescription x2.2.2.2), (7, .own 43), (8, vi x3.2), (11, vs x5.1), (12, vs x5.2), (13, vi x6.1), (14, vi x6.2), (123, vb true)] : List (Nat × SV)) ([(33, oa 87 4 eCandidate x2.1), (43, oa 9 1 eS x3.1)] : List (Nat × SO)) (by kernel_rfl) (by kernel_rfl)).trans ((Le.ren' (d := 33) (e := 3) (by kernel_rfl) (by kernel_rfl) (by kernel_rfl)).trans ((Le.ren' (d := 43) (e := 7) (by kernel_rfl) (by kernel_rfl) (by kernel_rfl)).trans (Le.sub0)))
  refine SRun.ck tbok 2 ⟨166, [(3, .own 33), (4, vs x2.2.1), (5, vl eSite x2.2.2.1), (6, vl eDescription x2.2.2.2), (7, .own 43), (8, vi x3.2), (11, vs x5.1), (12, vs x5.2), (13, vi x6.1), (14, vi x6.2), (15, vi x7.1), (16, vi x7.2), (21, .own 83), (22, vi x9.2), (23, .own 91), (24, vi x10.2), (97, vb false), (98, .own 43), (99, .own 51)], [(33, oa 87 4 eCandidate x2.1), (43, oa 9 1 eS x3.1), (51, oa 9 1 eS x4.1), (83, oa 2 1 (eI .i64) x9.1), (91, oa 2 1 (eI .i64) x10.1)]⟩ ?_
  obtain ⟨x11, hx11, h⟩ := bind_some h
  refine SRun.ls (xc ents34 (laws_likeTexts_run x3.1 x4.1 _ hx11)) ?_
  refine SRun.ck tbok 3 ⟨166, [(3, .own 33), (4, vs x2.2.1), (5, vl eSite x2.2.2.1), (6, vl eDescription x2.2.2.2), (7, .own 43), (8, vi x3.2), (11, vs x5.1), (12, vs x5.2), (13, vi x6.1), (14, vi x6.2), (15, vi x7.1), (16, vi x7.2), (21, .own 83), (22, vi x9.2), (23, .own 91), (24, vi x10.2), (103, vb (!x11))], [(33, oa 87 4 eCandidate x2.1), (43, oa 9 1 eS x3.1), (83, oa 2 1 (eI .i64) x9.1), (91, oa 2 1 (eI .i64) x10.1)]⟩ ?_
  refine SRun.cu [(103, fun b => b)] h (fun h => ?_) fun h => ?_
  refine SRun.ck tbok 20 ⟨166, [(3, .own 33), (4, vs x2.2.1), (5, vl eSite x2.2.2.1), (6, vl eDescription x2.2.2.2), (7, .own 43), (8, vi x3.2), (11, vs x5.1), (12, vs x5.2), (13, vi x6.1), (14, vi x6.2), (123, vb true)], [(33, oa 87 4 eCandidate x2.1), (43, oa 9 1 eS x3.1)]⟩ ?_
  refine SRun.nil ?_
  obtain rfl := inj h
  exact (Le.sub' ([(3, .own 33), (4, vs x2.2.1), (5, vl eSite x2.2.2.1), (6, vl eDescription x2.2.2.2), (7, .own 43), (8, vi x3.2), (11, vs x5.1), (12, vs x5.2), (13, vi x6.1), (14, vi x6.2), (123, vb true)] : List (Nat × SV)) ([(33, oa 87 4 eCandidate x2.1), (43, oa 9 1 eS x3.1)] : List (Nat × SO)) (by kernel_rfl) (by kernel_rfl)).trans ((Le.ren' (d := 33) (e := 3) (by kernel_rfl) (by kernel_rfl) (by kernel_rfl)).trans ((Le.ren' (d := 43) (e := 7) (by kernel_rfl) (by kernel_rfl) (by kernel_rfl)).trans (Le.sub0)))
  refine SRun.ck tbok 5 ⟨166, [(3, .own 33), (4, vs x2.2.1), (5, vl eSite x2.2.2.1), (6, vl eDescription x2.2.2.2), (7, .own 43), (8, vi x3.2), (11, vs x5.1), (12, vs x5.2), (13, vi x6.1), (14, vi x6.2), (15, vi x7.1), (21, .own 83), (22, vi x9.2), (23, .own 91), (24, vi x10.2), (108, vb (x6.2 != x7.2))], [(33, oa 87 4 eCandidate x2.1), (43, oa 9 1 eS x3.1), (83, oa 2 1 (eI .i64) x9.1), (91, oa 2 1 (eI .i64) x10.1)]⟩ ?_
  refine SRun.cu [(108, fun b => b)] h (fun h => ?_) fun h => ?_
  refine SRun.ck tbok 15 ⟨166, [(3, .own 33), (4, vs x2.2.1), (5, vl eSite x2.2.2.1), (6, vl eDescription x2.2.2.2), (7, .own 43), (8, vi x3.2), (11, vs x5.1), (12, vs x5.2), (13, vi x6.1), (14, vi x6.2), (123, vb true)], [(33, oa 87 4 eCandidate x2.1), (43, oa 9 1 eS x3.1)]⟩ ?_
  refine SRun.nil ?_
  obtain rfl := inj h
  exact (Le.sub' ([(3, .own 33), (4, vs x2.2.1), (5, vl eSite x2.2.2.1), (6, vl eDescription x2.2.2.2), (7, .own 43), (8, vi x3.2), (11, vs x5.1), (12, vs x5.2), (13, vi x6.1), (14, vi x6.2), (123, vb true)] : List (Nat × SV)) ([(33, oa 87 4 eCandidate x2.1), (43, oa 9 1 eS x3.1)] : List (Nat × SO)) (by kernel_rfl) (by kernel_rfl)).trans ((Le.ren' (d := 33) (e := 3) (by kernel_rfl) (by kernel_rfl) (by kernel_rfl)).trans ((Le.ren' (d := 43) (e := 7) (by kernel_rfl) (by kernel_rfl) (by kernel_rfl)).trans (Le.sub0)))
  refine SRun.ck tbok 5 ⟨166, [(3, .own 33), (4, vs x2.2.1), (5, vl eSite x2.2.2.1), (6, vl eDescription x2.2.2.2), (7, .own 43), (8, vi x3.2), (11, vs x5.1), (12, vs x5.2), (13, vi x6.1), (14, vi x6.2), (21, .own 83), (22, vi x9.2), (23, .own 91), (24, vi x10.2), (113, vb (x6.1 != x7.1))], [(33, oa 87 4 eCandidate x2.1), (43, oa 9 1 eS x3.1), (83, oa 2 1 (eI .i64) x9.1), (91, oa 2 1 (eI .i64) x10.1)]⟩ ?_
  refine SRun.cu [(113, fun b => b)] h (fun h => ?_) fun h => ?_
  refine SRun.ck tbok 10 ⟨166, [(3, .own 33), (4, vs x2.2.1), (5, vl eSite x2.2.2.1), (6, vl eDescription x2.2.2.2), (7, .own 43), (8, vi x3.2), (11, vs x5.1), (12, vs x5.2), (13, vi x6.1), (14, vi x6.2), (123, vb true)], [(33, oa 87 4 eCandidate x2.1), (43, oa 9 1 eS x3.1)]⟩ ?_
  refine SRun.nil ?_
  obtain rfl := inj h
  exact (Le.sub' ([(3, .own 33), (4, vs x2.2.1), (5, vl eSite x2.2.2.1), (6, vl eDescription x2.2.2.2), (7, .own 43), (8, vi x3.2), (11, vs x5.1), (12, vs x5.2), (13, vi x6.1), (14, vi x6.2), (123, vb true)] : List (Nat × SV)) ([(33, oa 87 4 eCandidate x2.1), (43, oa 9 1 eS x3.1)] : List (Nat × SO)) (by kernel_rfl) (by kernel_rfl)).trans ((Le.ren' (d := 33) (e := 3) (by kernel_rfl) (by kernel_rfl) (by kernel_rfl)).trans ((Le.ren' (d := 43) (e := 7) (by kernel_rfl) (by kernel_rfl) (by kernel_rfl)).trans (Le.sub0)))
  refine SRun.ck tbok 5 ⟨166, [(3, .own 33), (4, vs x2.2.1), (5, vl eSite x2.2.2.1), (6, vl eDescription x2.2.2.2), (7, .own 43), (8, vi x3.2), (11, vs x5.1), (12, vs x5.2), (13, vi x6.1), (14, vi x6.2), (21, .own 83), (23, .own 91), (118, vb (x9.2 != x10.2))], [(33, oa 87 4 eCandidate x2.1), (43, oa 9 1 eS x3.1), (83, oa 2 1 (eI .i64) x9.1), (91, oa 2 1 (eI .i64) x10.1)]⟩ ?_
  refine SRun.cu [(118, fun b => b)] h (fun h => ?_) fun h => ?_
  refine SRun.ck tbok 5 ⟨166, [(3, .own 33), (4, vs x2.2.1), (5, vl eSite x2.2.2.1), (6, vl eDescription x2.2.2.2), (7, .own 43), (8, vi x3.2), (11, vs x5.1), (12, vs x5.2), (13, vi x6.1), (14, vi x6.2), (123, vb true)], [(33, oa 87 4 eCandidate x2.1), (43, oa 9 1 eS x3.1)]⟩ ?_
  refine SRun.nil ?_
  obtain rfl := inj h
  exact (Le.sub' ([(3, .own 33), (4, vs x2.2.1), (5, vl eSite x2.2.2.1), (6, vl eDescription x2.2.2.2), (7, .own 43), (8, vi x3.2), (11, vs x5.1), (12, vs x5.2), (13, vi x6.1), (14, vi x6.2), (123, vb true)] : List (Nat × SV)) ([(33, oa 87 4 eCandidate x2.1), (43, oa 9 1 eS x3.1)] : List (Nat × SO)) (by kernel_rfl) (by kernel_rfl)).trans ((Le.ren' (d := 33) (e := 3) (by kernel_rfl) (by kernel_rfl) (by kernel_rfl)).trans ((Le.ren' (d := 43) (e := 7) (by kernel_rfl) (by kernel_rfl) (by kernel_rfl)).trans (Le.sub0)))
  refine SRun.ck tbok 2 ⟨166, [(3, .own 33), (4, vs x2.2.1), (5, vl eSite x2.2.2.1), (6, vl eDescription x2.2.2.2), (7, .own 43), (8, vi x3.2), (11, vs x5.1), (12, vs x5.2), (13, vi x6.1), (14, vi x6.2), (118, vb false), (119, .own 83), (120, .own 91)], [(33, oa 87 4 eCandidate x2.1), (43, oa 9 1 eS x3.1), (83, oa 2 1 (eI .i64) x9.1), (91, oa 2 1 (eI .i64) x10.1)]⟩ ?_
  obtain ⟨x12, hx12, h⟩ := bind_some h
  refine SRun.ls (xc ents35 (laws_likeInts_run x9.1 x10.1 _ hx12)) ?_
  refine SRun.ck tbok 2 ⟨166, [(3, .own 33), (4, vs x2.2.1), (5, vl eSite x2.2.2.1), (6, vl eDescription x2.2.2.2), (7, .own 43), (8, vi x3.2), (11, vs x5.1), (12, vs x5.2), (13, vi x6.1), (14, vi x6.2), (123, vb (!x12))], [(33, oa 87 4 eCandidate x2.1), (43, oa 9 1 eS x3.1)]⟩ ?_
  refine SRun.nil ?_
  obtain rfl := inj h
  exact (Le.sub' ([(3, .own 33), (4, vs x2.2.1), (5, vl eSite x2.2.2.1), (6, vl eDescription x2.2.2.2), (7, .own 43), (8, vi x3.2), (11, vs x5.1), (12, vs x5.2), (13, vi x6.1), (14, vi x6.2), (123, vb (!x12))] : List (Nat × SV)) ([(33, oa 87 4 eCandidate x2.1), (43, oa 9 1 eS x3.1)] : List (Nat × SO)) (by kernel_rfl) (by kernel_rfl)).trans ((Le.ren' (d := 33) (e := 3) (by kernel_rfl) (by kernel_rfl) (by kernel_rfl)).trans ((Le.ren' (d := 43) (e := 7) (by kernel_rfl) (by kernel_rfl) (by kernel_rfl)).trans (Le.sub0)))
  refine swp_cd h (fun h => ?_) fun h => ?_
  refine srk tbok ⟨166, [(2, vb false)], []⟩ ?_
  refine swp_ret ?_
  obtain rfl := inj h
  exact nx_r (q_fr (f1 fv))
  refine swp_skip ?_
  refine nx_n ?_
  refine swp_seq ?_
  refine srk tbok ⟨166, [(3, .own 3), (4, vs x2.2.1), (5, vl eSite x2.2.2.1), (6, vl eDescription x2.2.2.2), (7, .own 7), (8, vi x3.2), (11, vs x5.1), (12, vs x5.2), (13, vi x6.1), (125, vb (x6.2 == 0))], [(3, oa 87 4 eCandidate x2.1), (7, oa 9 1 eS x3.1)]⟩ ?_
  refine swp_seqE (r := r) h (fun j15 => ⟨166, [(3, .own 3), (4, vs x2.2.1), (5, vl eSite x2.2.2.1), (6, vl eDescription x2.2.2.2), (7, .own 7), (8, vi x3.2)], [(3, oa 87 4 eCandidate x2.1), (7, oa 9 1 eS x3.1)]⟩) (fun v16 h => ?_) (fun j15 h => ?_)
  refine swp_cd h (fun h => ?_) fun h => ?_
  refine sr ?_
  refine SRun.ck tbok 2 ⟨166, [(3, .own 3), (4, vs x2.2.1), (5, vl eSite x2.2.2.1), (6, vl eDescription x2.2.2.2), (7, .own 7), (8, vi x3.2), (11, vs x5.1), (12, vs x5.2), (13, vi x6.1), (127, vs x5.2), (128, vs x5.1)], [(3, oa 87 4 eCandidate x2.1), (7, oa 9 1 eS x3.1)]⟩ ?_
  obtain ⟨x17, hx17, h⟩ := bind_some h
  refine SRun.ls (xc ents29 (impl_PhraseDistance_run x5.2 x5.1 _ hx17)) ?_
  refine ckn tbok 5 ⟨166, [(3, .own 3), (4, vs x2.2.1), (5, vl eSite x2.2.2.1), (6, vl eDescription x2.2.2.2), (7, .own 7), (8, vi x3.2), (11, vs x5.1), (12, vs x5.2), (13, vi x6.1), (25, vi x17.1), (26, vi x17.2)], [(3, oa 87 4 eCandidate x2.1), (7, oa 9 1 eS x3.1)]⟩ ?_
  refine swp_seq ?_
  refine swp_regP ⟨166, [(3, .own 3), (4, vs x2.2.1), (5, vl eSite x2.2.2.1), (6, vl eDescription x2.2.2.2), (7, .own 7), (8, vi x3.2), (146, vb ((x17.2 != 0) || ((x17.1 != x6.1) || (!((x6.1 == 0) == (x5.1.toList == x5.2.toList))))))], [(3, oa 87 4 eCandidate x2.1), (7, oa 9 1 eS x3.1)]⟩ ?_ ?_
  refine SRun.ck tbok 3 ⟨166, [(3, .own 3), (4, vs x2.2.1), (5, vl eSite x2.2.2.1), (6, vl eDescription x2.2.2.2), (7, .own 7), (8, vi x3.2), (11, vs x5.1), (12, vs x5.2), (13, vi x6.1), (25, vi x17.1), (134, vb (x17.2 != 0))], [(3, oa 87 4 eCandidate x2.1), (7, oa 9 1 eS x3.1)]⟩ ?_
  generalize (x17.2 != 0) = bb
  cases bb
  refine SRun.ck tbok 5 ⟨166, [(3, .own 3), (4, vs x2.2.1), (5, vl eSite x2.2.2.1), (6, vl eDescription x2.2.2.2), (7, .own 7), (8, vi x3.2), (11, vs x5.1), (12, vs x5.2), (13, vi x6.1), (139, vb (x17.1 != x6.1))], [(3, oa 87 4 eCandidate x2.1), (7, oa 9 1 eS x3.1)]⟩ ?_
  generalize (x17.1 != x6.1) = bb
  cases bb
  refine SRun.ck tbok 5 ⟨166, [(3, .own 3), (4, vs x2.2.1), (5, vl eSite x2.2.2.1), (6, vl eDescription x2.2.2.2), (7, .own 7), (8, vi x3.2), (139, vb false), (141, vb (x6.1 == 0)), (144, vb (x5.1.toList == x5.2.toList))], [(3, oa 87 4 eCandidate x2.1), (7, oa 9 1 eS x3.1)]⟩ ?_
  refine SRun.ls (x_lstep_eqb tbok (ti := ti4) (i := (x6.1 == 0)) (j := (x5.1.toList == x5.2.toList)) true rfl) ?_
  refine SRun.ck tbok 1 ⟨166, [(3, .own 3), (4, vs x2.2.1), (5, vl eSite x2.2.2.1), (6, vl eDescription x2.2.2.2), (7, .own 7), (8, vi x3.2), (146, vb (!((x6.1 == 0) == (x5.1.toList == x5.2.toList))))], [(3, oa 87 4 eCandidate x2.1), (7, oa 9 1 eS x3.1)]⟩ ?_
  exact SRun.nil (Le.sub0)
  refine SRun.ck tbok 7 ⟨166, [(3, .own 3), (4, vs x2.2.1), (5, vl eSite x2.2.2.1), (6, vl eDescription x2.2.2.2), (7, .own 7), (8, vi x3.2), (146, vb true)], [(3, oa 87 4 eCandidate x2.1), (7, oa 9 1 eS x3.1)]⟩ ?_
  exact SRun.nil (Le.sub0)
  refine SRun.ck tbok 12 ⟨166, [(3, .own 3), (4, vs x2.2.1), (5, vl eSite x2.2.2.1), (6, vl eDescription x2.2.2.2), (7, .own 7), (8, vi x3.2), (146, vb true)], [(3, oa 87 4 eCandidate x2.1), (7, oa 9 1 eS x3.1)]⟩ ?_
  exact SRun.nil (Le.sub0)
  refine swp_cd h (fun h => ?_) fun h => ?_
  refine srk tbok ⟨166, [(2, vb false)], []⟩ ?_
  refine swp_ret ?_
  obtain rfl := inj h
  exact q_rr (q_fr (f1 fv))
  refine swp_skip ?_
  obtain rfl := inj h
  exact q_l (Le.sub0)
  refine swp_skip ?_
  obtain rfl := inj h
  exact q_l (Le.sub0)
  refine swp_seq ?_
  refine srk tbok ⟨166, [(3, .own 3), (4, vs x2.2.1), (5, vl eSite x2.2.2.1), (6, vl eDescription x2.2.2.2), (7, .own 7), (148, vb (x3.2 != 0))], [(3, oa 87 4 eCandidate x2.1), (7, oa 9 1 eS x3.1)]⟩ ?_
  refine swp_cd h (fun h => ?_) fun h => ?_
  refine srk tbok ⟨166, [(2, vb true)], []⟩ ?_
  refine swp_ret ?_
  obtain rfl := inj h
  exact nx_r (q_fr (f1 fv))
  refine swp_skip ?_
  refine nx_n ?_
  refine sr ?_
  refine SRun.ck tbok 4 ⟨166, [(7, .own 7), (150, .own 3), (151, vs x2.2.1), (152, vl eSite x2.2.2.1), (153, vl eDescription x2.2.2.2)], [(3, oa 87 4 eCandidate x2.1), (7, oa 9 1 eS x3.1)]⟩ ?_
  obtain ⟨x18, hx18, h⟩ := bind_some h
  refine SRun.ls (xc ents36 (impl_AnswerFor_run x2.1 x2.2.1 (ByteArray.mk #[97]) x2.2.2.1 x2.2.2.2 _ hx18)) ?_
  refine ckn tbok 6 ⟨166, [(7, .own 7), (27, .ref 27 0), (28, vi x18.2)], [(7, oa 9 1 eS x3.1), (27, .box (tc eAnswer x18.1))]⟩ ?_
  refine swp_seq ?_
  refine swp_regP ⟨166, [(2, vb ((x18.2 == 0) && (x18.1.Satisfied == (x3.1.length : Int))))], []⟩ ?_ ?_
  refine SRun.ck tbok 3 ⟨166, [(7, .own 7), (27, .ref 27 0), (159, vb (x18.2 == 0))], [(7, oa 9 1 eS x3.1), (27, .box (tc eAnswer x18.1))]⟩ ?_
  generalize (x18.2 == 0) = bb
  cases bb
  refine SRun.ck tbok 7 ⟨166, [(2, vb false)], []⟩ ?_
  exact SRun.nil (Le.sub0)
  refine SRun.ck tbok 7 ⟨166, [(2, vb (x18.1.Satisfied == (x3.1.length : Int)))], []⟩ ?_
  exact SRun.nil (Le.sub0)
  refine swp_ret ?_
  obtain rfl := inj h
  exact q_fr (f1 fv)
end Go.Proofs.YtodgenjlhiiieaaGreatDoor.Sh
