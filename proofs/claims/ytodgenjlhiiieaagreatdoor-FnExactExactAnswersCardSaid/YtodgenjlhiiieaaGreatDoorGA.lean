/- Typed functions and the calls that do what they say. -/
import Derived.Test.YtodgenjlhiiieaaGreatDoorGAp1
import Derived.Test.YtodgenjlhiiieaaGreatDoorKA
import Derived.Test.YtodgenjlhiiieaaGreatDoorKC
import Derived.Test.YtodgenjlhiiieaaGreatDoorKF
import Derived.Test.YtodgenjlhiiieaaGreatDoorKS
import Derived.Test.YtodgenjlhiiieaaGreatDoorSN
import Derived.Test.YtodgenjlhiiieaaGreatDoorH1
namespace Go.Proofs.YtodgenjlhiiieaaGreatDoor.Sh
open Go.RowKit
set_option maxRecDepth 100000
set_option maxHeartbeats 4000000
noncomputable def slices_insertionSortCmpFunc_Answer_impl_question_answers_1 (aData : (List Answer)) (aA : Int) (aB : Int) : Option ((List Answer)) :=
  (forS aB (fun (i1 : Int) (s1 : (List Answer)) => (loop (fun (s5 : Int × (List Answer)) => (((bif (decide (s5.1 > aA)) then ((at' s5.2 s5.1).bind fun x7 => ((at' s5.2 (w64 (s5.1 - 1))).bind fun x8 => ((impl_question_answers_1 x7 x8).bind fun x9 => some (decide (x9 < 0))))) else some false)).bind fun (j10 : Bool) => (bif j10 then ((((at' s5.2 (w64 (s5.1 - 1))).bind fun x14 => ((at' s5.2 s5.1).bind fun x15 => ((at' s5.2 s5.1).bind fun _ => ((at' (List.set s5.2 (Int.toNat s5.1) x14) (w64 (s5.1 - 1))).bind fun _ => some (List.set (List.set s5.2 (Int.toNat s5.1) x14) (Int.toNat (w64 (s5.1 - 1))) x15)))))).bind fun (j12 : (List Answer)) => some (.inl ((w64 (s5.1 - 1)), j12))) else some (.inr s5.2)))) (i1, s1))) (fun (s1 : (List Answer)) => s1) (w64 (aA + 1)) aData)
theorem slices_insertionSortCmpFunc_Answer_impl_question_answers_1_run (aData : (List Answer)) (aA : Int) (aB : Int) (r : (List Answer)) (h : slices_insertionSortCmpFunc_Answer_impl_question_answers_1 aData aA aB = some r) : SCall Tryz.prog 186 [.o (oa 59 3 eAnswer aData), .v (vi aA), .v (vi aB), .v (.clo 126 [])] ⟨[], [(0, oa 59 3 eAnswer r)], false⟩ := by
  refine scall_in Tryz.func186 rfl [] rfl (fun r => ⟨[], [(0, oa 59 3 eAnswer r)], false⟩) (r := r) ?_
  unfold slices_insertionSortCmpFunc_Answer_impl_question_answers_1 at h
  refine srk tbok ⟨53, [(0, .own 1000000), (1, vi aA), (2, vi aB), (3, .clo 126 []), (8, vi (w64 (aA + 1)))], [(1000000, oa 59 3 eAnswer aData)]⟩ ?_
  refine swp_blk (a := r) ?_
  refine swp_lpL (r := r) (s := ((w64 (aA + 1)), aData)) _ (fun s1 => ⟨53, [(0, .own 1000000), (1, vi aA), (2, vi aB), (3, .clo 126 []), (8, vi s1.1)], [(1000000, oa 59 3 eAnswer s1.2)]⟩) _ (Le.sub0) h (fun s1 v2 h => ?_)
  refine swp_seq ?_
  refine srk tbok ⟨53, [(0, .own 1000000), (1, vi aA), (2, vi aB), (3, .clo 126 []), (8, vi s1.1), (14, vb (decide (s1.1 < aB)))], [(1000000, oa 59 3 eAnswer s1.2)]⟩ ?_
  refine swp_cd h (fun h => ?_) fun h => ?_
  refine swp_skip ?_
  refine nx_n ?_
  refine swp_seq ?_
  refine swp_seqJ h (fun j3 => ⟨53, [(0, .own 1000000), (1, vi aA), (2, vi aB), (3, .clo 126 []), (8, vi s1.1)], [(1000000, oa 59 3 eAnswer j3)]⟩) (fun v4 h => ?_) (fun j3 h => ?_)
  refine swp_blk (a := v4) ?_
  refine srk tbok ⟨53, [(0, .own 1000000), (1, vi aA), (2, vi aB), (3, .clo 126 []), (8, vi s1.1), (9, vi s1.1)], [(1000000, oa 59 3 eAnswer s1.2)]⟩ ?_
  refine swp_blk (a := v4) ?_
  refine swp_lpL (r := v4) (s := (s1.1, s1.2)) _ (fun s5 => ⟨53, [(0, .own 1000000), (1, vi aA), (2, vi aB), (3, .clo 126 []), (8, vi s1.1), (9, vi s5.1)], [(1000000, oa 59 3 eAnswer s5.2)]⟩) _ (Le.sub0) h (fun s5 v6 h => ?_)
  refine swp_seq ?_
  refine swp_seq ?_
  refine swp_drJ mixed h (fun j10 => ⟨53, [(0, .own 1000000), (1, vi aA), (2, vi aB), (3, .clo 126 []), (8, vi s1.1), (9, vi s5.1), (34, vb j10)], [(1000000, oa 59 3 eAnswer s5.2)]⟩) (fun v11 h => ?_) (fun j10 h => ?_)
  refine DGo.ck tbok false 4 ⟨53, [(0, .own 1000000), (1, vi aA), (2, vi aB), (3, .clo 126 []), (8, vi s1.1), (9, vi s5.1), (21, vb (decide (s5.1 > aA)))], [(1000000, oa 59 3 eAnswer s5.2)]⟩ ?_
  refine DGo.cu [(21, fun b => b)] h (fun h => ?_) fun h => ?_
  refine DGo.ck tbok false 3 ⟨53, [(0, .own 1000000), (1, vi aA), (2, vi aB), (3, .clo 126 []), (8, vi s1.1), (9, vi s5.1), (21, vb true), (22, .clo 126 []), (23, .own 1000000), (24, vi s5.1)], [(1000000, oa 59 3 eAnswer s5.2)]⟩ ?_
  obtain ⟨x7, hx7, h⟩ := bind_some h
  refine DGo.step (x_index_own (d := 1000000) (L := s5.2) (f := eAnswer) (ti := ti62) (tj := ti59) (e := 59) (e' := 59) (m := 3) (k := .i64) tbok rfl hx7) ?_
  refine DGo.step (x_load_own (d := 1000000) (m := 3) (j := 0) (L := s5.2) (f := eAnswer) (ti := ti59) (e := 59) (v := .agg (tc eAnswer x7)) tbok rfl hx7) ?_
  refine DGo.ck tbok false 3 ⟨53, [(0, .own 1000000), (1, vi aA), (2, vi aB), (3, .clo 126 []), (8, vi s1.1), (9, vi s5.1), (21, vb true), (22, .clo 126 []), (26, .agg (tc eAnswer x7)), (27, .own 1000000), (29, vi (w64 (s5.1 - 1)))], [(1000000, oa 59 3 eAnswer s5.2)]⟩ ?_
  obtain ⟨x8, hx8, h⟩ := bind_some h
  refine DGo.step (x_index_own (d := 1000000) (L := s5.2) (f := eAnswer) (ti := ti62) (tj := ti59) (e := 59) (e' := 59) (m := 3) (k := .i64) tbok rfl hx8) ?_
  refine DGo.step (x_load_own (d := 1000000) (m := 3) (j := 0) (L := s5.2) (f := eAnswer) (ti := ti59) (e := 59) (v := .agg (tc eAnswer x8)) tbok rfl hx8) ?_
  obtain ⟨x9, hx9, h⟩ := bind_some h
  refine DGo.step (xc ents126 (impl_question_answers_1_run x7 x8 _ hx9)) ?_
  refine DGo.ck tbok false 2 ⟨53, [(0, .own 1000000), (1, vi aA), (2, vi aB), (3, .clo 126 []), (8, vi s1.1), (9, vi s5.1), (34, vb (decide (x9 < 0)))], [(1000000, oa 59 3 eAnswer s5.2)]⟩ ?_
  refine DGo.nil (by kernel_rfl) ?_
  obtain rfl := inj h
  exact Le.sub0
  refine DGo.ck tbok false 13 ⟨53, [(0, .own 1000000), (1, vi aA), (2, vi aB), (3, .clo 126 []), (8, vi s1.1), (9, vi s5.1), (34, vb false)], [(1000000, oa 59 3 eAnswer s5.2)]⟩ ?_
  refine DGo.nil (by kernel_rfl) ?_
  obtain rfl := inj h
  exact Le.sub0
  refine swp_cd h (fun h => ?_) fun h => ?_
  refine swp_skip ?_
  refine nx_n ?_
  refine swp_seq ?_
  refine swp_seqJ h (fun j12 => ⟨53, [(0, .own 1000000), (1, vi aA), (2, vi aB), (3, .clo 126 []), (8, vi s1.1), (9, vi s5.1)], [(1000000, oa 59 3 eAnswer j12)]⟩) (fun v13 h => ?_) (fun j12 h => ?_)
  refine swp_blk (a := v13) ?_
  obtain ⟨x14, hx14, h⟩ := bind_some h
  obtain ⟨x15, hx15, h⟩ := bind_some h
  obtain ⟨x16, hx16, h⟩ := bind_some h
  obtain ⟨x17, hx17, h⟩ := bind_some h
  refine swp_dr mixed ?_
  refine DGo.enum (σE := ⟨53, [(0, .own 1000000), (1, vi aA), (2, vi aB), (3, .clo 126 []), (8, vi s1.1), (9, vi s5.1)], [(1000000, oa 59 3 eAnswer (List.set (List.set s5.2 (Int.toNat s5.1) x14) (Int.toNat (w64 (s5.1 - 1))) x15))]⟩) (n := 18) (L0 := #[false, false, false, false, false, false, false, false, false, false, false, false, false, false, false, false, false, false]) (by kernel_rfl) (by kernel_rfl) (fun K hk => ?_) ?_
  refine DE.share (fuel := 0) (L := #[true, true, true, true, true, true, true, true, true, true, true, true, true, true, true, true, true, true]) (σ := ⟨53, [(0, .own 1000000), (1, vi aA), (2, vi aB), (3, .clo 126 []), (8, vi s1.1), (9, vi s5.1)], [(1000000, oa 59 3 eAnswer (List.set (List.set s5.2 (Int.toNat s5.1) x14) (Int.toNat (w64 (s5.1 - 1))) x15))]⟩) ?_ (fun d37 => ?_)
  exact DE.done (by kernel_rfl) hk
  refine DE.share (fuel := 1) (L := #[true, true, true, true, true, true, true, true, true, true, true, true, true, true, true, true, true, false]) (σ := ⟨53, [(0, .own 1000000), (1, vi aA), (2, vi aB), (3, .clo 126 []), (8, vi s1.1), (9, vi s5.1), (50, .agg (tc eAnswer x15)), (52, .eref 1000000 3 (Int.toNat (w64 (s5.1 - 1))) 0)], [(1000000, oa 59 3 eAnswer (List.set s5.2 (Int.toNat s5.1) x14))]⟩) ?_ (fun d36 => ?_)
  exact DE.all [17] (by kernel_rfl) (by simp) (List.forall_mem_cons.2 ⟨DEs.mk (i := 17) (L' := #[true, true, true, true, true, true, true, true, true, true, true, true, true, true, true, true, true, true]) rfl (EStep.le (x_store_own (d := 1000000) (m := 3) (j := 0) (L := (List.set s5.2 (Int.toNat s5.1) x14)) (f := eAnswer) (x := x15) (z := x17) (ti := ti59) (e := 59) (ts := [.str x15.Code, .int .i64 x15.Distance, .int .i64 x15.Satisfied]) (vs := [vs x15.Code, vi x15.Distance, vi x15.Satisfied]) (v := .agg (tc eAnswer x15)) tbok rfl rfl hx17) Le.sub0) (by kernel_rfl) d37, (fun _ h => absurd h List.not_mem_nil)⟩)
  refine DE.share (fuel := 2) (L := #[true, true, true, true, true, true, true, true, true, true, true, true, true, true, true, true, false, false]) (σ := ⟨53, [(0, .own 1000000), (1, vi aA), (2, vi aB), (3, .clo 126 []), (8, vi s1.1), (9, vi s5.1), (39, .own 1000000), (41, vi (w64 (s5.1 - 1))), (50, .agg (tc eAnswer x15))], [(1000000, oa 59 3 eAnswer (List.set s5.2 (Int.toNat s5.1) x14))]⟩) ?_ (fun d35 => ?_)
  exact DE.all [16] (by kernel_rfl) (by simp) (List.forall_mem_cons.2 ⟨DEs.mk (i := 16) (L' := #[true, true, true, true, true, true, true, true, true, true, true, true, true, true, true, true, true, false]) rfl (EStep.le (EStep.ofL (x_index_own (d := 1000000) (L := (List.set s5.2 (Int.toNat s5.1) x14)) (f := eAnswer) (ti := ti62) (tj := ti59) (e := 59) (e' := 59) (m := 3) (k := .i64) tbok rfl hx17) (by kernel_rfl)) Le.sub0) (by kernel_rfl) d36, (fun _ h => absurd h List.not_mem_nil)⟩)
  refine DE.share (fuel := 3) (L := #[true, true, true, true, false, true, true, true, true, true, true, true, true, true, true, true, false, false]) (σ := ⟨53, [(0, .own 1000000), (1, vi aA), (2, vi aB), (3, .clo 126 []), (8, vi s1.1), (9, vi s5.1), (39, .own 1000000), (40, vi s5.1), (50, .agg (tc eAnswer x15))], [(1000000, oa 59 3 eAnswer (List.set s5.2 (Int.toNat s5.1) x14))]⟩) ?_ (fun d34 => ?_)
  exact DE.all [4] (by kernel_rfl) (by simp) (List.forall_mem_cons.2 ⟨DEs.mk (i := 4) (L' := #[true, true, true, true, true, true, true, true, true, true, true, true, true, true, true, true, false, false]) rfl (EStep.le (EStep.ofN2 tbok (σ' := ⟨53, [(41, vi (w64 (s5.1 - 1))), (0, .own 1000000), (1, vi aA), (2, vi aB), (3, .clo 126 []), (8, vi s1.1), (9, vi s5.1), (39, .own 1000000), (40, vi s5.1), (50, .agg (tc eAnswer x15))], [(1000000, oa 59 3 eAnswer (List.set s5.2 (Int.toNat s5.1) x14))]⟩) (by kernel_rfl)) Le.sub0) (by kernel_rfl) d35, (fun _ h => absurd h List.not_mem_nil)⟩)
  refine DE.share (fuel := 3) (L := #[true, true, true, true, true, true, true, true, true, true, true, true, true, true, true, false, false, false]) (σ := ⟨53, [(0, .own 1000000), (1, vi aA), (2, vi aB), (3, .clo 126 []), (8, vi s1.1), (9, vi s5.1), (39, .own 1000000), (41, vi (w64 (s5.1 - 1))), (46, .agg (tc eAnswer x14)), (50, .agg (tc eAnswer x15)), (51, .eref 1000000 3 (Int.toNat s5.1) 0)], [(1000000, oa 59 3 eAnswer s5.2)]⟩) ?_ (fun d33 => ?_)
  exact DE.all [15] (by kernel_rfl) (by simp) (List.forall_mem_cons.2 ⟨DEs.mk (i := 15) (L' := #[true, true, true, true, true, true, true, true, true, true, true, true, true, true, true, true, false, false]) rfl (EStep.le (x_store_own (d := 1000000) (m := 3) (j := 0) (L := s5.2) (f := eAnswer) (x := x14) (z := x16) (ti := ti59) (e := 59) (ts := [.str x14.Code, .int .i64 x14.Distance, .int .i64 x14.Satisfied]) (vs := [vs x14.Code, vi x14.Distance, vi x14.Satisfied]) (v := .agg (tc eAnswer x14)) tbok rfl rfl hx16) Le.sub0) (by kernel_rfl) d35, (fun _ h => absurd h List.not_mem_nil)⟩)
  refine DE.share (fuel := 4) (L := #[true, true, true, true, false, true, true, true, true, true, true, true, true, true, true, false, false, false]) (σ := ⟨53, [(0, .own 1000000), (1, vi aA), (2, vi aB), (3, .clo 126 []), (8, vi s1.1), (9, vi s5.1), (39, .own 1000000), (40, vi s5.1), (46, .agg (tc eAnswer x14)), (50, .agg (tc eAnswer x15)), (51, .eref 1000000 3 (Int.toNat s5.1) 0)], [(1000000, oa 59 3 eAnswer s5.2)]⟩) ?_ (fun d32 => ?_)
  exact DE.all [4, 15] (by kernel_rfl) (by simp) (List.forall_mem_cons.2 ⟨DEs.mk (i := 4) (L' := #[true, true, true, true, true, true, true, true, true, true, true, true, true, true, true, false, false, false]) rfl (EStep.le (EStep.ofN2 tbok (σ' := ⟨53, [(41, vi (w64 (s5.1 - 1))), (0, .own 1000000), (1, vi aA), (2, vi aB), (3, .clo 126 []), (8, vi s1.1), (9, vi s5.1), (39, .own 1000000), (40, vi s5.1), (46, .agg (tc eAnswer x14)), (50, .agg (tc eAnswer x15)), (51, .eref 1000000 3 (Int.toNat s5.1) 0)], [(1000000, oa 59 3 eAnswer s5.2)]⟩) (by kernel_rfl)) Le.sub0) (by kernel_rfl) d33, (List.forall_mem_cons.2 ⟨DEs.mk (i := 15) (L' := #[true, true, true, true, false, true, true, true, true, true, true, true, true, true, true, true, false, false]) rfl (EStep.le (x_store_own (d := 1000000) (m := 3) (j := 0) (L := s5.2) (f := eAnswer) (x := x14) (z := x16) (ti := ti59) (e := 59) (ts := [.str x14.Code, .int .i64 x14.Distance, .int .i64 x14.Satisfied]) (vs := [vs x14.Code, vi x14.Distance, vi x14.Satisfied]) (v := .agg (tc eAnswer x14)) tbok rfl rfl hx16) Le.sub0) (by kernel_rfl) d34, (fun _ h => absurd h List.not_mem_nil)⟩)⟩)
  refine DE.share (fuel := 4) (L := #[true, true, true, true, true, true, true, true, true, true, true, true, true, true, false, false, false, false]) (σ := ⟨53, [(0, .own 1000000), (1, vi aA), (2, vi aB), (3, .clo 126 []), (8, vi s1.1), (9, vi s5.1), (37, .own 1000000), (38, vi s5.1), (39, .own 1000000), (41, vi (w64 (s5.1 - 1))), (46, .agg (tc eAnswer x14)), (50, .agg (tc eAnswer x15))], [(1000000, oa 59 3 eAnswer s5.2)]⟩) ?_ (fun d31 => ?_)
  exact DE.all [14] (by kernel_rfl) (by simp) (List.forall_mem_cons.2 ⟨DEs.mk (i := 14) (L' := #[true, true, true, true, true, true, true, true, true, true, true, true, true, true, true, false, false, false]) rfl (EStep.le (EStep.ofL (x_index_own (d := 1000000) (L := s5.2) (f := eAnswer) (ti := ti62) (tj := ti59) (e := 59) (e' := 59) (m := 3) (k := .i64) tbok rfl hx16) (by kernel_rfl)) Le.sub0) (by kernel_rfl) d33, (fun _ h => absurd h List.not_mem_nil)⟩)
  refine DE.share (fuel := 5) (L := #[true, true, true, true, false, true, true, true, true, true, true, true, true, true, false, false, false, false]) (σ := ⟨53, [(0, .own 1000000), (1, vi aA), (2, vi aB), (3, .clo 126 []), (8, vi s1.1), (9, vi s5.1), (37, .own 1000000), (38, vi s5.1), (39, .own 1000000), (40, vi s5.1), (46, .agg (tc eAnswer x14)), (50, .agg (tc eAnswer x15))], [(1000000, oa 59 3 eAnswer s5.2)]⟩) ?_ (fun d30 => ?_)
  exact DE.all [4, 14] (by kernel_rfl) (by simp) (List.forall_mem_cons.2 ⟨DEs.mk (i := 4) (L' := #[true, true, true, true, true, true, true, true, true, true, true, true, true, true, false, false, false, false]) rfl (EStep.le (EStep.ofN2 tbok (σ' := ⟨53, [(41, vi (w64 (s5.1 - 1))), (0, .own 1000000), (1, vi aA), (2, vi aB), (3, .clo 126 []), (8, vi s1.1), (9, vi s5.1), (37, .own 1000000), (38, vi s5.1), (39, .own 1000000), (40, vi s5.1), (46, .agg (tc eAnswer x14)), (50, .agg (tc eAnswer x15))], [(1000000, oa 59 3 eAnswer s5.2)]⟩) (by kernel_rfl)) Le.sub0) (by kernel_rfl) d31, (List.forall_mem_cons.2 ⟨DEs.mk (i := 14) (L' := #[true, true, true, true, false, true, true, true, true, true, true, true, true, true, true, false, false, false]) rfl (EStep.le (EStep.ofL (x_index_own (d := 1000000) (L := s5.2) (f := eAnswer) (ti := ti62) (tj := ti59) (e := 59) (e' := 59) (m := 3) (k := .i64) tbok rfl hx16) (by kernel_rfl)) Le.sub0) (by kernel_rfl) d32, (fun _ h => absurd h List.not_mem_nil)⟩)⟩)
  refine DE.share (fuel := 5) (L := #[true, true, true, true, true, true, true, true, true, false, true, true, true, true, false, false, false, false]) (σ := ⟨53, [(0, .own 1000000), (1, vi aA), (2, vi aB), (3, .clo 126 []), (8, vi s1.1), (9, vi s5.1), (37, .own 1000000), (38, vi s5.1), (39, .own 1000000), (41, vi (w64 (s5.1 - 1))), (45, .eref 1000000 3 (Int.toNat (w64 (s5.1 - 1))) 0), (50, .agg (tc eAnswer x15))], [(1000000, oa 59 3 eAnswer s5.2)]⟩) ?_ (fun d29 => ?_)
  exact DE.all [9] (by kernel_rfl) (by simp) (List.forall_mem_cons.2 ⟨DEs.mk (i := 9) (L' := #[true, true, true, true, true, true, true, true, true, true, true, true, true, true, false, false, false, false]) rfl (EStep.le (EStep.ofL (x_load_own (d := 1000000) (m := 3) (j := 0) (L := s5.2) (f := eAnswer) (ti := ti59) (e := 59) (v := .agg (tc eAnswer x14)) tbok rfl hx14) (by kernel_rfl)) Le.sub0) (by kernel_rfl) d31, (fun _ h => absurd h List.not_mem_nil)⟩)
  refine DE.share (fuel := 5) (L := #[true, true, true, true, true, true, true, true, true, true, true, true, true, false, false, false, false, false]) (σ := ⟨53, [(0, .own 1000000), (1, vi aA), (2, vi aB), (3, .clo 126 []), (8, vi s1.1), (9, vi s5.1), (37, .own 1000000), (38, vi s5.1), (39, .own 1000000), (41, vi (w64 (s5.1 - 1))), (46, .agg (tc eAnswer x14)), (49, .eref 1000000 3 (Int.toNat s5.1) 0)], [(1000000, oa 59 3 eAnswer s5.2)]⟩) ?_ (fun d28 => ?_)
  exact DE.all [13] (by kernel_rfl) (by simp) (List.forall_mem_cons.2 ⟨DEs.mk (i := 13) (L' := #[true, true, true, true, true, true, true, true, true, true, true, true, true, true, false, false, false, false]) rfl (EStep.le (EStep.ofL (x_load_own (d := 1000000) (m := 3) (j := 0) (L := s5.2) (f := eAnswer) (ti := ti59) (e := 59) (v := .agg (tc eAnswer x15)) tbok rfl hx15) (by kernel_rfl)) Le.sub0) (by kernel_rfl) d31, (fun _ h => absurd h List.not_mem_nil)⟩)
  refine DE.share (fuel := 6) (L := #[true, true, true, true, false, true, true, true, true, false, true, true, true, true, false, false, false, false]) (σ := ⟨53, [(0, .own 1000000), (1, vi aA), (2, vi aB), (3, .clo 126 []), (8, vi s1.1), (9, vi s5.1), (37, .own 1000000), (38, vi s5.1), (39, .own 1000000), (40, vi s5.1), (45, .eref 1000000 3 (Int.toNat (w64 (s5.1 - 1))) 0), (50, .agg (tc eAnswer x15))], [(1000000, oa 59 3 eAnswer s5.2)]⟩) ?_ (fun d27 => ?_)
  exact DE.all [4, 9] (by kernel_rfl) (by simp) (List.forall_mem_cons.2 ⟨DEs.mk (i := 4) (L' := #[true, true, true, true, true, true, true, true, true, false, true, true, true, true, false, false, false, false]) rfl (EStep.le (EStep.ofN2 tbok (σ' := ⟨53, [(41, vi (w64 (s5.1 - 1))), (0, .own 1000000), (1, vi aA), (2, vi aB), (3, .clo 126 []), (8, vi s1.1), (9, vi s5.1), (37, .own 1000000), (38, vi s5.1), (39, .own 1000000), (40, vi s5.1), (45, .eref 1000000 3 (Int.toNat (w64 (s5.1 - 1))) 0), (50, .agg (tc eAnswer x15))], [(1000000, oa 59 3 eAnswer s5.2)]⟩) (by kernel_rfl)) Le.sub0) (by kernel_rfl) d29, (List.forall_mem_cons.2 ⟨DEs.mk (i := 9) (L' := #[true, true, true, true, false, true, true, true, true, true, true, true, true, true, false, false, false, false]) rfl (EStep.le (EStep.ofL (x_load_own (d := 1000000) (m := 3) (j := 0) (L := s5.2) (f := eAnswer) (ti := ti59) (e := 59) (v := .agg (tc eAnswer x14)) tbok rfl hx14) (by kernel_rfl)) Le.sub0) (by kernel_rfl) d30, (fun _ h => absurd h List.not_mem_nil)⟩)⟩)
  refine DE.share (fuel := 6) (L := #[true, true, true, true, false, true, true, true, true, true, true, true, true, false, false, false, false, false]) (σ := ⟨53, [(0, .own 1000000), (1, vi aA), (2, vi aB), (3, .clo 126 []), (8, vi s1.1), (9, vi s5.1), (37, .own 1000000), (38, vi s5.1), (39, .own 1000000), (40, vi s5.1), (46, .agg (tc eAnswer x14)), (49, .eref 1000000 3 (Int.toNat s5.1) 0)], [(1000000, oa 59 3 eAnswer s5.2)]⟩) ?_ (fun d26 => ?_)
  exact DE.all [4, 13] (by kernel_rfl) (by simp) (List.forall_mem_cons.2 ⟨DEs.mk (i := 4) (L' := #[true, true, true, true, true, true, true, true, true, true, true, true, true, false, false, false, false, false]) rfl (EStep.le (EStep.ofN2 tbok (σ' := ⟨53, [(41, vi (w64 (s5.1 - 1))), (0, .own 1000000), (1, vi aA), (2, vi aB), (3, .clo 126 []), (8, vi s1.1), (9, vi s5.1), (37, .own 1000000), (38, vi s5.1), (39, .own 1000000), (40, vi s5.1), (46, .agg (tc eAnswer x14)), (49, .eref 1000000 3 (Int.toNat s5.1) 0)], [(1000000, oa 59 3 eAnswer s5.2)]⟩) (by kernel_rfl)) Le.sub0) (by kernel_rfl) d28, (List.forall_mem_cons.2 ⟨DEs.mk (i := 13) (L' := #[true, true, true, true, false, true, true, true, true, true, true, true, true, true, false, false, false, false]) rfl (EStep.le (EStep.ofL (x_load_own (d := 1000000) (m := 3) (j := 0) (L := s5.2) (f := eAnswer) (ti := ti59) (e := 59) (v := .agg (tc eAnswer x15)) tbok rfl hx15) (by kernel_rfl)) Le.sub0) (by kernel_rfl) d30, (fun _ h => absurd h List.not_mem_nil)⟩)⟩)
  refine DE.share (fuel := 6) (L := #[true, true, true, true, true, true, true, true, false, false, true, true, true, true, false, false, false, false]) (σ := ⟨53, [(0, .own 1000000), (1, vi aA), (2, vi aB), (3, .clo 126 []), (8, vi s1.1), (9, vi s5.1), (37, .own 1000000), (38, vi s5.1), (39, .own 1000000), (41, vi (w64 (s5.1 - 1))), (42, .own 1000000), (44, vi (w64 (s5.1 - 1))), (50, .agg (tc eAnswer x15))], [(1000000, oa 59 3 eAnswer s5.2)]⟩) ?_ (fun d25 => ?_)
  exact DE.all [8] (by kernel_rfl) (by simp) (List.forall_mem_cons.2 ⟨DEs.mk (i := 8) (L' := #[true, true, true, true, true, true, true, true, true, false, true, true, true, true, false, false, false, false]) rfl (EStep.le (EStep.ofL (x_index_own (d := 1000000) (L := s5.2) (f := eAnswer) (ti := ti62) (tj := ti59) (e := 59) (e' := 59) (m := 3) (k := .i64) tbok rfl hx14) (by kernel_rfl)) Le.sub0) (by kernel_rfl) d29, (fun _ h => absurd h List.not_mem_nil)⟩)
  refine DE.share (fuel := 6) (L := #[true, true, true, true, true, true, true, true, true, false, true, true, true, false, false, false, false, false]) (σ := ⟨53, [(0, .own 1000000), (1, vi aA), (2, vi aB), (3, .clo 126 []), (8, vi s1.1), (9, vi s5.1), (37, .own 1000000), (38, vi s5.1), (39, .own 1000000), (41, vi (w64 (s5.1 - 1))), (45, .eref 1000000 3 (Int.toNat (w64 (s5.1 - 1))) 0), (49, .eref 1000000 3 (Int.toNat s5.1) 0)], [(1000000, oa 59 3 eAnswer s5.2)]⟩) ?_ (fun d24 => ?_)
  exact DE.all [9, 13] (by kernel_rfl) (by simp) (List.forall_mem_cons.2 ⟨DEs.mk (i := 9) (L' := #[true, true, true, true, true, true, true, true, true, true, true, true, true, false, false, false, false, false]) rfl (EStep.le (EStep.ofL (x_load_own (d := 1000000) (m := 3) (j := 0) (L := s5.2) (f := eAnswer) (ti := ti59) (e := 59) (v := .agg (tc eAnswer x14)) tbok rfl hx14) (by kernel_rfl)) Le.sub0) (by kernel_rfl) d28, (List.forall_mem_cons.2 ⟨DEs.mk (i := 13) (L' := #[true, true, true, true, true, true, true, true, true, false, true, true, true, true, false, false, false, false]) rfl (EStep.le (EStep.ofL (x_load_own (d := 1000000) (m := 3) (j := 0) (L := s5.2) (f := eAnswer) (ti := ti59) (e := 59) (v := .agg (tc eAnswer x15)) tbok rfl hx15) (by kernel_rfl)) Le.sub0) (by kernel_rfl) d29, (fun _ h => absurd h List.not_mem_nil)⟩)⟩)
  refine DE.share (fuel := 6) (L := #[true, true, true, true, true, true, true, true, true, true, true, true, false, false, false, false, false, false]) (σ := ⟨53, [(0, .own 1000000), (1, vi aA), (2, vi aB), (3, .clo 126 []), (8, vi s1.1), (9, vi s5.1), (37, .own 1000000), (38, vi s5.1), (39, .own 1000000), (41, vi (w64 (s5.1 - 1))), (46, .agg (tc eAnswer x14)), (47, .own 1000000), (48, vi s5.1)], [(1000000, oa 59 3 eAnswer s5.2)]⟩) ?_ (fun d23 => ?_)
  exact DE.all [12] (by kernel_rfl) (by simp) (List.forall_mem_cons.2 ⟨DEs.mk (i := 12) (L' := #[true, true, true, true, true, true, true, true, true, true, true, true, true, false, false, false, false, false]) rfl (EStep.le (EStep.ofL (x_index_own (d := 1000000) (L := s5.2) (f := eAnswer) (ti := ti62) (tj := ti59) (e := 59) (e' := 59) (m := 3) (k := .i64) tbok rfl hx15) (by kernel_rfl)) Le.sub0) (by kernel_rfl) d28, (fun _ h => absurd h List.not_mem_nil)⟩)
  refine DE.share (fuel := 7) (L := #[true, true, true, true, false, true, true, true, false, false, true, true, true, true, false, false, false, false]) (σ := ⟨53, [(0, .own 1000000), (1, vi aA), (2, vi aB), (3, .clo 126 []), (8, vi s1.1), (9, vi s5.1), (37, .own 1000000), (38, vi s5.1), (39, .own 1000000), (40, vi s5.1), (42, .own 1000000), (44, vi (w64 (s5.1 - 1))), (50, .agg (tc eAnswer x15))], [(1000000, oa 59 3 eAnswer s5.2)]⟩) ?_ (fun d22 => ?_)
  exact DE.all [4, 8] (by kernel_rfl) (by simp) (List.forall_mem_cons.2 ⟨DEs.mk (i := 4) (L' := #[true, true, true, true, true, true, true, true, false, false, true, true, true, true, false, false, false, false]) rfl (EStep.le (EStep.ofN2 tbok (σ' := ⟨53, [(41, vi (w64 (s5.1 - 1))), (0, .own 1000000), (1, vi aA), (2, vi aB), (3, .clo 126 []), (8, vi s1.1), (9, vi s5.1), (37, .own 1000000), (38, vi s5.1), (39, .own 1000000), (40, vi s5.1), (42, .own 1000000), (44, vi (w64 (s5.1 - 1))), (50, .agg (tc eAnswer x15))], [(1000000, oa 59 3 eAnswer s5.2)]⟩) (by kernel_rfl)) Le.sub0) (by kernel_rfl) d25, (List.forall_mem_cons.2 ⟨DEs.mk (i := 8) (L' := #[true, true, true, true, false, true, true, true, true, false, true, true, true, true, false, false, false, false]) rfl (EStep.le (EStep.ofL (x_index_own (d := 1000000) (L := s5.2) (f := eAnswer) (ti := ti62) (tj := ti59) (e := 59) (e' := 59) (m := 3) (k := .i64) tbok rfl hx14) (by kernel_rfl)) Le.sub0) (by kernel_rfl) d27, (fun _ h => absurd h List.not_mem_nil)⟩)⟩)
  refine DE.share (fuel := 7) (L := #[true, true, true, true, false, true, true, true, true, false, true, true, true, false, false, false, false, false]) (σ := ⟨53, [(0, .own 1000000), (1, vi aA), (2, vi aB), (3, .clo 126 []), (8, vi s1.1), (9, vi s5.1), (37, .own 1000000), (38, vi s5.1), (39, .own 1000000), (40, vi s5.1), (45, .eref 1000000 3 (Int.toNat (w64 (s5.1 - 1))) 0), (49, .eref 1000000 3 (Int.toNat s5.1) 0)], [(1000000, oa 59 3 eAnswer s5.2)]⟩) ?_ (fun d21 => ?_)
  exact DE.all [4, 9, 13] (by kernel_rfl) (by simp) (List.forall_mem_cons.2 ⟨DEs.mk (i := 4) (L' := #[true, true, true, true, true, true, true, true, true, false, true, true, true, false, false, false, false, false]) rfl (EStep.le (EStep.ofN2 tbok (σ' := ⟨53, [(41, vi (w64 (s5.1 - 1))), (0, .own 1000000), (1, vi aA), (2, vi aB), (3, .clo 126 []), (8, vi s1.1), (9, vi s5.1), (37, .own 1000000), (38, vi s5.1), (39, .own 1000000), (40, vi s5.1), (45, .eref 1000000 3 (Int.toNat (w64 (s5.1 - 1))) 0), (49, .eref 1000000 3 (Int.toNat s5.1) 0)], [(1000000, oa 59 3 eAnswer s5.2)]⟩) (by kernel_rfl)) Le.sub0) (by kernel_rfl) d24, (List.forall_mem_cons.2 ⟨DEs.mk (i := 9) (L' := #[true, true, true, true, false, true, true, true, true, true, true, true, true, false, false, false, false, false]) rfl (EStep.le (EStep.ofL (x_load_own (d := 1000000) (m := 3) (j := 0) (L := s5.2) (f := eAnswer) (ti := ti59) (e := 59) (v := .agg (tc eAnswer x14)) tbok rfl hx14) (by kernel_rfl)) Le.sub0) (by kernel_rfl) d26, (List.forall_mem_cons.2 ⟨DEs.mk (i := 13) (L' := #[true, true, true, true, false, true, true, true, true, false, true, true, true, true, false, false, false, false]) rfl (EStep.le (EStep.ofL (x_load_own (d := 1000000) (m := 3) (j := 0) (L := s5.2) (f := eAnswer) (ti := ti59) (e := 59) (v := .agg (tc eAnswer x15)) tbok rfl hx15) (by kernel_rfl)) Le.sub0) (by kernel_rfl) d27, (fun _ h => absurd h List.not_mem_nil)⟩)⟩)⟩)
  refine DE.share (fuel := 7) (L := #[true, true, true, true, false, true, true, true, true, true, true, true, false, false, false, false, false, false]) (σ := ⟨53, [(0, .own 1000000), (1, vi aA), (2, vi aB), (3, .clo 126 []), (8, vi s1.1), (9, vi s5.1), (37, .own 1000000), (38, vi s5.1), (39, .own 1000000), (40, vi s5.1), (46, .agg (tc eAnswer x14)), (47, .own 1000000), (48, vi s5.1)], [(1000000, oa 59 3 eAnswer s5.2)]⟩) ?_ (fun d20 => ?_)
  exact DE.all [4, 12] (by kernel_rfl) (by simp) (List.forall_mem_cons.2 ⟨DEs.mk (i := 4) (L' := #[true, true, true, true, true, true, true, true, true, true, true, true, false, false, false, false, false, false]) rfl (EStep.le (EStep.ofN2 tbok (σ' := ⟨53, [(41, vi (w64 (s5.1 - 1))), (0, .own 1000000), (1, vi aA), (2, vi aB), (3, .clo 126 []), (8, vi s1.1), (9, vi s5.1), (37, .own 1000000), (38, vi s5.1), (39, .own 1000000), (40, vi s5.1), (46, .agg (tc eAnswer x14)), (47, .own 1000000), (48, vi s5.1)], [(1000000, oa 59 3 eAnswer s5.2)]⟩) (by kernel_rfl)) Le.sub0) (by kernel_rfl) d23, (List.forall_mem_cons.2 ⟨DEs.mk (i := 12) (L' := #[true, true, true, true, false, true, true, true, true, true, true, true, true, false, false, false, false, false]) rfl (EStep.le (EStep.ofL (x_index_own (d := 1000000) (L := s5.2) (f := eAnswer) (ti := ti62) (tj := ti59) (e := 59) (e' := 59) (m := 3) (k := .i64) tbok rfl hx15) (by kernel_rfl)) Le.sub0) (by kernel_rfl) d26, (fun _ h => absurd h List.not_mem_nil)⟩)⟩)
  refine DE.share (fuel := 7) (L := #[true, true, true, true, true, true, true, false, false, false, true, true, true, true, false, false, false, false]) (σ := ⟨53, [(0, .own 1000000), (1, vi aA), (2, vi aB), (3, .clo 126 []), (8, vi s1.1), (9, vi s5.1), (37, .own 1000000), (38, vi s5.1), (39, .own 1000000), (41, vi (w64 (s5.1 - 1))), (42, .own 1000000), (43, vi s5.1), (50, .agg (tc eAnswer x15))], [(1000000, oa 59 3 eAnswer s5.2)]⟩) ?_ (fun d19 => ?_)
  exact DE.all [7] (by kernel_rfl) (by simp) (List.forall_mem_cons.2 ⟨DEs.mk (i := 7) (L' := #[true, true, true, true, true, true, true, true, false, false, true, true, true, true, false, false, false, false]) rfl (EStep.le (EStep.ofN2 tbok (σ' := ⟨53, [(44, vi (w64 (s5.1 - 1))), (0, .own 1000000), (1, vi aA), (2, vi aB), (3, .clo 126 []), (8, vi s1.1), (9, vi s5.1), (37, .own 1000000), (38, vi s5.1), (39, .own 1000000), (41, vi (w64 (s5.1 - 1))), (42, .own 1000000), (43, vi s5.1), (50, .agg (tc eAnswer x15))], [(1000000, oa 59 3 eAnswer s5.2)]⟩) (by kernel_rfl)) Le.sub0) (by kernel_rfl) d25, (fun _ h => absurd h List.not_mem_nil)⟩)
  refine DE.share (fuel := 7) (L := #[true, true, true, true, true, true, true, true, false, false, true, true, true, false, false, false, false, false]) (σ := ⟨53, [(0, .own 1000000), (1, vi aA), (2, vi aB), (3, .clo 126 []), (8, vi s1.1), (9, vi s5.1), (37, .own 1000000), (38, vi s5.1), (39, .own 1000000), (41, vi (w64 (s5.1 - 1))), (42, .own 1000000), (44, vi (w64 (s5.1 - 1))), (49, .eref 1000000 3 (Int.toNat s5.1) 0)], [(1000000, oa 59 3 eAnswer s5.2)]⟩) ?_ (fun d18 => ?_)
  exact DE.all [8, 13] (by kernel_rfl) (by simp) (List.forall_mem_cons.2 ⟨DEs.mk (i := 8) (L' := #[true, true, true, true, true, true, true, true, true, false, true, true, true, false, false, false, false, false]) rfl (EStep.le (EStep.ofL (x_index_own (d := 1000000) (L := s5.2) (f := eAnswer) (ti := ti62) (tj := ti59) (e := 59) (e' := 59) (m := 3) (k := .i64) tbok rfl hx14) (by kernel_rfl)) Le.sub0) (by kernel_rfl) d24, (List.forall_mem_cons.2 ⟨DEs.mk (i := 13) (L' := #[true, true, true, true, true, true, true, true, false, false, true, true, true, true, false, false, false, false]) rfl (EStep.le (EStep.ofL (x_load_own (d := 1000000) (m := 3) (j := 0) (L := s5.2) (f := eAnswer) (ti := ti59) (e := 59) (v := .agg (tc eAnswer x15)) tbok rfl hx15) (by kernel_rfl)) Le.sub0) (by kernel_rfl) d25, (fun _ h => absurd h List.not_mem_nil)⟩)⟩)
  refine DE.share (fuel := 7) (L := #[true, true, true, true, true, true, true, true, true, false, true, true, false, false, false, false, false, false]) (σ := ⟨53, [(0, .own 1000000), (1, vi aA), (2, vi aB), (3, .clo 126 []), (8, vi s1.1), (9, vi s5.1), (37, .own 1000000), (38, vi s5.1), (39, .own 1000000), (41, vi (w64 (s5.1 - 1))), (45, .eref 1000000 3 (Int.toNat (w64 (s5.1 - 1))) 0), (47, .own 1000000), (48, vi s5.1)], [(1000000, oa 59 3 eAnswer s5.2)]⟩) ?_ (fun d17 => ?_)
  exact DE.all [9, 12] (by kernel_rfl) (by simp) (List.forall_mem_cons.2 ⟨DEs.mk (i := 9) (L' := #[true, true, true, true, true, true, true, true, true, true, true, true, false, false, false, false, false, false]) rfl (EStep.le (EStep.ofL (x_load_own (d := 1000000) (m := 3) (j := 0) (L := s5.2) (f := eAnswer) (ti := ti59) (e := 59) (v := .agg (tc eAnswer x14)) tbok rfl hx14) (by kernel_rfl)) Le.sub0) (by kernel_rfl) d23, (List.forall_mem_cons.2 ⟨DEs.mk (i := 12) (L' := #[true, true, true, true, true, true, true, true, true, false, true, true, true, false, false, false, false, false]) rfl (EStep.le (EStep.ofL (x_index_own (d := 1000000) (L := s5.2) (f := eAnswer) (ti := ti62) (tj := ti59) (e := 59) (e' := 59) (m := 3) (k := .i64) tbok rfl hx15) (by kernel_rfl)) Le.sub0) (by kernel_rfl) d24, (fun _ h => absurd h List.not_mem_nil)⟩)⟩)
  refine DE.share (fuel := 8) (L := #[true, true, true, true, false, true, true, false, false, false, true, true, true, true, false, false, false, false]) (σ := ⟨53, [(0, .own 1000000), (1, vi aA), (2, vi aB), (3, .clo 126 []), (8, vi s1.1), (9, vi s5.1), (37, .own 1000000), (38, vi s5.1), (39, .own 1000000), (40, vi s5.1), (42, .own 1000000), (43, vi s5.1), (50, .agg (tc eAnswer x15))], [(1000000, oa 59 3 eAnswer s5.2)]⟩) ?_ (fun d16 => ?_)
  exact DE.all [4, 7] (by kernel_rfl) (by simp) (List.forall_mem_cons.2 ⟨DEs.mk (i := 4) (L' := #[true, true, true, true, true, true, true, false, false, false, true, true, true, true, false, false, false, false]) rfl (EStep.le (EStep.ofN2 tbok (σ' := ⟨53, [(41, vi (w64 (s5.1 - 1))), (0, .own 1000000), (1, vi aA), (2, vi aB), (3, .clo 126 []), (8, vi s1.1), (9, vi s5.1), (37, .own 1000000), (38, vi s5.1), (39, .own 1000000), (40, vi s5.1), (42, .own 1000000), (43, vi s5.1), (50, .agg (tc eAnswer x15))], [(1000000, oa 59 3 eAnswer s5.2)]⟩) (by kernel_rfl)) Le.sub0) (by kernel_rfl) d19, (List.forall_mem_cons.2 ⟨DEs.mk (i := 7) (L' := #[true, true, true, true, false, true, true, true, false, false, true, true, true, true, false, false, false, false]) rfl (EStep.le (EStep.ofN2 tbok (σ' := ⟨53, [(44, vi (w64 (s5.1 - 1))), (0, .own 1000000), (1, vi aA), (2, vi aB), (3, .clo 126 []), (8, vi s1.1), (9, vi s5.1), (37, .own 1000000), (38, vi s5.1), (39, .own 1000000), (40, vi s5.1), (42, .own 1000000), (43, vi s5.1), (50, .agg (tc eAnswer x15))], [(1000000, oa 59 3 eAnswer s5.2)]⟩) (by kernel_rfl)) Le.sub0) (by kernel_rfl) d22, (fun _ h => absurd h List.not_mem_nil)⟩)⟩)
  refine DE.share (fuel := 8) (L := #[true, true, true, true, false, true, true, true, false, false, true, true, true, false, false, false, false, false]) (σ := ⟨53, [(0, .own 1000000), (1, vi aA), (2, vi aB), (3, .clo 126 []), (8, vi s1.1), (9, vi s5.1), (37, .own 1000000), (38, vi s5.1), (39, .own 1000000), (40, vi s5.1), (42, .own 1000000), (44, vi (w64 (s5.1 - 1))), (49, .eref 1000000 3 (Int.toNat s5.1) 0)], [(1000000, oa 59 3 eAnswer s5.2)]⟩) ?_ (fun d15 => ?_)
  exact DE.all [4, 8, 13] (by kernel_rfl) (by simp) (List.forall_mem_cons.2 ⟨DEs.mk (i := 4) (L' := #[true, true, true, true, true, true, true, true, false, false, true, true, true, false, false, false, false, false]) rfl (EStep.le (EStep.ofN2 tbok (σ' := ⟨53, [(41, vi (w64 (s5.1 - 1))), (0, .own 1000000), (1, vi aA), (2, vi aB), (3, .clo 126 []), (8, vi s1.1), (9, vi s5.1), (37, .own 1000000), (38, vi s5.1), (39, .own 1000000), (40, vi s5.1), (42, .own 1000000), (44, vi (w64 (s5.1 - 1))), (49, .eref 1000000 3 (Int.toNat s5.1) 0)], [(1000000, oa 59 3 eAnswer s5.2)]⟩) (by kernel_rfl)) Le.sub0) (by kernel_rfl) d18, (List.forall_mem_cons.2 ⟨DEs.mk (i := 8) (L' := #[true, true, true, true, false, true, true, true, true, false, true, true, true, false, false, false, false, false]) rfl (EStep.le (EStep.ofL (x_index_own (d := 1000000) (L := s5.2) (f := eAnswer) (ti := ti62) (tj := ti59) (e := 59) (e' := 59) (m := 3) (k := .i64) tbok rfl hx14) (by kernel_rfl)) Le.sub0) (by kernel_rfl) d21, (List.forall_mem_cons.2 ⟨DEs.mk (i := 13) (L' := #[true, true, true, true, false, true, true, true, false, false, true, true, true, true, false, false, false, false]) rfl (EStep.le (EStep.ofL (x_load_own (d := 1000000) (m := 3) (j := 0) (L := s5.2) (f := eAnswer) (ti := ti59) (e := 59) (v := .agg (tc eAnswer x15)) tbok rfl hx15) (by kernel_rfl)) Le.sub0) (by kernel_rfl) d22, (fun _ h => absurd h List.not_mem_nil)⟩)⟩)⟩)
  refine DE.share (fuel := 8) (L := #[true, true, true, true, false, true, true, true, true, false, true, true, false, false, false, false, false, false]) (σ := ⟨53, [(0, .own 1000000), (1, vi aA), (2, vi aB), (3, .clo 126 []), (8, vi s1.1), (9, vi s5.1), (37, .own 1000000), (38, vi s5.1), (39, .own 1000000), (40, vi s5.1), (45, .eref 1000000 3 (Int.toNat (w64 (s5.1 - 1))) 0), (47, .own 1000000), (48, vi s5.1)], [(1000000, oa 59 3 eAnswer s5.2)]⟩) ?_ (fun d14 => ?_)
  exact DE.all [4, 9, 12] (by kernel_rfl) (by simp) (List.forall_mem_cons.2 ⟨DEs.mk (i := 4) (L' := #[true, true, true, true, true, true, true, true, true, false, true, true, false, false, false, false, false, false]) rfl (EStep.le (EStep.ofN2 tbok (σ' := ⟨53, [(41, vi (w64 (s5.1 - 1))), (0, .own 1000000), (1, vi aA), (2, vi aB), (3, .clo 126 []), (8, vi s1.1), (9, vi s5.1), (37, .own 1000000), (38, vi s5.1), (39, .own 1000000), (40, vi s5.1), (45, .eref 1000000 3 (Int.toNat (w64 (s5.1 - 1))) 0), (47, .own 1000000), (48, vi s5.1)], [(1000000, oa 59 3 eAnswer s5.2)]⟩) (by kernel_rfl)) Le.sub0) (by kernel_rfl) d17, (List.forall_mem_cons.2 ⟨DEs.mk (i := 9) (L' := #[true, true, true, true, false, true, true, true, true, true, true, true, false, false, false, false, false, false]) rfl (EStep.le (EStep.ofL (x_load_own (d := 1000000) (m := 3) (j := 0) (L := s5.2) (f := eAnswer) (ti := ti59) (e := 59) (v := .agg (tc eAnswer x14)) tbok rfl hx14) (by kernel_rfl)) Le.sub0) (by kernel_rfl) d20, (List.forall_mem_cons.2 ⟨DEs.mk (i := 12) (L' := #[true, true, true, true, false, true, true, true, true, false, true, true, true, false, false, false, false, false]) rfl (EStep.le (EStep.ofL (x_index_own (d := 1000000) (L := s5.2) (f := eAnswer) (ti := ti62) (tj := ti59) (e := 59) (e' := 59) (m := 3) (k := .i64) tbok rfl hx15) (by kernel_rfl)) Le.sub0) (by kernel_rfl) d21, (fun _ h => absurd h List.not_mem_nil)⟩)⟩)⟩)
  refine DE.share (fuel := 8) (L := #[true, true, true, true, true, true, true, false, false, false, true, true, true, false, false, false, false, false]) (σ := ⟨53, [(0, .own 1000000), (1, vi aA), (2, vi aB), (3, .clo 126 []), (8, vi s1.1), (9, vi s5.1), (37, .own 1000000), (38, vi s5.1), (39, .own 1000000), (41, vi (w64 (s5.1 - 1))), (42, .own 1000000), (43, vi s5.1), (49, .eref 1000000 3 (Int.toNat s5.1) 0)], [(1000000, oa 59 3 eAnswer s5.2)]⟩) ?_ (fun d13 => ?_)
  exact DE.all [7, 13] (by kernel_rfl) (by simp) (List.forall_mem_cons.2 ⟨DEs.mk (i := 7) (L' := #[true, true, true, true, true, true, true, true, false, false, true, true, true, false, false, false, false, false]) rfl (EStep.le (EStep.ofN2 tbok (σ' := ⟨53, [(44, vi (w64 (s5.1 - 1))), (0, .own 1000000), (1, vi aA), (2, vi aB), (3, .clo 126 []), (8, vi s1.1), (9, vi s5.1), (37, .own 1000000), (38, vi s5.1), (39, .own 1000000), (41, vi (w64 (s5.1 - 1))), (42, .own 1000000), (43, vi s5.1), (49, .eref 1000000 3 (Int.toNat s5.1) 0)], [(1000000, oa 59 3 eAnswer s5.2)]⟩) (by kernel_rfl)) Le.sub0) (by kernel_rfl) d18, (List.forall_mem_cons.2 ⟨DEs.mk (i := 13) (L' := #[true, true, true, true, true, true, true, false, false, false, true, true, true, true, false, false, false, false]) rfl (EStep.le (EStep.ofL (x_load_own (d := 1000000) (m := 3) (j := 0) (L := s5.2) (f := eAnswer) (ti := ti59) (e := 59) (v := .agg (tc eAnswer x15)) tbok rfl hx15) (by kernel_rfl)) Le.sub0) (by kernel_rfl) d19, (fun _ h => absurd h List.not_mem_nil)⟩)⟩)
  refine DE.share (fuel := 8) (L := #[true, true, true, true, true, true, true, true, false, false, true, true, false, false, false, false, false, false]) (σ := ⟨53, [(0, .own 1000000), (1, vi aA), (2, vi aB), (3, .clo 126 []), (8, vi s1.1), (9, vi s5.1), (37, .own 1000000), (38, vi s5.1), (39, .own 1000000), (41, vi (w64 (s5.1 - 1))), (42, .own 1000000), (44, vi (w64 (s5.1 - 1))), (47, .own 1000000), (48, vi s5.1)], [(1000000, oa 59 3 eAnswer s5.2)]⟩) ?_ (fun d12 => ?_)
  exact DE.all [8, 12] (by kernel_rfl) (by simp) (List.forall_mem_cons.2 ⟨DEs.mk (i := 8) (L' := #[true, true, true, true, true, true, true, true, true, false, true, true, false, false, false, false, false, false]) rfl (EStep.le (EStep.ofL (x_index_own (d := 1000000) (L := s5.2) (f := eAnswer) (ti := ti62) (tj := ti59) (e := 59) (e' := 59) (m := 3) (k := .i64) tbok rfl hx14) (by kernel_rfl)) Le.sub0) (by kernel_rfl) d17, (List.forall_mem_cons.2 ⟨DEs.mk (i := 12) (L' := #[true, true, true, true, true, true, true, true, false, false, true, true, true, false, false, false, false, false]) rfl (EStep.le (EStep.ofL (x_index_own (d := 1000000) (L := s5.2) (f := eAnswer) (ti := ti62) (tj := ti59) (e := 59) (e' := 59) (m := 3) (k := .i64) tbok rfl hx15) (by kernel_rfl)) Le.sub0) (by kernel_rfl) d18, (fun _ h => absurd h List.not_mem_nil)⟩)⟩)
  refine DE.share (fuel := 9) (L := #[true, true, true, true, false, true, true, false, false, false, true, true, true, false, false, false, false, false]) (σ := ⟨53, [(0, .own 1000000), (1, vi aA), (2, vi aB), (3, .clo 126 []), (8, vi s1.1), (9, vi s5.1), (37, .own 1000000), (38, vi s5.1), (39, .own 1000000), (40, vi s5.1), (42, .own 1000000), (43, vi s5.1), (49, .eref 1000000 3 (Int.toNat s5.1) 0)], [(1000000, oa 59 3 eAnswer s5.2)]⟩) ?_ (fun d11 => ?_)
  exact DE.all [4, 7, 13] (by kernel_rfl) (by simp) (List.forall_mem_cons.2 ⟨DEs.mk (i := 4) (L' := #[true, true, true, true, true, true, true, false, false, false, true, true, true, false, false, false, false, false]) rfl (EStep.le (EStep.ofN2 tbok (σ' := ⟨53, [(41, vi (w64 (s5.1 - 1))), (0, .own 1000000), (1, vi aA), (2, vi aB), (3, .clo 126 []), (8, vi s1.1), (9, vi s5.1), (37, .own 1000000), (38, vi s5.1), (39, .own 1000000), (40, vi s5.1), (42, .own 1000000), (43, vi s5.1), (49, .eref 1000000 3 (Int.toNat s5.1) 0)], [(1000000, oa 59 3 eAnswer s5.2)]⟩) (by kernel_rfl)) Le.sub0) (by kernel_rfl) d13, (List.forall_mem_cons.2 ⟨DEs.mk (i := 7) (L' := #[true, true, true, true, false, true, true, true, false, false, true, true, true, false, false, false, false, false]) rfl (EStep.le (EStep.ofN2 tbok (σ' := ⟨53, [(44, vi (w64 (s5.1 - 1))), (0, .own 1000000), (1, vi aA), (2, vi aB), (3, .clo 126 []), (8, vi s1.1), (9, vi s5.1), (37, .own 1000000), (38, vi s5.1), (39, .own 1000000), (40, vi s5.1), (42, .own 1000000), (43, vi s5.1), (49, .eref 1000000 3 (Int.toNat s5.1) 0)], [(1000000, oa 59 3 eAnswer s5.2)]⟩) (by kernel_rfl)) Le.sub0) (by kernel_rfl) d15, (List.forall_mem_cons.2 ⟨DEs.mk (i := 13) (L' := #[true, true, true, true, false, true, true, false, false, false, true, true, true, true, false, false, false, false]) rfl (EStep.le (EStep.ofL (x_load_own (d := 1000000) (m := 3) (j := 0) (L := s5.2) (f := eAnswer) (ti := ti59) (e := 59) (v := .agg (tc eAnswer x15)) tbok rfl hx15) (by kernel_rfl)) Le.sub0) (by kernel_rfl) d16, (fun _ h => absurd h List.not_mem_nil)⟩)⟩)⟩)
  refine DE.share (fuel := 9) (L := #[true, true, true, true, false, true, true, true, false, false, true, true, false, false, false, false, false, false]) (σ := ⟨53, [(0, .own 1000000), (1, vi aA), (2, vi aB), (3, .clo 126 []), (8, vi s1.1), (9, vi s5.1), (37, .own 1000000), (38, vi s5.1), (39, .own 1000000), (40, vi s5.1), (42, .own 1000000), (44, vi (w64 (s5.1 - 1))), (47, .own 1000000), (48, vi s5.1)], [(1000000, oa 59 3 eAnswer s5.2)]⟩) ?_ (fun d10 => ?_)
  exact DE.all [4, 8, 12] (by kernel_rfl) (by simp) (List.forall_mem_cons.2 ⟨DEs.mk (i := 4) (L' := #[true, true, true, true, true, true, true, true, false, false, true, true, false, false, false, false, false, false]) rfl (EStep.le (EStep.ofN2 tbok (σ' := ⟨53, [(41, vi (w64 (s5.1 - 1))), (0, .own 1000000), (1, vi aA), (2, vi aB), (3, .clo 126 []), (8, vi s1.1), (9, vi s5.1), (37, .own 1000000), (38, vi s5.1), (39, .own 1000000), (40, vi s5.1), (42, .own 1000000), (44, vi (w64 (s5.1 - 1))), (47, .own 1000000), (48, vi s5.1)], [(1000000, oa 59 3 eAnswer s5.2)]⟩) (by kernel_rfl)) Le.sub0) (by kernel_rfl) d12, (List.forall_mem_cons.2 ⟨DEs.mk (i := 8) (L' := #[true, true, true, true, false, true, true, true, true, false, true, true, false, false, false, false, false, false]) rfl (EStep.le (EStep.ofL (x_index_own (d := 1000000) (L := s5.2) (f := eAnswer) (ti := ti62) (tj := ti59) (e := 59) (e' := 59) (m := 3) (k := .i64) tbok rfl hx14) (by kernel_rfl)) Le.sub0) (by kernel_rfl) d14, (List.forall_mem_cons.2 ⟨DEs.mk (i := 12) (L' := #[true, true, true, true, false, true, true, true, false, false, true, true, true, false, false, false, false, false]) rfl (EStep.le (EStep.ofL (x_index_own (d := 1000000) (L := s5.2) (f := eAnswer) (ti := ti62) (tj := ti59) (e := 59) (e' := 59) (m := 3) (k := .i64) tbok rfl hx15) (by kernel_rfl)) Le.sub0) (by kernel_rfl) d15, (fun _ h => absurd h List.not_mem_nil)⟩)⟩)⟩)
  refine DE.share (fuel := 9) (L := #[true, true, true, true, true, true, true, false, false, false, true, true, false, false, false, false, false, false]) (σ := ⟨53, [(0, .own 1000000), (1, vi aA), (2, vi aB), (3, .clo 126 []), (8, vi s1.1), (9, vi s5.1), (37, .own 1000000), (38, vi s5.1), (39, .own 1000000), (41, vi (w64 (s5.1 - 1))), (42, .own 1000000), (43, vi s5.1), (47, .own 1000000), (48, vi s5.1)], [(1000000, oa 59 3 eAnswer s5.2)]⟩) ?_ (fun d9 => ?_)
  exact DE.all [7, 12] (by kernel_rfl) (by simp) (List.forall_mem_cons.2 ⟨DEs.mk (i := 7) (L' := #[true, true, true, true, true, true, true, true, false, false, true, true, false, false, false, false, false, false]) rfl (EStep.le (EStep.ofN2 tbok (σ' := ⟨53, [(44, vi (w64 (s5.1 - 1))), (0, .own 1000000), (1, vi aA), (2, vi aB), (3, .clo 126 []), (8, vi s1.1), (9, vi s5.1), (37, .own 1000000), (38, vi s5.1), (39, .own 1000000), (41, vi (w64 (s5.1 - 1))), (42, .own 1000000), (43, vi s5.1), (47, .own 1000000), (48, vi s5.1)], [(1000000, oa 59 3 eAnswer s5.2)]⟩) (by kernel_rfl)) Le.sub0) (by kernel_rfl) d12, (List.forall_mem_cons.2 ⟨DEs.mk (i := 12) (L' := #[true, true, true, true, true, true, true, false, false, false, true, true, true, false, false, false, false, false]) rfl (EStep.le (EStep.ofL (x_index_own (d := 1000000) (L := s5.2) (f := eAnswer) (ti := ti62) (tj := ti59) (e := 59) (e' := 59) (m := 3) (k := .i64) tbok rfl hx15) (by kernel_rfl)) Le.sub0) (by kernel_rfl) d13, (fun _ h => absurd h List.not_mem_nil)⟩)⟩)
  refine DE.share (fuel := 10) (L := #[true, true, true, true, false, true, true, false, false, false, true, true, false, false, false, false, false, false]) (σ := ⟨53, [(0, .own 1000000), (1, vi aA), (2, vi aB), (3, .clo 126 []), (8, vi s1.1), (9, vi s5.1), (37, .own 1000000), (38, vi s5.1), (39, .own 1000000), (40, vi s5.1), (42, .own 1000000), (43, vi s5.1), (47, .own 1000000), (48, vi s5.1)], [(1000000, oa 59 3 eAnswer s5.2)]⟩) ?_ (fun d8 => ?_)
  exact DE.all [4, 7, 12] (by kernel_rfl) (by simp) (List.forall_mem_cons.2 ⟨DEs.mk (i := 4) (L' := #[true, true, true, true, true, true, true, false, false, false, true, true, false, false, false, false, false, false]) rfl (EStep.le (EStep.ofN2 tbok (σ' := ⟨53, [(41, vi (w64 (s5.1 - 1))), (0, .own 1000000), (1, vi aA), (2, vi aB), (3, .clo 126 []), (8, vi s1.1), (9, vi s5.1), (37, .own 1000000), (38, vi s5.1), (39, .own 1000000), (40, vi s5.1), (42, .own 1000000), (43, vi s5.1), (47, .own 1000000), (48, vi s5.1)], [(1000000, oa 59 3 eAnswer s5.2)]⟩) (by kernel_rfl)) Le.sub0) (by kernel_rfl) d9, (List.forall_mem_cons.2 ⟨DEs.mk (i := 7) (L' := #[true, true, true, true, false, true, true, true, false, false, true, true, false, false, false, false, false, false]) rfl (EStep.le (EStep.ofN2 tbok (σ' := ⟨53, [(44, vi (w64 (s5.1 - 1))), (0, .own 1000000), (1, vi aA), (2, vi aB), (3, .clo 126 []), (8, vi s1.1), (9, vi s5.1), (37, .own 1000000), (38, vi s5.1), (39, .own 1000000), (40, vi s5.1), (42, .own 1000000), (43, vi s5.1), (47, .own 1000000), (48, vi s5.1)], [(1000000, oa 59 3 eAnswer s5.2)]⟩) (by kernel_rfl)) Le.sub0) (by kernel_rfl) d10, (List.forall_mem_cons.2 ⟨DEs.mk (i := 12) (L' := #[true, true, true, true, false, true, true, false, false, false, true, true, true, false, false, false, false, false]) rfl (EStep.le (EStep.ofL (x_index_own (d := 1000000) (L := s5.2) (f := eAnswer) (ti := ti62) (tj := ti59) (e := 59) (e' := 59) (m := 3) (k := .i64) tbok rfl hx15) (by kernel_rfl)) Le.sub0) (by kernel_rfl) d11, (fun _ h => absurd h List.not_mem_nil)⟩)⟩)⟩)
  refine DE.share (fuel := 11) (L := #[true, true, true, true, false, true, true, false, false, false, true, false, false, false, false, false, false, false]) (σ := ⟨53, [(0, .own 1000000), (1, vi aA), (2, vi aB), (3, .clo 126 []), (8, vi s1.1), (9, vi s5.1), (37, .own 1000000), (38, vi s5.1), (39, .own 1000000), (40, vi s5.1), (42, .own 1000000), (43, vi s5.1), (47, .own 1000000)], [(1000000, oa 59 3 eAnswer s5.2)]⟩) ?_ (fun d7 => ?_)
  exact DE.take (i := 11) (L' := #[true, true, true, true, false, true, true, false, false, false, true, true, false, false, false, false, false, false]) rfl (.inl rfl) rfl (by kernel_rfl) (by kernel_rfl) (by kernel_rfl) (EStep.le (EStep.ofN2 tbok (σ' := ⟨53, [(48, vi s5.1), (0, .own 1000000), (1, vi aA), (2, vi aB), (3, .clo 126 []), (8, vi s1.1), (9, vi s5.1), (37, .own 1000000), (38, vi s5.1), (39, .own 1000000), (40, vi s5.1), (42, .own 1000000), (43, vi s5.1), (47, .own 1000000)], [(1000000, oa 59 3 eAnswer s5.2)]⟩) (by kernel_rfl)) Le.sub0) (by kernel_rfl) d8
  refine DE.share (fuel := 12) (L := #[true, true, true, true, false, true, true, false, false, false, false, false, false, false, false, false, false, false]) (σ := ⟨53, [(0, .own 1000000), (1, vi aA), (2, vi aB), (3, .clo 126 []), (8, vi s1.1), (9, vi s5.1), (37, .own 1000000), (38, vi s5.1), (39, .own 1000000), (40, vi s5.1), (42, .own 1000000), (43, vi s5.1)], [(1000000, oa 59 3 eAnswer s5.2)]⟩) ?_ (fun d6 => ?_)
  exact DE.take (i := 10) (L' := #[true, true, true, true, false, true, true, false, false, false, true, false, false, false, false, false, false, false]) rfl (.inl rfl) rfl (by kernel_rfl) (by kernel_rfl) (by kernel_rfl) (EStep.le (EStep.ofN2 tbok (σ' := ⟨53, [(47, .own 1000000), (0, .own 1000000), (1, vi aA), (2, vi aB), (3, .clo 126 []), (8, vi s1.1), (9, vi s5.1), (37, .own 1000000), (38, vi s5.1), (39, .own 1000000), (40, vi s5.1), (42, .own 1000000), (43, vi s5.1)], [(1000000, oa 59 3 eAnswer s5.2)]⟩) (by kernel_rfl)) Le.sub0) (by kernel_rfl) d7
  refine DE.share (fuel := 13) (L := #[true, true, true, true, false, true, false, false, false, false, false, false, false, false, false, false, false, false]) (σ := ⟨53, [(0, .own 1000000), (1, vi aA), (2, vi aB), (3, .clo 126 []), (8, vi s1.1), (9, vi s5.1), (37, .own 1000000), (38, vi s5.1), (39, .own 1000000), (40, vi s5.1), (42, .own 1000000)], [(1000000, oa 59 3 eAnswer s5.2)]⟩) ?_ (fun d5 => ?_)
  exact DE.take (i := 6) (L' := #[true, true, true, true, false, true, true, false, false, false, false, false, false, false, false, false, false, false]) rfl (.inl rfl) rfl (by kernel_rfl) (by kernel_rfl) (by kernel_rfl) (EStep.le (EStep.ofN2 tbok (σ' := ⟨53, [(43, vi s5.1), (0, .own 1000000), (1, vi aA), (2, vi aB), (3, .clo 126 []), (8, vi s1.1), (9, vi s5.1), (37, .own 1000000), (38, vi s5.1), (39, .own 1000000), (40, vi s5.1), (42, .own 1000000)], [(1000000, oa 59 3 eAnswer s5.2)]⟩) (by kernel_rfl)) Le.sub0) (by kernel_rfl) d6
  refine DE.share (fuel := 14) (L := #[true, true, true, true, false, false, false, false, false, false, false, false, false, false, false, false, false, false]) (σ := ⟨53, [(0, .own 1000000), (1, vi aA), (2, vi aB), (3, .clo 126 []), (8, vi s1.1), (9, vi s5.1), (37, .own 1000000), (38, vi s5.1), (39, .own 1000000), (40, vi s5.1)], [(1000000, oa 59 3 eAnswer s5.2)]⟩) ?_ (fun d4 => ?_)
  exact DE.take (i := 5) (L' := #[true, true, true, true, false, true, false, false, false, false, false, false, false, false, false, false, false, false]) rfl (.inl rfl) rfl (by kernel_rfl) (by kernel_rfl) (by kernel_rfl) (EStep.le (EStep.ofN2 tbok (σ' := ⟨53, [(42, .own 1000000), (0, .own 1000000), (1, vi aA), (2, vi aB), (3, .clo 126 []), (8, vi s1.1), (9, vi s5.1), (37, .own 1000000), (38, vi s5.1), (39, .own 1000000), (40, vi s5.1)], [(1000000, oa 59 3 eAnswer s5.2)]⟩) (by kernel_rfl)) Le.sub0) (by kernel_rfl) d5
  refine DE.share (fuel := 15) (L := #[true, true, true, false, false, false, false, false, false, false, false, false, false, false, false, false, false, false]) (σ := ⟨53, [(0, .own 1000000), (1, vi aA), (2, vi aB), (3, .clo 126 []), (8, vi s1.1), (9, vi s5.1), (37, .own 1000000), (38, vi s5.1), (39, .own 1000000)], [(1000000, oa 59 3 eAnswer s5.2)]⟩) ?_ (fun d3 => ?_)
  exact DE.take (i := 3) (L' := #[true, true, true, true, false, false, false, false, false, false, false, false, false, false, false, false, false, false]) rfl (.inl rfl) rfl (by kernel_rfl) (by kernel_rfl) (by kernel_rfl) (EStep.le (EStep.ofN2 tbok (σ' := ⟨53, [(40, vi s5.1), (0, .own 1000000), (1, vi aA), (2, vi aB), (3, .clo 126 []), (8, vi s1.1), (9, vi s5.1), (37, .own 1000000), (38, vi s5.1), (39, .own 1000000)], [(1000000, oa 59 3 eAnswer s5.2)]⟩) (by kernel_rfl)) Le.sub0) (by kernel_rfl) d4
  refine DE.share (fuel := 16) (L := #[true, true, false, false, false, false, false, false, false, false, false, false, false, false, false, false, false, false]) (σ := ⟨53, [(0, .own 1000000), (1, vi aA), (2, vi aB), (3, .clo 126 []), (8, vi s1.1), (9, vi s5.1), (37, .own 1000000), (38, vi s5.1)], [(1000000, oa 59 3 eAnswer s5.2)]⟩) ?_ (fun d2 => ?_)
  exact DE.take (i := 2) (L' := #[true, true, true, false, false, false, false, false, false, false, false, false, false, false, false, false, false, false]) rfl (.inl rfl) rfl (by kernel_rfl) (by kernel_rfl) (by kernel_rfl) (EStep.le (EStep.ofN2 tbok (σ' := ⟨53, [(39, .own 1000000), (0, .own 1000000), (1, vi aA), (2, vi aB), (3, .clo 126 []), (8, vi s1.1), (9, vi s5.1), (37, .own 1000000), (38, vi s5.1)], [(1000000, oa 59 3 eAnswer s5.2)]⟩) (by kernel_rfl)) Le.sub0) (by kernel_rfl) d3
  refine DE.share (fuel := 17) (L := #[true, false, false, false, false, false, false, false, false, false, false, false, false, false, false, false, false, false]) (σ := ⟨53, [(0, .own 1000000), (1, vi aA), (2, vi aB), (3, .clo 126 []), (8, vi s1.1), (9, vi s5.1), (37, .own 1000000)], [(1000000, oa 59 3 eAnswer s5.2)]⟩) ?_ (fun d1 => ?_)
  exact DE.take (i := 1) (L' := #[true, true, false, false, false, false, false, false, false, false, false, false, false, false, false, false, false, false]) rfl (.inl rfl) rfl (by kernel_rfl) (by kernel_rfl) (by kernel_rfl) (EStep.le (EStep.ofN2 tbok (σ' := ⟨53, [(38, vi s5.1), (0, .own 1000000), (1, vi aA), (2, vi aB), (3, .clo 126 []), (8, vi s1.1), (9, vi s5.1), (37, .own 1000000)], [(1000000, oa 59 3 eAnswer s5.2)]⟩) (by kernel_rfl)) Le.sub0) (by kernel_rfl) d2
  exact DE.take (i := 0) (L' := #[true, false, false, false, false, false, false, false, false, false, false, false, false, false, false, false, false, false]) rfl (.inl rfl) rfl (by kernel_rfl) (by kernel_rfl) (by kernel_rfl) (EStep.le (EStep.ofN2 tbok (σ' := ⟨53, [(37, .own 1000000), (0, .own 1000000), (1, vi aA), (2, vi aB), (3, .clo 126 []), (8, vi s1.1), (9, vi s5.1), (34, vb j10)], [(1000000, oa 59 3 eAnswer s5.2)]⟩) (by kernel_rfl)) Le.sub0) (by kernel_rfl) d1
  obtain rfl := inj h
  exact q_bn (q_j (Le.sub0))
  refine swp_reg ?_
  refine SRun.ck tbok 3 ⟨53, [(0, .own 1000000), (1, vi aA), (2, vi aB), (3, .clo 126 []), (8, vi s1.1), (9, vi (w64 (s5.1 - 1)))], [(1000000, oa 59 3 eAnswer j12)]⟩ ?_
  refine SRun.nil ?_
  obtain rfl := inj h
  exact q_l (Le.sub0)
  refine swp_exit ?_
  obtain rfl := inj h
  exact nx_e (q_re (q_bh (q_bn (q_j (Le.sub0)))))
  refine swp_reg ?_
  refine SRun.ck tbok 3 ⟨53, [(0, .own 1000000), (1, vi aA), (2, vi aB), (3, .clo 126 []), (8, vi (w64 (s1.1 + 1)))], [(1000000, oa 59 3 eAnswer j3)]⟩ ?_
  refine SRun.nil ?_
  obtain rfl := inj h
  exact q_l (Le.sub0)
  refine swp_exit ?_
  obtain rfl := inj h
  exact nx_e (q_re (q_bh (q_fn (fin_io (fin0 (by kernel_rfl)) (y := oa 59 3 eAnswer s1.2) (by kernel_rfl) rfl (by kernel_rfl) (by kernel_rfl)))))
theorem ents186 : Ents Tryz.prog 186 := ents_of Tryz.func186 (by kernel_rfl) rfl
noncomputable def slices_pdqsortCmpFunc_Answer_impl_question_answers_1 (aData : (List Answer)) (aA : Int) (aB : Int) (aLimit : Int) : Option ((List Answer)) :=
  (loop (fun (s1 : Int × Int × Int × Bool × Bool × (List Answer)) => (bif (decide ((w64 (s1.2.1 - s1.1)) ≤ 12)) then ((slices_insertionSortCmpFunc_Answer_impl_question_answers_1 s1.2.2.2.2.2 s1.1 s1.2.1).bind fun x3 => some (.inr x3)) else (bif (s1.2.2.1 == 0) then none else (((bif (!s1.2.2.2.1) then none else some s1.2.2.1)).bind fun (_ : Int) => none)))) (aA, aB, aLimit, true, true, aData))
theorem slices_pdqsortCmpFunc_Answer_impl_question_answers_1_run (aData : (List Answer)) (aA : Int) (aB : Int) (aLimit : Int) (r : (List Answer)) (h : slices_pdqsortCmpFunc_Answer_impl_question_answers_1 aData aA aB aLimit = some r) : SCall Tryz.prog 160 [.o (oa 59 3 eAnswer aData), .v (vi aA), .v (vi aB), .v (vi aLimit), .v (.clo 126 [])] ⟨[], [(0, oa 59 3 eAnswer r)], false⟩ := by
  refine scall_in Tryz.func160 rfl [] rfl (fun r => ⟨[], [(0, oa 59 3 eAnswer r)], false⟩) (r := r) ?_
  unfold slices_pdqsortCmpFunc_Answer_impl_question_answers_1 at h
  refine srk tbok ⟨148, [(0, .own 1000000), (1, vi aA), (2, vi aB), (3, vi aLimit), (4, .clo 126 []), (10, vb true)], [(1000000, oa 59 3 eAnswer aData)]⟩ ?_
  refine srk tbok ⟨148, [(0, .own 1000000), (1, vi aA), (2, vi aB), (3, vi aLimit), (4, .clo 126 []), (10, vb true), (11, vb true)], [(1000000, oa 59 3 eAnswer aData)]⟩ ?_
  refine swp_blk (a := r) ?_
  refine swp_lpL (r := r) (s := (aA, aB, aLimit, true, true, aData)) _ (fun s1 => ⟨148, [(0, .own 1000000), (1, vi s1.1), (2, vi s1.2.1), (3, vi s1.2.2.1), (4, .clo 126 []), (10, vb s1.2.2.2.1), (11, vb s1.2.2.2.2.1)], [(1000000, oa 59 3 eAnswer s1.2.2.2.2.2)]⟩) _ (Le.sub0) h (fun s1 v2 h => ?_)
  refine swp_blk (a := v2) ?_
  refine srk tbok ⟨148, [(0, .own 1000000), (1, vi s1.1), (2, vi s1.2.1), (3, vi s1.2.2.1), (4, .clo 126 []), (10, vb s1.2.2.2.1), (11, vb s1.2.2.2.2.1), (12, vi (w64 (s1.2.1 - s1.1)))], [(1000000, oa 59 3 eAnswer s1.2.2.2.2.2)]⟩ ?_
  refine swp_seq ?_
  refine srk tbok ⟨148, [(0, .own 1000000), (1, vi s1.1), (2, vi s1.2.1), (3, vi s1.2.2.1), (4, .clo 126 []), (10, vb s1.2.2.2.1), (11, vb s1.2.2.2.2.1), (12, vi (w64 (s1.2.1 - s1.1))), (25, vb (decide ((w64 (s1.2.1 - s1.1)) ≤ 12)))], [(1000000, oa 59 3 eAnswer s1.2.2.2.2.2)]⟩ ?_
  refine swp_cd h (fun h => ?_) fun h => ?_
  refine sr ?_
  refine SRun.ck tbok 4 ⟨148, [(26, .own 1000000), (27, vi s1.1), (28, vi s1.2.1), (29, .clo 126 [])], [(1000000, oa 59 3 eAnswer s1.2.2.2.2.2)]⟩ ?_
  obtain ⟨x3, hx3, h⟩ := bind_some h
  refine SRun.estep (xe ents186 (slices_insertionSortCmpFunc_Answer_impl_question_answers_1_run s1.2.2.2.2.2 s1.1 s1.2.1 _ hx3)) ?_
  refine SRun.nx ?_
  refine swp_ret ?_
  obtain rfl := inj h
  exact nx_r (q_br (q_rr (q_br (q_fr (fin_io (fin0 (by kernel_rfl)) (y := oa 59 3 eAnswer x3) (by kernel_rfl) rfl (by kernel_rfl) (by kernel_rfl))))))
  refine swp_skip ?_
  refine nx_n ?_
  refine swp_seq ?_
  refine srk tbok ⟨148, [(0, .own 1000000), (1, vi s1.1), (2, vi s1.2.1), (3, vi s1.2.2.1), (4, .clo 126 []), (10, vb s1.2.2.2.1), (11, vb s1.2.2.2.2.1), (12, vi (w64 (s1.2.1 - s1.1))), (32, vb (s1.2.2.1 == 0))], [(1000000, oa 59 3 eAnswer s1.2.2.2.2.2)]⟩ ?_
  refine swp_cd h (fun h => ?_) fun h => ?_
  refine swp_seq ?_
  cases h
  refine swp_skip ?_
  refine nx_n ?_
  refine swp_seq ?_
  refine srk tbok ⟨148, [(0, .own 1000000), (1, vi s1.1), (2, vi s1.2.1), (3, vi s1.2.2.1), (4, .clo 126 []), (10, vb s1.2.2.2.1), (11, vb s1.2.2.2.2.1), (12, vi (w64 (s1.2.1 - s1.1))), (39, vb (!s1.2.2.2.1))], [(1000000, oa 59 3 eAnswer s1.2.2.2.2.2)]⟩ ?_
  refine swp_seqJ h (fun j4 => ⟨148, [(0, .own 1000000), (1, vi s1.1), (2, vi s1.2.1), (3, vi j4), (4, .clo 126 []), (10, vb s1.2.2.2.1), (11, vb s1.2.2.2.2.1), (12, vi (w64 (s1.2.1 - s1.1)))], [(1000000, oa 59 3 eAnswer s1.2.2.2.2.2)]⟩) (fun v5 h => ?_) (fun j4 h => ?_)
  refine swp_cd h (fun h => ?_) fun h => ?_
  refine swp_seq ?_
  cases h
  refine swp_skip ?_
  obtain rfl := inj h
  exact q_j (Le.sub0)
  refine swp_seq ?_
  cases h
theorem ents160 : Ents Tryz.prog 160 := ents_of Tryz.func160 (by kernel_rfl) rfl
noncomputable def slices_SortFunc_Answer_impl_question_answers_1 (aX : (List Answer)) : Option ((List Answer)) :=
  ((bits_Len (IntKind.wrap .u64 (aX.length : Int))).bind fun x1 => ((slices_pdqsortCmpFunc_Answer_impl_question_answers_1 aX 0 (aX.length : Int) x1).bind fun x2 => some x2))
theorem slices_SortFunc_Answer_impl_question_answers_1_run (aX : (List Answer)) (r : (List Answer)) (h : slices_SortFunc_Answer_impl_question_answers_1 aX = some r) : SCall Tryz.prog 125 [.o (oa 59 3 eAnswer aX), .v (.clo 126 [])] ⟨[], [(0, oa 59 3 eAnswer r)], false⟩ := by
  refine scall_in Tryz.func125 rfl [] rfl (fun r => ⟨[], [(0, oa 59 3 eAnswer r)], false⟩) (r := r) ?_
  unfold slices_SortFunc_Answer_impl_question_answers_1 at h
  refine srk tbok ⟨14, [(0, .own 1000000), (1, .clo 126 []), (4, vi (aX.length : Int))], [(1000000, oa 59 3 eAnswer aX)]⟩ ?_
  refine swp_reg ?_
  refine SRun.ck tbok 4 ⟨14, [(1, .clo 126 []), (7, .own 1000000), (8, vi (aX.length : Int)), (10, .tr (.int .u64 (IntKind.wrap .u64 (aX.length : Int))))], [(1000000, oa 59 3 eAnswer aX)]⟩ ?_
  obtain ⟨x1, hx1, h⟩ := bind_some h
  refine SRun.ls (xc ents152 (bits_Len_run (IntKind.wrap .u64 (aX.length : Int)) _ hx1)) ?_
  refine SRun.ck tbok 1 ⟨14, [(7, .own 1000000), (8, vi (aX.length : Int)), (11, vi x1), (12, .clo 126 [])], [(1000000, oa 59 3 eAnswer aX)]⟩ ?_
  obtain ⟨x2, hx2, h⟩ := bind_some h
  refine SRun.estep (xe ents160 (slices_pdqsortCmpFunc_Answer_impl_question_answers_1_run aX 0 (aX.length : Int) x1 _ hx2)) ?_
  refine SRun.nil ?_
  obtain rfl := inj h
  exact q_fn (fin_io (fin0 (by kernel_rfl)) (y := oa 59 3 eAnswer x2) (by kernel_rfl) rfl (by kernel_rfl) (by kernel_rfl))
theorem ents125 : Ents Tryz.prog 125 := ents_of Tryz.func125 (by kernel_rfl) rfl
noncomputable def impl_question_answers (aQ : question) (aList : (List Candidate)) : Option ((List Answer)) :=
  (((forS (aList.length : Int) (fun (i3 : Int) (s3 : (List Answer)) => ((at' aList i3).bind fun x7 => ((impl_question_answer aQ x7).bind fun x8 => ((app' s3 ([x8] : List Answer)).bind fun x9 => some x9)))) (fun (s3 : (List Answer)) => s3) 0 ([] : List Answer))).bind fun (j1 : (List Answer)) => ((slices_SortFunc_Answer_impl_question_answers_1 j1).bind fun x10 => some x10))
theorem impl_question_answers_run (aQ : question) (aList : (List Candidate)) (r : (List Answer)) (h : impl_question_answers aQ aList = some r) : SCall Tryz.prog 80 [.v (.agg (tc equestion aQ)), .v (vl eCandidate aList)] ⟨[.own 59 3 r.length (r.map eAnswer)], [], false⟩ := by
  refine scall_in Tryz.func80 rfl [(.tmp 4)] rfl (fun r => ⟨[.own 59 3 r.length (r.map eAnswer)], [], false⟩) (r := r) ?_
  unfold impl_question_answers at h
  refine srk tbok ⟨24, [(1, vl eCandidate aList), (2, .ref 2 0)], [(2, .box (tc equestion aQ))]⟩ ?_
  refine srk tbok ⟨24, [(1, vl eCandidate aList), (2, .ref 2 0), (5, .own 5)], [(2, .box (tc equestion aQ)), (5, oa 59 3 eAnswer ([] : List Answer))]⟩ ?_
  refine swp_seq ?_
  refine srk tbok ⟨24, [(2, .ref 2 0), (5, .own 5), (8, vl eCandidate aList), (9, vi (aList.length : Int)), (10, vi 0)], [(2, .box (tc equestion aQ)), (5, oa 59 3 eAnswer ([] : List Answer))]⟩ ?_
  refine swp_seqJ h (fun j1 => ⟨24, [(5, .own 5)], [(5, oa 59 3 eAnswer j1)]⟩) (fun v2 h => ?_) (fun j1 h => ?_)
  refine swp_blk (a := v2) ?_
  refine swp_lpL (r := v2) (s := (0, ([] : List Answer))) _ (fun s3 => ⟨24, [(2, .ref 2 0), (5, .own 5), (8, vl eCandidate aList), (9, vi (aList.length : Int)), (10, vi s3.1)], [(2, .box (tc equestion aQ)), (5, oa 59 3 eAnswer s3.2)]⟩) _ (Le.sub0) h (fun s3 v4 h => ?_)
  refine srk tbok ⟨24, [(2, .ref 2 0), (5, .own 5), (8, vl eCandidate aList), (9, vi (aList.length : Int)), (10, vi s3.1), (11, vb (decide (s3.1 < (aList.length : Int))))], [(2, .box (tc equestion aQ)), (5, oa 59 3 eAnswer s3.2)]⟩ ?_
  refine swp_seq ?_
  refine swp_cd h (fun h => ?_) fun h => ?_
  refine swp_skip ?_
  refine nx_n ?_
  refine swp_seq ?_
  refine swp_seqJ h (fun j5 => ⟨24, [(2, .ref 2 0), (5, .own 5), (8, vl eCandidate aList), (9, vi (aList.length : Int)), (10, vi s3.1)], [(2, .box (tc equestion aQ)), (5, oa 59 3 eAnswer j5)]⟩) (fun v6 h => ?_) (fun j5 h => ?_)
  refine swp_blk (a := v6) ?_
  refine sr ?_
  obtain ⟨x7, hx7, h⟩ := bind_some h
  refine SRun.ls (x_index (L := aList) (f := eCandidate) (ti := ti31) (tj := ti87) (e := 87) (k := .i64) tbok rfl hx7) ?_
  refine ckn tbok 3 ⟨24, [(2, .ref 2 0), (5, .own 5), (7, .ref 7 0), (8, vl eCandidate aList), (9, vi (aList.length : Int)), (10, vi s3.1)], [(2, .box (tc equestion aQ)), (5, oa 59 3 eAnswer s3.2), (7, .box (tc eCandidate x7))]⟩ ?_
  refine swp_reg ?_
  refine SRun.ck tbok 3 ⟨24, [(2, .ref 2 0), (8, vl eCandidate aList), (9, vi (aList.length : Int)), (10, vi s3.1), (14, .own 5), (15, .agg (tc equestion aQ)), (16, .agg (tc eCandidate x7))], [(2, .box (tc equestion aQ)), (5, oa 59 3 eAnswer s3.2)]⟩ ?_
  obtain ⟨x8, hx8, h⟩ := bind_some h
  refine SRun.ls (xc ents83 (impl_question_answer_run aQ x7 _ hx8)) ?_
  refine SRun.ck tbok 1 ⟨24, [(2, .ref 2 0), (8, vl eCandidate aList), (9, vi (aList.length : Int)), (10, vi s3.1), (14, .own 5), (18, .own 18)], [(2, .box (tc equestion aQ)), (5, oa 59 3 eAnswer s3.2), (18, oa 59 3 eAnswer ([x8] : List Answer))]⟩ ?_
  obtain ⟨x9, hx9, h⟩ := bind_some h
  refine SRun.estep (x_append (f := eAnswer) (t := 62) (ti := ti62) (tj := ti59) (zs := [.string (ByteArray.mk #[]), .int .i64 0, .int .i64 0]) (e := 59) (m := 3) (d := 5) (xv := .own 18) hx9 tbok rfl rfl rfl rfl (x_src_o (e := 59))) ?_
  refine SRun.ck tbok 1 ⟨24, [(2, .ref 2 0), (5, .own 19), (8, vl eCandidate aList), (9, vi (aList.length : Int)), (10, vi s3.1)], [(2, .box (tc equestion aQ)), (19, oa 59 3 eAnswer x9)]⟩ ?_
  refine SRun.nil ?_
  obtain rfl := inj h
  exact q_bn (q_j ((Le.sub' ([(2, .ref 2 0), (5, .own 19), (8, vl eCandidate aList), (9, vi (aList.length : Int)), (10, vi s3.1)] : List (Nat × SV)) ([(2, .box (tc equestion aQ)), (19, oa 59 3 eAnswer x9)] : List (Nat × SO)) (by kernel_rfl) (by kernel_rfl)).trans ((Le.ren' (d := 19) (e := 5) (by kernel_rfl) (by kernel_rfl) (by kernel_rfl)).trans (Le.sub0))))
  refine swp_reg ?_
  refine SRun.ck tbok 2 ⟨24, [(2, .ref 2 0), (5, .own 5), (8, vl eCandidate aList), (9, vi (aList.length : Int)), (10, vi (w64 (s3.1 + 1)))], [(2, .box (tc equestion aQ)), (5, oa 59 3 eAnswer j5)]⟩ ?_
  refine SRun.nil ?_
  obtain rfl := inj h
  exact q_l (Le.sub0)
  refine swp_exit ?_
  obtain rfl := inj h
  exact nx_e (q_re (q_bh (q_j (Le.sub0))))
  refine sr ?_
  refine SRun.ck tbok 1 ⟨24, [(5, .own 5), (21, .own 5)], [(5, oa 59 3 eAnswer j1)]⟩ ?_
  obtain ⟨x10, hx10, h⟩ := bind_some h
  refine SRun.estep (xe ents125 (slices_SortFunc_Answer_impl_question_answers_1_run j1 _ hx10)) ?_
  refine SRun.nx ?_
  refine srk tbok ⟨24, [(4, .own 5)], [(5, oa 59 3 eAnswer x10)]⟩ ?_
  refine swp_ret ?_
  obtain rfl := inj h
  exact q_fr (f1 (fo eAnswer_flat))
theorem ents80 : Ents Tryz.prog 80 := ents_of Tryz.func80 (by kernel_rfl) rfl
noncomputable def impl_AnswersOf (aList : (List Candidate)) (aText : ByteArray) (aSites : (List Site)) (aDescriptions : (List Description)) : Option ((List Answer) × Int) :=
  ((impl_question_code (question.mk aText aSites aDescriptions) aList).bind fun x1 => (bif (x1 != 0) then some (([] : List Answer), x1) else ((impl_question_answers (question.mk aText aSites aDescriptions) aList).bind fun x2 => some (x2, 0))))
theorem impl_AnswersOf_run (aList : (List Candidate)) (aText : ByteArray) (aSites : (List Site)) (aDescriptions : (List Description)) (r : (List Answer) × Int) (h : impl_AnswersOf aList aText aSites aDescriptions = some r) : SCall Tryz.prog 38 [.v (vl eCandidate aList), .v (vs aText), .v (vl eSite aSites), .v (vl eDescription aDescriptions)] ⟨[.own 59 3 r.1.length (r.1.map eAnswer), .v (vi r.2)], [], false⟩ := by
  refine scall_in Tryz.func38 rfl [(.tmp 8), (.tmp 9)] rfl (fun r => ⟨[.own 59 3 r.1.length (r.1.map eAnswer), .v (vi r.2)], [], false⟩) (r := r) ?_
  unfold impl_AnswersOf at h
  refine srk tbok ⟨25, [(0, vl eCandidate aList), (1, vs aText), (2, vl eSite aSites), (3, vl eDescription aDescriptions)], []⟩ ?_
  refine sr ?_
  refine SRun.ck tbok 3 ⟨25, [(0, vl eCandidate aList), (12, vs aText), (13, vl eSite aSites), (14, vl eDescription aDescriptions)], []⟩ ?_
  refine SRun.ls (x_lstep_build (v := .agg [vs aText, vl eSite aSites, vl eDescription aDescriptions]) tbok rfl) ?_
  refine ckn tbok 2 ⟨25, [(0, vl eCandidate aList), (10, .ref 10 0)], [(10, .box [vs aText, vl eSite aSites, vl eDescription aDescriptions])]⟩ ?_
  refine swp_seq ?_
  refine sr ?_
  refine SRun.ck tbok 2 ⟨25, [(0, vl eCandidate aList), (10, .ref 10 0), (16, .agg [vs aText, vl eSite aSites, vl eDescription aDescriptions]), (17, vl eCandidate aList)], [(10, .box [vs aText, vl eSite aSites, vl eDescription aDescriptions])]⟩ ?_
  obtain ⟨x1, hx1, h⟩ := bind_some h
  refine SRun.ls (xc ents79 (impl_question_code_run (question.mk aText aSites aDescriptions) aList _ hx1)) ?_
  refine ckn tbok 1 ⟨25, [(0, vl eCandidate aList), (10, .ref 10 0), (11, vi x1)], [(10, .box [vs aText, vl eSite aSites, vl eDescription aDescriptions])]⟩ ?_
  refine srk tbok ⟨25, [(0, vl eCandidate aList), (10, .ref 10 0), (11, vi x1), (20, vb (x1 != 0))], [(10, .box [vs aText, vl eSite aSites, vl eDescription aDescriptions])]⟩ ?_
  refine swp_cd h (fun h => ?_) fun h => ?_
  refine srk tbok ⟨25, [(8, .own 8), (9, vi x1)], [(8, oa 59 3 eAnswer ([] : List Answer))]⟩ ?_
  refine swp_ret ?_
  obtain rfl := inj h
  exact nx_r (q_fr (f2 (fo eAnswer_flat) fv))
  refine swp_skip ?_
  refine nx_n ?_
  refine sr ?_
  refine SRun.ck tbok 2 ⟨25, [(22, .agg [vs aText, vl eSite aSites, vl eDescription aDescriptions]), (23, vl eCandidate aList)], []⟩ ?_
  obtain ⟨x2, hx2, h⟩ := bind_some h
  refine SRun.ls (xc ents80 (impl_question_answers_run (question.mk aText aSites aDescriptions) aList _ hx2)) ?_
  refine ckn tbok 2 ⟨25, [(8, .own 24), (9, vi 0)], [(24, oa 59 3 eAnswer x2)]⟩ ?_
  refine swp_ret ?_
  obtain rfl := inj h
  exact q_fr (f2 (fo eAnswer_flat) fv)
theorem ents38 : Ents Tryz.prog 38 := ents_of Tryz.func38 (by kernel_rfl) rfl
noncomputable def impl_length_Description (aList : (List Description)) : Option (Int) :=
  some (aList.length : Int)
theorem impl_length_Description_run (aList : (List Description)) (r : Int) (h : impl_length_Description aList = some r) : SCall Tryz.prog 69 [.v (vl eDescription aList)] ⟨[.v (vi r)], [], false⟩ := by
  refine scall_in Tryz.func69 rfl [(.tmp 2)] rfl (fun r => ⟨[.v (vi r)], [], false⟩) (r := r) ?_
  unfold impl_length_Description at h
  refine srk tbok ⟨5, [(0, vl eDescription aList)], []⟩ ?_
  refine srk tbok ⟨5, [(2, vi (aList.length : Int))], []⟩ ?_
  refine swp_ret ?_
  obtain rfl := inj h
  exact q_fr (f1 fv)
theorem ents69 : Ents Tryz.prog 69 := ents_of Tryz.func69 (by kernel_rfl) rfl
noncomputable def cmp_isNaN_string (aX : ByteArray) : Option (Bool) :=
  some (!(aX.toList == aX.toList))
theorem cmp_isNaN_string_run (aX : ByteArray) (r : Bool) (h : cmp_isNaN_string aX = some r) : SCall Tryz.prog 214 [.v (vs aX)] ⟨[.v (vb r)], [], false⟩ := by
  refine scall_in Tryz.func214 rfl [(.tmp 2)] rfl (fun r => ⟨[.v (vb r)], [], false⟩) (r := r) ?_
  unfold cmp_isNaN_string at h
  refine srk tbok ⟨6, [(0, vs aX)], []⟩ ?_
  refine srk tbok ⟨6, [(2, vb (!(aX.toList == aX.toList)))], []⟩ ?_
  refine swp_ret ?_
  obtain rfl := inj h
  exact q_fr (f1 fv)
theorem ents214 : Ents Tryz.prog 214 := ents_of Tryz.func214 (by kernel_rfl) rfl
noncomputable def cmp_Less_string (aX : ByteArray) (aY : ByteArray) : Option (Bool) :=
  ((((cmp_isNaN_string aX).bind fun x1 => (bif x1 then ((cmp_isNaN_string aY).bind fun x2 => (bif (!x2) then some true else some (Op.bytesLess aX.toList aY.toList))) else some (Op.bytesLess aX.toList aY.toList)))).bind fun (j3 : Bool) => some j3)
theorem cmp_Less_string_run (aX : ByteArray) (aY : ByteArray) (r : Bool) (h : cmp_Less_string aX aY = some r) : SCall Tryz.prog 175 [.v (vs aX), .v (vs aY)] ⟨[.v (vb r)], [], false⟩ := by
  refine scall_in Tryz.func175 rfl [(.tmp 4)] rfl (fun r => ⟨[.v (vb r)], [], false⟩) (r := r) ?_
  unfold cmp_Less_string at h
  refine srk tbok ⟨17, [(0, vs aX), (1, vs aY)], []⟩ ?_
  refine swp_seq ?_
  refine swp_regJ h (fun j3 => ⟨17, [(4, vb j3)], []⟩) (fun v4 h => ?_) (fun j3 h => ?_)
  refine SRun.ck tbok 1 ⟨17, [(0, vs aX), (1, vs aY), (5, vs aX)], []⟩ ?_
  obtain ⟨x1, hx1, h⟩ := bind_some h
  refine SRun.ls (xc ents214 (cmp_isNaN_string_run aX _ hx1)) ?_
  refine SRun.ck tbok 1 ⟨17, [(0, vs aX), (1, vs aY), (7, vb x1)], []⟩ ?_
  refine SRun.cu [(7, fun b => b)] h (fun h => ?_) fun h => ?_
  refine SRun.ck tbok 1 ⟨17, [(0, vs aX), (1, vs aY), (7, vb true), (8, vs aY)], []⟩ ?_
  obtain ⟨x2, hx2, h⟩ := bind_some h
  refine SRun.ls (xc ents214 (cmp_isNaN_string_run aY _ hx2)) ?_
  refine SRun.ck tbok 3 ⟨17, [(0, vs aX), (1, vs aY), (12, vb (!x2))], []⟩ ?_
  refine SRun.cu [(12, fun b => b)] h (fun h => ?_) fun h => ?_
  refine SRun.ck tbok 5 ⟨17, [(4, vb true)], []⟩ ?_
  refine SRun.nil ?_
  obtain rfl := inj h
  exact Le.sub0
  refine SRun.ck tbok 5 ⟨17, [(4, vb (Op.bytesLess aX.toList aY.toList))], []⟩ ?_
  refine SRun.nil ?_
  obtain rfl := inj h
  exact Le.sub0
  refine SRun.ck tbok 10 ⟨17, [(4, vb (Op.bytesLess aX.toList aY.toList))], []⟩ ?_
  refine SRun.nil ?_
  obtain rfl := inj h
  exact Le.sub0
  refine swp_ret ?_
  obtain rfl := inj h
  exact q_fr (f1 fv)
theorem ents175 : Ents Tryz.prog 175 := ents_of Tryz.func175 (by kernel_rfl) rfl
noncomputable def slices_insertionSortOrdered_string (aData : (List ByteArray)) (aA : Int) (aB : Int) : Option ((List ByteArray)) :=
  (forS aB (fun (i1 : Int) (s1 : (List ByteArray)) => (loop (fun (s5 : Int × (List ByteArray)) => (((bif (decide (s5.1 > aA)) then ((at' s5.2 s5.1).bind fun x7 => ((at' s5.2 (w64 (s5.1 - 1))).bind fun x8 => ((cmp_Less_string x7 x8).bind fun x9 => some x9))) else some false)).bind fun (j10 : Bool) => (bif j10 then ((((at' s5.2 (w64 (s5.1 - 1))).bind fun x14 => ((at' s5.2 s5.1).bind fun x15 => ((at' s5.2 s5.1).bind fun _ => ((at' (List.set s5.2 (Int.toNat s5.1) x14) (w64 (s5.1 - 1))).bind fun _ => some (List.set (List.set s5.2 (Int.toNat s5.1) x14) (Int.toNat (w64 (s5.1 - 1))) x15)))))).bind fun (j12 : (List ByteArray)) => some (.inl ((w64 (s5.1 - 1)), j12))) else some (.inr s5.2)))) (i1, s1))) (fun (s1 : (List ByteArray)) => s1) (w64 (aA + 1)) aData)
theorem slices_insertionSortOrdered_string_run (aData : (List ByteArray)) (aA : Int) (aB : Int) (r : (List ByteArray)) (h : slices_insertionSortOrdered_string aData aA aB = some r) : SCall Tryz.prog 169 [.o (oa 9 1 eS aData), .v (vi aA), .v (vi aB)] ⟨[], [(0, oa 9 1 eS r)], false⟩ := by
  refine scall_in Tryz.func169 rfl [] rfl (fun r => ⟨[], [(0, oa 9 1 eS r)], false⟩) (r := r) ?_
  unfold slices_insertionSortOrdered_string at h
  refine srk tbok ⟨49, [(0, .own 1000000), (1, vi aA), (2, vi aB), (6, vi (w64 (aA + 1)))], [(1000000, oa 9 1 eS aData)]⟩ ?_
  refine swp_blk (a := r) ?_
  refine swp_lpL (r := r) (s := ((w64 (aA + 1)), aData)) _ (fun s1 => ⟨49, [(0, .own 1000000), (1, vi aA), (2, vi aB), (6, vi s1.1)], [(1000000, oa 9 1 eS s1.2)]⟩) _ (Le.sub0) h (fun s1 v2 h => ?_)
  refine swp_seq ?_
  refine srk tbok ⟨49, [(0, .own 1000000), (1, vi aA), (2, vi aB), (6, vi s1.1), (12, vb (decide (s1.1 < aB)))], [(1000000, oa 9 1 eS s1.2)]⟩ ?_
  refine swp_cd h (fun h => ?_) fun h => ?_
  refine swp_skip ?_
  refine nx_n ?_
  refine swp_seq ?_
  refine swp_seqJ h (fun j3 => ⟨49, [(0, .own 1000000), (1, vi aA), (2, vi aB), (6, vi s1.1)], [(1000000, oa 9 1 eS j3)]⟩) (fun v4 h => ?_) (fun j3 h => ?_)
  refine swp_blk (a := v4) ?_
  refine srk tbok ⟨49, [(0, .own 1000000), (1, vi aA), (2, vi aB), (6, vi s1.1), (7, vi s1.1)], [(1000000, oa 9 1 eS s1.2)]⟩ ?_
  refine swp_blk (a := v4) ?_
  refine swp_lpL (r := v4) (s := (s1.1, s1.2)) _ (fun s5 => ⟨49, [(0, .own 1000000), (1, vi aA), (2, vi aB), (6, vi s1.1), (7, vi s5.1)], [(1000000, oa 9 1 eS s5.2)]⟩) _ (Le.sub0) h (fun s5 v6 h => ?_)
  refine swp_seq ?_
  refine swp_seq ?_
  refine swp_drJ mixed h (fun j10 => ⟨49, [(0, .own 1000000), (1, vi aA), (2, vi aB), (6, vi s1.1), (7, vi s5.1), (30, vb j10)], [(1000000, oa 9 1 eS s5.2)]⟩) (fun v11 h => ?_) (fun j10 h => ?_)
  refine DGo.ck tbok false 4 ⟨49, [(0, .own 1000000), (1, vi aA), (2, vi aB), (6, vi s1.1), (7, vi s5.1), (19, vb (decide (s5.1 > aA)))], [(1000000, oa 9 1 eS s5.2)]⟩ ?_
  refine DGo.cu [(19, fun b => b)] h (fun h => ?_) fun h => ?_
  refine DGo.ck tbok false 2 ⟨49, [(0, .own 1000000), (1, vi aA), (2, vi aB), (6, vi s1.1), (7, vi s5.1), (19, vb true), (20, .own 1000000), (21, vi s5.1)], [(1000000, oa 9 1 eS s5.2)]⟩ ?_
  obtain ⟨x7, hx7, h⟩ := bind_some h
  refine DGo.step (x_index_own (d := 1000000) (L := s5.2) (f := eS) (ti := ti28) (tj := ti9) (e := 9) (e' := 9) (m := 1) (k := .i64) tbok rfl hx7) ?_
  refine DGo.step (x_load_own (d := 1000000) (m := 1) (j := 0) (L := s5.2) (f := eS) (ti := ti9) (e := 9) (v := vs x7) tbok rfl hx7) ?_
  refine DGo.ck tbok false 3 ⟨49, [(0, .own 1000000), (1, vi aA), (2, vi aB), (6, vi s1.1), (7, vi s5.1), (19, vb true), (23, vs x7), (24, .own 1000000), (26, vi (w64 (s5.1 - 1)))], [(1000000, oa 9 1 eS s5.2)]⟩ ?_
  obtain ⟨x8, hx8, h⟩ := bind_some h
  refine DGo.step (x_index_own (d := 1000000) (L := s5.2) (f := eS) (ti := ti28) (tj := ti9) (e := 9) (e' := 9) (m := 1) (k := .i64) tbok rfl hx8) ?_
  refine DGo.step (x_load_own (d := 1000000) (m := 1) (j := 0) (L := s5.2) (f := eS) (ti := ti9) (e := 9) (v := vs x8) tbok rfl hx8) ?_
  obtain ⟨x9, hx9, h⟩ := bind_some h
  refine DGo.step (xc ents175 (cmp_Less_string_run x7 x8 _ hx9)) ?_
  refine DGo.ck tbok false 1 ⟨49, [(0, .own 1000000), (1, vi aA), (2, vi aB), (6, vi s1.1), (7, vi s5.1), (30, vb x9)], [(1000000, oa 9 1 eS s5.2)]⟩ ?_
  refine DGo.nil (by kernel_rfl) ?_
  obtain rfl := inj h
  exact Le.sub0
  refine DGo.ck tbok false 11 ⟨49, [(0, .own 1000000), (1, vi aA), (2, vi aB), (6, vi s1.1), (7, vi s5.1), (30, vb false)], [(1000000, oa 9 1 eS s5.2)]⟩ ?_
  refine DGo.nil (by kernel_rfl) ?_
  obtain rfl := inj h
  exact Le.sub0
  refine swp_cd h (fun h => ?_) fun h => ?_
  refine swp_skip ?_
  refine nx_n ?_
  refine swp_seq ?_
  refine swp_seqJ h (fun j12 => ⟨49, [(0, .own 1000000), (1, vi aA), (2, vi aB), (6, vi s1.1), (7, vi s5.1)], [(1000000, oa 9 1 eS j12)]⟩) (fun v13 h => ?_) (fun j12 h => ?_)
  refine swp_blk (a := v13) ?_
  obtain ⟨x14, hx14, h⟩ := bind_some h
  obtain ⟨x15, hx15, h⟩ := bind_some h
  obtain ⟨x16, hx16, h⟩ := bind_some h
  obtain ⟨x17, hx17, h⟩ := bind_some h
  refine swp_dr mixed ?_
  refine DGo.enum (σE := ⟨49, [(0, .own 1000000), (1, vi aA), (2, vi aB), (6, vi s1.1), (7, vi s5.1)], [(1000000, oa 9 1 eS (List.set (List.set s5.2 (Int.toNat s5.1) x14) (Int.toNat (w64 (s5.1 - 1))) x15))]⟩) (n := 18) (L0 := #[false, false, false, false, false, false, false, false, false, false, false, false, false, false, false, false, false, false]) (by kernel_rfl) (by kernel_rfl) (fun K hk => ?_) ?_
  refine DE.share (fuel := 0) (L := #[true, true, true, true, true, true, true, true, true, true, true, true, true, true, true, true, true, true]) (σ := ⟨49, [(0, .own 1000000), (1, vi aA), (2, vi aB), (6, vi s1.1), (7, vi s5.1)], [(1000000, oa 9 1 eS (List.set (List.set s5.2 (Int.toNat s5.1) x14) (Int.toNat (w64 (s5.1 - 1))) x15))]⟩) ?_ (fun d37 => ?_)
  exact DE.done (by kernel_rfl) hk
  refine DE.share (fuel := 1) (L := #[true, true, true, true, true, true, true, true, true, true, true, true, true, true, true, true, true, false]) (σ := ⟨49, [(0, .own 1000000), (1, vi aA), (2, vi aB), (6, vi s1.1), (7, vi s5.1), (46, vs x15), (48, .eref 1000000 1 (Int.toNat (w64 (s5.1 - 1))) 0)], [(1000000, oa 9 1 eS (List.set s5.2 (Int.toNat s5.1) x14))]⟩) ?_ (fun d36 => ?_)
  exact DE.all [17] (by kernel_rfl) (by simp) (List.forall_mem_cons.2 ⟨DEs.mk (i := 17) (L' := #[true, true, true, true, true, true, true, true, true, true, true, true, true, true, true, true, true, true]) rfl (EStep.le (x_store_own (d := 1000000) (m := 1) (j := 0) (L := (List.set s5.2 (Int.toNat s5.1) x14)) (f := eS) (x := x15) (z := x17) (ti := ti9) (e := 9) (ts := [.str x15]) (vs := [vs x15]) (v := vs x15) tbok rfl rfl hx17) Le.sub0) (by kernel_rfl) d37, (fun _ h => absurd h List.not_mem_nil)⟩)
  refine DE.share (fuel := 2) (L := #[true, true, true, true, true, true, true, true, true, true, true, true, true, true, true, true, false, false]) (σ := ⟨49, [(0, .own 1000000), (1, vi aA), (2, vi aB), (6, vi s1.1), (7, vi s5.1), (35, .own 1000000), (37, vi (w64 (s5.1 - 1))), (46, vs x15)], [(1000000, oa 9 1 eS (List.set s5.2 (Int.toNat s5.1) x14))]⟩) ?_ (fun d35 => ?_)
  exact DE.all [16] (by kernel_rfl) (by simp) (List.forall_mem_cons.2 ⟨DEs.mk (i := 16) (L' := #[true, true, true, true, true, true, true, true, true, true, true, true, true, true, true, true, true, false]) rfl (EStep.le (EStep.ofL (x_index_own (d := 1000000) (L := (List.set s5.2 (Int.toNat s5.1) x14)) (f := eS) (ti := ti28) (tj := ti9) (e := 9) (e' := 9) (m := 1) (k := .i64) tbok rfl hx17) (by kernel_rfl)) Le.sub0) (by kernel_rfl) d36, (fun _ h => absurd h List.not_mem_nil)⟩)
  refine DE.share (fuel := 3) (L := #[true, true, true, true, false, true, true, true, true, true, true, true, true, true, true, true, false, false]) (σ := ⟨49, [(0, .own 1000000), (1, vi aA), (2, vi aB), (6, vi s1.1), (7, vi s5.1), (35, .own 1000000), (36, vi s5.1), (46, vs x15)], [(1000000, oa 9 1 eS (List.set s5.2 (Int.toNat s5.1) x14))]⟩) ?_ (fun d34 => ?_)
  exact DE.all [4] (by kernel_rfl) (by simp) (List.forall_mem_cons.2 ⟨DEs.mk (i := 4) (L' := #[true, true, true, true, true, true, true, true, true, true, true, true, true, true, true, true, false, false]) rfl (EStep.le (EStep.ofN2 tbok (σ' := ⟨49, [(37, vi (w64 (s5.1 - 1))), (0, .own 1000000), (1, vi aA), (2, vi aB), (6, vi s1.1), (7, vi s5.1), (35, .own 1000000), (36, vi s5.1), (46, vs x15)], [(1000000, oa 9 1 eS (List.set s5.2 (Int.toNat s5.1) x14))]⟩) (by kernel_rfl)) Le.sub0) (by kernel_rfl) d35, (fun _ h => absurd h List.not_mem_nil)⟩)
  refine DE.share (fuel := 3) (L := #[true, true, true, true, true, true, true, true, true, true, true, true, true, true, true, false, false, false]) (σ := ⟨49, [(0, .own 1000000), (1, vi aA), (2, vi aB), (6, vi s1.1), (7, vi s5.1), (35, .own 1000000), (37, vi (w64 (s5.1 - 1))), (42, vs x14), (46, vs x15), (47, .eref 1000000 1 (Int.toNat s5.1) 0)], [(1000000, oa 9 1 eS s5.2)]⟩) ?_ (fun d33 => ?_)
  exact DE.all [15] (by kernel_rfl) (by simp) (List.forall_mem_cons.2 ⟨DEs.mk (i := 15) (L' := #[true, true, true, true, true, true, true, true, true, true, true, true, true, true, true, true, false, false]) rfl (EStep.le (x_store_own (d := 1000000) (m := 1) (j := 0) (L := s5.2) (f := eS) (x := x14) (z := x16) (ti := ti9) (e := 9) (ts := [.str x14]) (vs := [vs x14]) (v := vs x14) tbok rfl rfl hx16) Le.sub0) (by kernel_rfl) d35, (fun _ h => absurd h List.not_mem_nil)⟩)
  refine DE.share (fuel := 4) (L := #[true, true, true, true, false, true, true, true, true, true, true, true, true, true, true, false, false, false]) (σ := ⟨49, [(0, .own 1000000), (1, vi aA), (2, vi aB), (6, vi s1.1), (7, vi s5.1), (35, .own 1000000), (36, vi s5.1), (42, vs x14), (46, vs x15), (47, .eref 1000000 1 (Int.toNat s5.1) 0)], [(1000000, oa 9 1 eS s5.2)]⟩) ?_ (fun d32 => ?_)
  exact DE.all [4, 15] (by kernel_rfl) (by simp) (List.forall_mem_cons.2 ⟨DEs.mk (i := 4) (L' := #[true, true, true, true, true, true, true, true, true, true, true, true, true, true, true, false, false, false]) rfl (EStep.le (EStep.ofN2 tbok (σ' := ⟨49, [(37, vi (w64 (s5.1 - 1))), (0, .own 1000000), (1, vi aA), (2, vi aB), (6, vi s1.1), (7, vi s5.1), (35, .own 1000000), (36, vi s5.1), (42, vs x14), (46, vs x15), (47, .eref 1000000 1 (Int.toNat s5.1) 0)], [(1000000, oa 9 1 eS s5.2)]⟩) (by kernel_rfl)) Le.sub0) (by kernel_rfl) d33, (List.forall_mem_cons.2 ⟨DEs.mk (i := 15) (L' := #[true, true, true, true, false, true, true, true, true, true, true, true, true, true, true, true, false, false]) rfl (EStep.le (x_store_own (d := 1000000) (m := 1) (j := 0) (L := s5.2) (f := eS) (x := x14) (z := x16) (ti := ti9) (e := 9) (ts := [.str x14]) (vs := [vs x14]) (v := vs x14) tbok rfl rfl hx16) Le.sub0) (by kernel_rfl) d34, (fun _ h => absurd h List.not_mem_nil)⟩)⟩)
  refine DE.share (fuel := 4) (L := #[true, true, true, true, true, true, true, true, true, true, true, true, true, true, false, false, false, false]) (σ := ⟨49, [(0, .own 1000000), (1, vi aA), (2, vi aB), (6, vi s1.1), (7, vi s5.1), (33, .own 1000000), (34, vi s5.1), (35, .own 1000000), (37, vi (w64 (s5.1 - 1))), (42, vs x14), (46, vs x15)], [(1000000, oa 9 1 eS s5.2)]⟩) ?_ (fun d31 => ?_)
  exact DE.all [14] (by kernel_rfl) (by simp) (List.forall_mem_cons.2 ⟨DEs.mk (i := 14) (L' := #[true, true, true, true, true, true, true, true, true, true, true, true, true, true, true, false, false, false]) rfl (EStep.le (EStep.ofL (x_index_own (d := 1000000) (L := s5.2) (f := eS) (ti := ti28) (tj := ti9) (e := 9) (e' := 9) (m := 1) (k := .i64) tbok rfl hx16) (by kernel_rfl)) Le.sub0) (by kernel_rfl) d33, (fun _ h => absurd h List.not_mem_nil)⟩)
  refine DE.share (fuel := 5) (L := #[true, true, true, true, false, true, true, true, true, true, true, true, true, true, false, false, false, false]) (σ := ⟨49, [(0, .own 1000000), (1, vi aA), (2, vi aB), (6, vi s1.1), (7, vi s5.1), (33, .own 1000000), (34, vi s5.1), (35, .own 1000000), (36, vi s5.1), (42, vs x14), (46, vs x15)], [(1000000, oa 9 1 eS s5.2)]⟩) ?_ (fun d30 => ?_)
  exact DE.all [4, 14] (by kernel_rfl) (by simp) (List.forall_mem_cons.2 ⟨DEs.mk (i := 4) (L' := #[true, true, true, true, true, true, true, true, true, true, true, true, true, true, false, false, false, false]) rfl (EStep.le (EStep.ofN2 tbok (σ' := ⟨49, [(37, vi (w64 (s5.1 - 1))), (0, .own 1000000), (1, vi aA), (2, vi aB), (6, vi s1.1), (7, vi s5.1), (33, .own 1000000), (34, vi s5.1), (35, .own 1000000), (36, vi s5.1), (42, vs x14), (46, vs x15)], [(1000000, oa 9 1 eS s5.2)]⟩) (by kernel_rfl)) Le.sub0) (by kernel_rfl) d31, (List.forall_mem_cons.2 ⟨DEs.mk (i := 14) (L' := #[true, true, true, true, false, true, true, true, true, true, true, true, true, true, true, false, false, false]) rfl (EStep.le (EStep.ofL (x_index_own (d := 1000000) (L := s5.2) (f := eS) (ti := ti28) (tj := ti9) (e := 9) (e' := 9) (m := 1) (k := .i64) tbok rfl hx16) (by kernel_rfl)) Le.sub0) (by kernel_rfl) d32, (fun _ h => absurd h List.not_mem_nil)⟩)⟩)
  refine DE.share (fuel := 5) (L := #[true, true, true, true, true, true, true, true, true, false, true, true, true, true, false, false, false, false]) (σ := ⟨49, [(0, .own 1000000), (1, vi aA), (2, vi aB), (6, vi s1.1), (7, vi s5.1), (33, .own 1000000), (34, vi s5.1), (35, .own 1000000), (37, vi (w64 (s5.1 - 1))), (41, .eref 1000000 1 (Int.toNat (w64 (s5.1 - 1))) 0), (46, vs x15)], [(1000000, oa 9 1 eS s5.2)]⟩) ?_ (fun d29 => ?_)
  exact DE.all [9] (by kernel_rfl) (by simp) (List.forall_mem_cons.2 ⟨DEs.mk (i := 9) (L' := #[true, true, true, true, true, true, true, true, true, true, true, true, true, true, false, false, false, false]) rfl (EStep.le (EStep.ofL (x_load_own (d := 1000000) (m := 1) (j := 0) (L := s5.2) (f := eS) (ti := ti9) (e := 9) (v := vs x14) tbok rfl hx14) (by kernel_rfl)) Le.sub0) (by kernel_rfl) d31, (fun _ h => absurd h List.not_mem_nil)⟩)
  refine DE.share (fuel := 5) (L := #[true, true, true, true, true, true, true, true, true, true, true, true, true, false, false, false, false, false]) (σ := ⟨49, [(0, .own 1000000), (1, vi aA), (2, vi aB), (6, vi s1.1), (7, vi s5.1), (33, .own 1000000), (34, vi s5.1), (35, .own 1000000), (37, vi (w64 (s5.1 - 1))), (42, vs x14), (45, .eref 1000000 1 (Int.toNat s5.1) 0)], [(1000000, oa 9 1 eS s5.2)]⟩) ?_ (fun d28 => ?_)
  exact DE.all [13] (by kernel_rfl) (by simp) (List.forall_mem_cons.2 ⟨DEs.mk (i := 13) (L' := #[true, true, true, true, true, true, true, true, true, true, true, true, true, true, false, false, false, false]) rfl (EStep.le (EStep.ofL (x_load_own (d := 1000000) (m := 1) (j := 0) (L := s5.2) (f := eS) (ti := ti9) (e := 9) (v := vs x15) tbok rfl hx15) (by kernel_rfl)) Le.sub0) (by kernel_rfl) d31, (fun _ h => absurd h List.not_mem_nil)⟩)
  refine DE.share (fuel := 6) (L := #[true, true, true, true, false, true, true, true, true, false, true, true, true, true, false, false, false, false]) (σ := ⟨49, [(0, .own 1000000), (1, vi aA), (2, vi aB), (6, vi s1.1), (7, vi s5.1), (33, .own 1000000), (34, vi s5.1), (35, .own 1000000), (36, vi s5.1), (41, .eref 1000000 1 (Int.toNat (w64 (s5.1 - 1))) 0), (46, vs x15)], [(1000000, oa 9 1 eS s5.2)]⟩) ?_ (fun d27 => ?_)
  exact DE.all [4, 9] (by kernel_rfl) (by simp) (List.forall_mem_cons.2 ⟨DEs.mk (i := 4) (L' := #[true, true, true, true, true, true, true, true, true, false, true, true, true, true, false, false, false, false]) rfl (EStep.le (EStep.ofN2 tbok (σ' := ⟨49, [(37, vi (w64 (s5.1 - 1))), (0, .own 1000000), (1, vi aA), (2, vi aB), (6, vi s1.1), (7, vi s5.1), (33, .own 1000000), (34, vi s5.1), (35, .own 1000000), (36, vi s5.1), (41, .eref 1000000 1 (Int.toNat (w64 (s5.1 - 1))) 0), (46, vs x15)], [(1000000, oa 9 1 eS s5.2)]⟩) (by kernel_rfl)) Le.sub0) (by kernel_rfl) d29, (List.forall_mem_cons.2 ⟨DEs.mk (i := 9) (L' := #[true, true, true, true, false, true, true, true, true, true, true, true, true, true, false, false, false, false]) rfl (EStep.le (EStep.ofL (x_load_own (d := 1000000) (m := 1) (j := 0) (L := s5.2) (f := eS) (ti := ti9) (e := 9) (v := vs x14) tbok rfl hx14) (by kernel_rfl)) Le.sub0) (by kernel_rfl) d30, (fun _ h => absurd h List.not_mem_nil)⟩)⟩)
  refine DE.share (fuel := 6) (L := #[true, true, true, true, false, true, true, true, true, true, true, true, true, false, false, false, false, false]) (σ := ⟨49, [(0, .own 1000000), (1, vi aA), (2, vi aB), (6, vi s1.1), (7, vi s5.1), (33, .own 1000000), (34, vi s5.1), (35, .own 1000000), (36, vi s5.1), (42, vs x14), (45, .eref 1000000 1 (Int.toNat s5.1) 0)], [(1000000, oa 9 1 eS s5.2)]⟩) ?_ (fun d26 => ?_)
  exact DE.all [4, 13] (by kernel_rfl) (by simp) (List.forall_mem_cons.2 ⟨DEs.mk (i := 4) (L' := #[true, true, true, true, true, true, true, true, true, true, true, true, true, false, false, false, false, false]) rfl (EStep.le (EStep.ofN2 tbok (σ' := ⟨49, [(37, vi (w64 (s5.1 - 1))), (0, .own 1000000), (1, vi aA), (2, vi aB), (6, vi s1.1), (7, vi s5.1), (33, .own 1000000), (34, vi s5.1), (35, .own 1000000), (36, vi s5.1), (42, vs x14), (45, .eref 1000000 1 (Int.toNat s5.1) 0)], [(1000000, oa 9 1 eS s5.2)]⟩) (by kernel_rfl)) Le.sub0) (by kernel_rfl) d28, (List.forall_mem_cons.2 ⟨DEs.mk (i := 13) (L' := #[true, true, true, true, false, true, true, true, true, true, true, true, true, true, false, false, false, false]) rfl (EStep.le (EStep.ofL (x_load_own (d := 1000000) (m := 1) (j := 0) (L := s5.2) (f := eS) (ti := ti9) (e := 9) (v := vs x15) tbok rfl hx15) (by kernel_rfl)) Le.sub0) (by kernel_rfl) d30, (fun _ h => absurd h List.not_mem_nil)⟩)⟩)
  refine DE.share (fuel := 6) (L := #[true, true, true, true, true, true, true, true, false, false, true, true, true, true, false, false, false, false]) (σ := ⟨49, [(0, .own 1000000), (1, vi aA), (2, vi aB), (6, vi s1.1), (7, vi s5.1), (33, .own 1000000), (34, vi s5.1), (35, .own 1000000), (37, vi (w64 (s5.1 - 1))), (38, .own 1000000), (40, vi (w64 (s5.1 - 1))), (46, vs x15)], [(1000000, oa 9 1 eS s5.2)]⟩) ?_ (fun d25 => ?_)
  exact DE.all [8] (by kernel_rfl) (by simp) (List.forall_mem_cons.2 ⟨DEs.mk (i := 8) (L' := #[true, true, true, true, true, true, true, true, true, false, true, true, true, true, false, false, false, false]) rfl (EStep.le (EStep.ofL (x_index_own (d := 1000000) (L := s5.2) (f := eS) (ti := ti28) (tj := ti9) (e := 9) (e' := 9) (m := 1) (k := .i64) tbok rfl hx14) (by kernel_rfl)) Le.sub0) (by kernel_rfl) d29, (fun _ h => absurd h List.not_mem_nil)⟩)
  refine DE.share (fuel := 6) (L := #[true, true, true, true, true, true, true, true, true, false, true, true, true, false, false, false, false, false]) (σ := ⟨49, [(0, .own 1000000), (1, vi aA), (2, vi aB), (6, vi s1.1), (7, vi s5.1), (33, .own 1000000), (34, vi s5.1), (35, .own 1000000), (37, vi (w64 (s5.1 - 1))), (41, .eref 1000000 1 (Int.toNat (w64 (s5.1 - 1))) 0), (45, .eref 1000000 1 (Int.toNat s5.1) 0)], [(1000000, oa 9 1 eS s5.2)]⟩) ?_ (fun d24 => ?_)
  exact DE.all [9, 13] (by kernel_rfl) (by simp) (List.forall_mem_cons.2 ⟨DEs.mk (i := 9) (L' := #[true, true, true, true, true, true, true, true, true, true, true, true, true, false, false, false, false, false]) rfl (EStep.le (EStep.ofL (x_load_own (d := 1000000) (m := 1) (j := 0) (L := s5.2) (f := eS) (ti := ti9) (e := 9) (v := vs x14) tbok rfl hx14) (by kernel_rfl)) Le.sub0) (by kernel_rfl) d28, (List.forall_mem_cons.2 ⟨DEs.mk (i := 13) (L' := #[true, true, true, true, true, true, true, true, true, false, true, true, true, true, false, false, false, false]) rfl (EStep.le (EStep.ofL (x_load_own (d := 1000000) (m := 1) (j := 0) (L := s5.2) (f := eS) (ti := ti9) (e := 9) (v := vs x15) tbok rfl hx15) (by kernel_rfl)) Le.sub0) (by kernel_rfl) d29, (fun _ h => absurd h List.not_mem_nil)⟩)⟩)
  refine DE.share (fuel := 6) (L := #[true, true, true, true, true, true, true, true, true, true, true, true, false, false, false, false, false, false]) (σ := ⟨49, [(0, .own 1000000), (1, vi aA), (2, vi aB), (6, vi s1.1), (7, vi s5.1), (33, .own 1000000), (34, vi s5.1), (35, .own 1000000), (37, vi (w64 (s5.1 - 1))), (42, vs x14), (43, .own 1000000), (44, vi s5.1)], [(1000000, oa 9 1 eS s5.2)]⟩) ?_ (fun d23 => ?_)
  exact DE.all [12] (by kernel_rfl) (by simp) (List.forall_mem_cons.2 ⟨DEs.mk (i := 12) (L' := #[true, true, true, true, true, true, true, true, true, true, true, true, true, false, false, false, false, false]) rfl (EStep.le (EStep.ofL (x_index_own (d := 1000000) (L := s5.2) (f := eS) (ti := ti28) (tj := ti9) (e := 9) (e' := 9) (m := 1) (k := .i64) tbok rfl hx15) (by kernel_rfl)) Le.sub0) (by kernel_rfl) d28, (fun _ h => absurd h List.not_mem_nil)⟩)
  refine DE.share (fuel := 7) (L := #[true, true, true, true, false, true, true, true, false, false, true, true, true, true, false, false, false, false]) (σ := ⟨49, [(0, .own 1000000), (1, vi aA), (2, vi aB), (6, vi s1.1), (7, vi s5.1), (33, .own 1000000), (34, vi s5.1), (35, .own 1000000), (36, vi s5.1), (38, .own 1000000), (40, vi (w64 (s5.1 - 1))), (46, vs x15)], [(1000000, oa 9 1 eS s5.2)]⟩) ?_ (fun d22 => ?_)
  exact DE.all [4, 8] (by kernel_rfl) (by simp) (List.forall_mem_cons.2 ⟨DEs.mk (i := 4) (L' := #[true, true, true, true, true, true, true, true, false, false, true, true, true, true, false, false, false, false]) rfl (EStep.le (EStep.ofN2 tbok (σ' := ⟨49, [(37, vi (w64 (s5.1 - 1))), (0, .own 1000000), (1, vi aA), (2, vi aB), (6, vi s1.1), (7, vi s5.1), (33, .own 1000000), (34, vi s5.1), (35, .own 1000000), (36, vi s5.1), (38, .own 1000000), (40, vi (w64 (s5.1 - 1))), (46, vs x15)], [(1000000, oa 9 1 eS s5.2)]⟩) (by kernel_rfl)) Le.sub0) (by kernel_rfl) d25, (List.forall_mem_cons.2 ⟨DEs.mk (i := 8) (L' := #[true, true, true, true, false, true, true, true, true, false, true, true, true, true, false, false, false, false]) rfl (EStep.le (EStep.ofL (x_index_own (d := 1000000) (L := s5.2) (f := eS) (ti := ti28) (tj := ti9) (e := 9) (e' := 9) (m := 1) (k := .i64) tbok rfl hx14) (by kernel_rfl)) Le.sub0) (by kernel_rfl) d27, (fun _ h => absurd h List.not_mem_nil)⟩)⟩)
  refine DE.share (fuel := 7) (L := #[true, true, true, true, false, true, true, true, true, false, true, true, true, false, false, false, false, false]) (σ := ⟨49, [(0, .own 1000000), (1, vi aA), (2, vi aB), (6, vi s1.1), (7, vi s5.1), (33, .own 1000000), (34, vi s5.1), (35, .own 1000000), (36, vi s5.1), (41, .eref 1000000 1 (Int.toNat (w64 (s5.1 - 1))) 0), (45, .eref 1000000 1 (Int.toNat s5.1) 0)], [(1000000, oa 9 1 eS s5.2)]⟩) ?_ (fun d21 => ?_)
  exact DE.all [4, 9, 13] (by kernel_rfl) (by simp) (List.forall_mem_cons.2 ⟨DEs.mk (i := 4) (L' := #[true, true, true, true, true, true, true, true, true, false, true, true, true, false, false, false, false, false]) rfl (EStep.le (EStep.ofN2 tbok (σ' := ⟨49, [(37, vi (w64 (s5.1 - 1))), (0, .own 1000000), (1, vi aA), (2, vi aB), (6, vi s1.1), (7, vi s5.1), (33, .own 1000000), (34, vi s5.1), (35, .own 1000000), (36, vi s5.1), (41, .eref 1000000 1 (Int.toNat (w64 (s5.1 - 1))) 0), (45, .eref 1000000 1 (Int.toNat s5.1) 0)], [(1000000, oa 9 1 eS s5.2)]⟩) (by kernel_rfl)) Le.sub0) (by kernel_rfl) d24, (List.forall_mem_cons.2 ⟨DEs.mk (i := 9) (L' := #[true, true, true, true, false, true, true, true, true, true, true, true, true, false, false, false, false, false]) rfl (EStep.le (EStep.ofL (x_load_own (d := 1000000) (m := 1) (j := 0) (L := s5.2) (f := eS) (ti := ti9) (e := 9) (v := vs x14) tbok rfl hx14) (by kernel_rfl)) Le.sub0) (by kernel_rfl) d26, (List.forall_mem_cons.2 ⟨DEs.mk (i := 13) (L' := #[true, true, true, true, false, true, true, true, true, false, true, true, true, true, false, false, false, false]) rfl (EStep.le (EStep.ofL (x_load_own (d := 1000000) (m := 1) (j := 0) (L := s5.2) (f := eS) (ti := ti9) (e := 9) (v := vs x15) tbok rfl hx15) (by kernel_rfl)) Le.sub0) (by kernel_rfl) d27, (fun _ h => absurd h List.not_mem_nil)⟩)⟩)⟩)
  refine DE.share (fuel := 7) (L := #[true, true, true, true, false, true, true, true, true, true, true, true, false, false, false, false, false, false]) (σ := ⟨49, [(0, .own 1000000), (1, vi aA), (2, vi aB), (6, vi s1.1), (7, vi s5.1), (33, .own 1000000), (34, vi s5.1), (35, .own 1000000), (36, vi s5.1), (42, vs x14), (43, .own 1000000), (44, vi s5.1)], [(1000000, oa 9 1 eS s5.2)]⟩) ?_ (fun d20 => ?_)
  exact DE.all [4, 12] (by kernel_rfl) (by simp) (List.forall_mem_cons.2 ⟨DEs.mk (i := 4) (L' := #[true, true, true, true, true, true, true, true, true, true, true, true, false, false, false, false, false, false]) rfl (EStep.le (EStep.ofN2 tbok (σ' := ⟨49, [(37, vi (w64 (s5.1 - 1))), (0, .own 1000000), (1, vi aA), (2, vi aB), (6, vi s1.1), (7, vi s5.1), (33, .own 1000000), (34, vi s5.1), (35, .own 1000000), (36, vi s5.1), (42, vs x14), (43, .own 1000000), (44, vi s5.1)], [(1000000, oa 9 1 eS s5.2)]⟩) (by kernel_rfl)) Le.sub0) (by kernel_rfl) d23, (List.forall_mem_cons.2 ⟨DEs.mk (i := 12) (L' := #[true, true, true, true, false, true, true, true, true, true, true, true, true, false, false, false, false, false]) rfl (EStep.le (EStep.ofL (x_index_own (d := 1000000) (L := s5.2) (f := eS) (ti := ti28) (tj := ti9) (e := 9) (e' := 9) (m := 1) (k := .i64) tbok rfl hx15) (by kernel_rfl)) Le.sub0) (by kernel_rfl) d26, (fun _ h => absurd h List.not_mem_nil)⟩)⟩)
  refine DE.share (fuel := 7) (L := #[true, true, true, true, true, true, true, false, false, false, true, true, true, true, false, false, false, false]) (σ := ⟨49, [(0, .own 1000000), (1, vi aA), (2, vi aB), (6, vi s1.1), (7, vi s5.1), (33, .own 1000000), (34, vi s5.1), (35, .own 1000000), (37, vi (w64 (s5.1 - 1))), (38, .own 1000000), (39, vi s5.1), (46, vs x15)], [(1000000, oa 9 1 eS s5.2)]⟩) ?_ (fun d19 => ?_)
  exact DE.all [7] (by kernel_rfl) (by simp) (List.forall_mem_cons.2 ⟨DEs.mk (i := 7) (L' := #[true, true, true, true, true, true, true, true, false, false, true, true, true, true, false, false, false, false]) rfl (EStep.le (EStep.ofN2 tbok (σ' := ⟨49, [(40, vi (w64 (s5.1 - 1))), (0, .own 1000000), (1, vi aA), (2, vi aB), (6, vi s1.1), (7, vi s5.1), (33, .own 1000000), (34, vi s5.1), (35, .own 1000000), (37, vi (w64 (s5.1 - 1))), (38, .own 1000000), (39, vi s5.1), (46, vs x15)], [(1000000, oa 9 1 eS s5.2)]⟩) (by kernel_rfl)) Le.sub0) (by kernel_rfl) d25, (fun _ h => absurd h List.not_mem_nil)⟩)
  refine DE.share (fuel := 7) (L := #[true, true, true, true, true, true, true, true, false, false, true, true, true, false, false, false, false, false]) (σ := ⟨49, [(0, .own 1000000), (1, vi aA), (2, vi aB), (6, vi s1.1), (7, vi s5.1), (33, .own 1000000), (34, vi s5.1), (35, .own 1000000), (37, vi (w64 (s5.1 - 1))), (38, .own 1000000), (40, vi (w64 (s5.1 - 1))), (45, .eref 1000000 1 (Int.toNat s5.1) 0)], [(1000000, oa 9 1 eS s5.2)]⟩) ?_ (fun d18 => ?_)
  exact DE.all [8, 13] (by kernel_rfl) (by simp) (List.forall_mem_cons.2 ⟨DEs.mk (i := 8) (L' := #[true, true, true, true, true, true, true, true, true, false, true, true, true, false, false, false, false, false]) rfl (EStep.le (EStep.ofL (x_index_own (d := 1000000) (L := s5.2) (f := eS) (ti := ti28) (tj := ti9) (e := 9) (e' := 9) (m := 1) (k := .i64) tbok rfl hx14) (by kernel_rfl)) Le.sub0) (by kernel_rfl) d24, (List.forall_mem_cons.2 ⟨DEs.mk (i := 13) (L' := #[true, true, true, true, true, true, true, true, false, false, true, true, true, true, false, false, false, false]) rfl (EStep.le (EStep.ofL (x_load_own (d := 1000000) (m := 1) (j := 0) (L := s5.2) (f := eS) (ti := ti9) (e := 9) (v := vs x15) tbok rfl hx15) (by kernel_rfl)) Le.sub0) (by kernel_rfl) d25, (fun _ h => absurd h List.not_mem_nil)⟩)⟩)
  refine DE.share (fuel := 7) (L := #[true, true, true, true, true, true, true, true, true, false, true, true, false, false, false, false, false, false]) (σ := ⟨49, [(0, .own 1000000), (1, vi aA), (2, vi aB), (6, vi s1.1), (7, vi s5.1), (33, .own 1000000), (34, vi s5.1), (35, .own 1000000), (37, vi (w64 (s5.1 - 1))), (41, .eref 1000000 1 (Int.toNat (w64 (s5.1 - 1))) 0), (43, .own 1000000), (44, vi s5.1)], [(1000000, oa 9 1 eS s5.2)]⟩) ?_ (fun d17 => ?_)
  exact DE.all [9, 12] (by kernel_rfl) (by simp) (List.forall_mem_cons.2 ⟨DEs.mk (i := 9) (L' := #[true, true, true, true, true, true, true, true, true, true, true, true, false, false, false, false, false, false]) rfl (EStep.le (EStep.ofL (x_load_own (d := 1000000) (m := 1) (j := 0) (L := s5.2) (f := eS) (ti := ti9) (e := 9) (v := vs x14) tbok rfl hx14) (by kernel_rfl)) Le.sub0) (by kernel_rfl) d23, (List.forall_mem_cons.2 ⟨DEs.mk (i := 12) (L' := #[true, true, true, true, true, true, true, true, true, false, true, true, true, false, false, false, false, false]) rfl (EStep.le (EStep.ofL (x_index_own (d := 1000000) (L := s5.2) (f := eS) (ti := ti28) (tj := ti9) (e := 9) (e' := 9) (m := 1) (k := .i64) tbok rfl hx15) (by kernel_rfl)) Le.sub0) (by kernel_rfl) d24, (fun _ h => absurd h List.not_mem_nil)⟩)⟩)
  refine DE.share (fuel := 8) (L := #[true, true, true, true, false, true, true, false, false, false, true, true, true, true, false, false, false, false]) (σ := ⟨49, [(0, .own 1000000), (1, vi aA), (2, vi aB), (6, vi s1.1), (7, vi s5.1), (33, .own 1000000), (34, vi s5.1), (35, .own 1000000), (36, vi s5.1), (38, .own 1000000), (39, vi s5.1), (46, vs x15)], [(1000000, oa 9 1 eS s5.2)]⟩) ?_ (fun d16 => ?_)
  exact DE.all [4, 7] (by kernel_rfl) (by simp) (List.forall_mem_cons.2 ⟨DEs.mk (i := 4) (L' := #[true, true, true, true, true, true, true, false, false, false, true, true, true, true, false, false, false, false]) rfl (EStep.le (EStep.ofN2 tbok (σ' := ⟨49, [(37, vi (w64 (s5.1 - 1))), (0, .own 1000000), (1, vi aA), (2, vi aB), (6, vi s1.1), (7, vi s5.1), (33, .own 1000000), (34, vi s5.1), (35, .own 1000000), (36, vi s5.1), (38, .own 1000000), (39, vi s5.1), (46, vs x15)], [(1000000, oa 9 1 eS s5.2)]⟩) (by kernel_rfl)) Le.sub0) (by kernel_rfl) d19, (List.forall_mem_cons.2 ⟨DEs.mk (i := 7) (L' := #[true, true, true, true, false, true, true, true, false, false, true, true, true, true, false, false, false, false]) rfl (EStep.le (EStep.ofN2 tbok (σ' := ⟨49, [(40, vi (w64 (s5.1 - 1))), (0, .own 1000000), (1, vi aA), (2, vi aB), (6, vi s1.1), (7, vi s5.1), (33, .own 1000000), (34, vi s5.1), (35, .own 1000000), (36, vi s5.1), (38, .own 1000000), (39, vi s5.1), (46, vs x15)], [(1000000, oa 9 1 eS s5.2)]⟩) (by kernel_rfl)) Le.sub0) (by kernel_rfl) d22, (fun _ h => absurd h List.not_mem_nil)⟩)⟩)
  refine DE.share (fuel := 8) (L := #[true, true, true, true, false, true, true, true, false, false, true, true, true, false, false, false, false, false]) (σ := ⟨49, [(0, .own 1000000), (1, vi aA), (2, vi aB), (6, vi s1.1), (7, vi s5.1), (33, .own 1000000), (34, vi s5.1), (35, .own 1000000), (36, vi s5.1), (38, .own 1000000), (40, vi (w64 (s5.1 - 1))), (45, .eref 1000000 1 (Int.toNat s5.1) 0)], [(1000000, oa 9 1 eS s5.2)]⟩) ?_ (fun d15 => ?_)
  exact DE.all [4, 8, 13] (by kernel_rfl) (by simp) (List.forall_mem_cons.2 ⟨DEs.mk (i := 4) (L' := #[true, true, true, true, true, true, true, true, false, false, true, true, true, false, false, false, false, false]) rfl (EStep.le (EStep.ofN2 tbok (σ' := ⟨49, [(37, vi (w64 (s5.1 - 1))), (0, .own 1000000), (1, vi aA), (2, vi aB), (6, vi s1.1), (7, vi s5.1), (33, .own 1000000), (34, vi s5.1), (35, .own 1000000), (36, vi s5.1), (38, .own 1000000), (40, vi (w64 (s5.1 - 1))), (45, .eref 1000000 1 (Int.toNat s5.1) 0)], [(1000000, oa 9 1 eS s5.2)]⟩) (by kernel_rfl)) Le.sub0) (by kernel_rfl) d18, (List.forall_mem_cons.2 ⟨DEs.mk (i := 8) (L' := #[true, true, true, true, false, true, true, true, true, false, true, true, true, false, false, false, false, false]) rfl (EStep.le (EStep.ofL (x_index_own (d := 1000000) (L := s5.2) (f := eS) (ti := ti28) (tj := ti9) (e := 9) (e' := 9) (m := 1) (k := .i64) tbok rfl hx14) (by kernel_rfl)) Le.sub0) (by kernel_rfl) d21, (List.forall_mem_cons.2 ⟨DEs.mk (i := 13) (L' := #[true, true, true, true, false, true, true, true, false, false, true, true, true, true, false, false, false, false]) rfl (EStep.le (EStep.ofL (x_load_own (d := 1000000) (m := 1) (j := 0) (L := s5.2) (f := eS) (ti := ti9) (e := 9) (v := vs x15) tbok rfl hx15) (by kernel_rfl)) Le.sub0) (by kernel_rfl) d22, (fun _ h => absurd h List.not_mem_nil)⟩)⟩)⟩)
  refine DE.share (fuel := 8) (L := #[true, true, true, true, false, true, true, true, true, false, true, true, false, false, false, false, false, false]) (σ := ⟨49, [(0, .own 1000000), (1, vi aA), (2, vi aB), (6, vi s1.1), (7, vi s5.1), (33, .own 1000000), (34, vi s5.1), (35, .own 1000000), (36, vi s5.1), (41, .eref 1000000 1 (Int.toNat (w64 (s5.1 - 1))) 0), (43, .own 1000000), (44, vi s5.1)], [(1000000, oa 9 1 eS s5.2)]⟩) ?_ (fun d14 => ?_)
  exact DE.all [4, 9, 12] (by kernel_rfl) (by simp) (List.forall_mem_cons.2 ⟨DEs.mk (i := 4) (L' := #[true, true, true, true, true, true, true, true, true, false, true, true, false, false, false, false, false, false]) rfl (EStep.le (EStep.ofN2 tbok (σ' := ⟨49, [(37, vi (w64 (s5.1 - 1))), (0, .own 1000000), (1, vi aA), (2, vi aB), (6, vi s1.1), (7, vi s5.1), (33, .own 1000000), (34, vi s5.1), (35, .own 1000000), (36, vi s5.1), (41, .eref 1000000 1 (Int.toNat (w64 (s5.1 - 1))) 0), (43, .own 1000000), (44, vi s5.1)], [(1000000, oa 9 1 eS s5.2)]⟩) (by kernel_rfl)) Le.sub0) (by kernel_rfl) d17, (List.forall_mem_cons.2 ⟨DEs.mk (i := 9) (L' := #[true, true, true, true, false, true, true, true, true, true, true, true, false, false, false, false, false, false]) rfl (EStep.le (EStep.ofL (x_load_own (d := 1000000) (m := 1) (j := 0) (L := s5.2) (f := eS) (ti := ti9) (e := 9) (v := vs x14) tbok rfl hx14) (by kernel_rfl)) Le.sub0) (by kernel_rfl) d20, (List.forall_mem_cons.2 ⟨DEs.mk (i := 12) (L' := #[true, true, true, true, false, true, true, true, true, false, true, true, true, false, false, false, false, false]) rfl (EStep.le (EStep.ofL (x_index_own (d := 1000000) (L := s5.2) (f := eS) (ti := ti28) (tj := ti9) (e := 9) (e' := 9) (m := 1) (k := .i64) tbok rfl hx15) (by kernel_rfl)) Le.sub0) (by kernel_rfl) d21, (fun _ h => absurd h List.not_mem_nil)⟩)⟩)⟩)
  refine DE.share (fuel := 8) (L := #[true, true, true, true, true, true, true, false, false, false, true, true, true, false, false, false, false, false]) (σ := ⟨49, [(0, .own 1000000), (1, vi aA), (2, vi aB), (6, vi s1.1), (7, vi s5.1), (33, .own 1000000), (34, vi s5.1), (35, .own 1000000), (37, vi (w64 (s5.1 - 1))), (38, .own 1000000), (39, vi s5.1), (45, .eref 1000000 1 (Int.toNat s5.1) 0)], [(1000000, oa 9 1 eS s5.2)]⟩) ?_ (fun d13 => ?_)
  exact DE.all [7, 13] (by kernel_rfl) (by simp) (List.forall_mem_cons.2 ⟨DEs.mk (i := 7) (L' := #[true, true, true, true, true, true, true, true, false, false, true, true, true, false, false, false, false, false]) rfl (EStep.le (EStep.ofN2 tbok (σ' := ⟨49, [(40, vi (w64 (s5.1 - 1))), (0, .own 1000000), (1, vi aA), (2, vi aB), (6, vi s1.1), (7, vi s5.1), (33, .own 1000000), (34, vi s5.1), (35, .own 1000000), (37, vi (w64 (s5.1 - 1))), (38, .own 1000000), (39, vi s5.1), (45, .eref 1000000 1 (Int.toNat s5.1) 0)], [(1000000, oa 9 1 eS s5.2)]⟩) (by kernel_rfl)) Le.sub0) (by kernel_rfl) d18, (List.forall_mem_cons.2 ⟨DEs.mk (i := 13) (L' := #[true, true, true, true, true, true, true, false, false, false, true, true, true, true, false, false, false, false]) rfl (EStep.le (EStep.ofL (x_load_own (d := 1000000) (m := 1) (j := 0) (L := s5.2) (f := eS) (ti := ti9) (e := 9) (v := vs x15) tbok rfl hx15) (by kernel_rfl)) Le.sub0) (by kernel_rfl) d19, (fun _ h => absurd h List.not_mem_nil)⟩)⟩)
  refine DE.share (fuel := 8) (L := #[true, true, true, true, true, true, true, true, false, false, true, true, false, false, false, false, false, false]) (σ := ⟨49, [(0, .own 1000000), (1, vi aA), (2, vi aB), (6, vi s1.1), (7, vi s5.1), (33, .own 1000000), (34, vi s5.1), (35, .own 1000000), (37, vi (w64 (s5.1 - 1))), (38, .own 1000000), (40, vi (w64 (s5.1 - 1))), (43, .own 1000000), (44, vi s5.1)], [(1000000, oa 9 1 eS s5.2)]⟩) ?_ (fun d12 => ?_)
  exact DE.all [8, 12] (by kernel_rfl) (by simp) (List.forall_mem_cons.2 ⟨DEs.mk (i := 8) (L' := #[true, true, true, true, true, true, true, true, true, false, true, true, false, false, false, false, false, false]) rfl (EStep.le (EStep.ofL (x_index_own (d := 1000000) (L := s5.2) (f := eS) (ti := ti28) (tj := ti9) (e := 9) (e' := 9) (m := 1) (k := .i64) tbok rfl hx14) (by kernel_rfl)) Le.sub0) (by kernel_rfl) d17, (List.forall_mem_cons.2 ⟨DEs.mk (i := 12) (L' := #[true, true, true, true, true, true, true, true, false, false, true, true, true, false, false, false, false, false]) rfl (EStep.le (EStep.ofL (x_index_own (d := 1000000) (L := s5.2) (f := eS) (ti := ti28) (tj := ti9) (e := 9) (e' := 9) (m := 1) (k := .i64) tbok rfl hx15) (by kernel_rfl)) Le.sub0) (by kernel_rfl) d18, (fun _ h => absurd h List.not_mem_nil)⟩)⟩)
  refine DE.share (fuel := 9) (L := #[true, true, true, true, false, true, true, false, false, false, true, true, true, false, false, false, false, false]) (σ := ⟨49, [(0, .own 1000000), (1, vi aA), (2, vi aB), (6, vi s1.1), (7, vi s5.1), (33, .own 1000000), (34, vi s5.1), (35, .own 1000000), (36, vi s5.1), (38, .own 1000000), (39, vi s5.1), (45, .eref 1000000 1 (Int.toNat s5.1) 0)], [(1000000, oa 9 1 eS s5.2)]⟩) ?_ (fun d11 => ?_)
  exact DE.all [4, 7, 13] (by kernel_rfl) (by simp) (List.forall_mem_cons.2 ⟨DEs.mk (i := 4) (L' := #[true, true, true, true, true, true, true, false, false, false, true, true, true, false, false, false, false, false]) rfl (EStep.le (EStep.ofN2 tbok (σ' := ⟨49, [(37, vi (w64 (s5.1 - 1))), (0, .own 1000000), (1, vi aA), (2, vi aB), (6, vi s1.1), (7, vi s5.1), (33, .own 1000000), (34, vi s5.1), (35, .own 1000000), (36, vi s5.1), (38, .own 1000000), (39, vi s5.1), (45, .eref 1000000 1 (Int.toNat s5.1) 0)], [(1000000, oa 9 1 eS s5.2)]⟩) (by kernel_rfl)) Le.sub0) (by kernel_rfl) d13, (List.forall_mem_cons.2 ⟨DEs.mk (i := 7) (L' := #[true, true, true, true, false, true, true, true, false, false, true, true, true, false, false, false, false, false]) rfl (EStep.le (EStep.ofN2 tbok (σ' := ⟨49, [(40, vi (w64 (s5.1 - 1))), (0, .own 1000000), (1, vi aA), (2, vi aB), (6, vi s1.1), (7, vi s5.1), (33, .own 1000000), (34, vi s5.1), (35, .own 1000000), (36, vi s5.1), (38, .own 1000000), (39, vi s5.1), (45, .eref 1000000 1 (Int.toNat s5.1) 0)], [(1000000, oa 9 1 eS s5.2)]⟩) (by kernel_rfl)) Le.sub0) (by kernel_rfl) d15, (List.forall_mem_cons.2 ⟨DEs.mk (i := 13) (L' := #[true, true, true, true, false, true, true, false, false, false, true, true, true, true, false, false, false, false]) rfl (EStep.le (EStep.ofL (x_load_own (d := 1000000) (m := 1) (j := 0) (L := s5.2) (f := eS) (ti := ti9) (e := 9) (v := vs x15) tbok rfl hx15) (by kernel_rfl)) Le.sub0) (by kernel_rfl) d16, (fun _ h => absurd h List.not_mem_nil)⟩)⟩)⟩)
  refine DE.share (fuel := 9) (L := #[true, true, true, true, false, true, true, true, false, false, true, true, false, false, false, false, false, false]) (σ := ⟨49, [(0, .own 1000000), (1, vi aA), (2, vi aB), (6, vi s1.1), (7, vi s5.1), (33, .own 1000000), (34, vi s5.1), (35, .own 1000000), (36, vi s5.1), (38, .own 1000000), (40, vi (w64 (s5.1 - 1))), (43, .own 1000000), (44, vi s5.1)], [(1000000, oa 9 1 eS s5.2)]⟩) ?_ (fun d10 => ?_)
  exact DE.all [4, 8, 12] (by kernel_rfl) (by simp) (List.forall_mem_cons.2 ⟨DEs.mk (i := 4) (L' := #[true, true, true, true, true, true, true, true, false, false, true, true, false, false, false, false, false, false]) rfl (EStep.le (EStep.ofN2 tbok (σ' := ⟨49, [(37, vi (w64 (s5.1 - 1))), (0, .own 1000000), (1, vi aA), (2, vi aB), (6, vi s1.1), (7, vi s5.1), (33, .own 1000000), (34, vi s5.1), (35, .own 1000000), (36, vi s5.1), (38, .own 1000000), (40, vi (w64 (s5.1 - 1))), (43, .own 1000000), (44, vi s5.1)], [(1000000, oa 9 1 eS s5.2)]⟩) (by kernel_rfl)) Le.sub0) (by kernel_rfl) d12, (List.forall_mem_cons.2 ⟨DEs.mk (i := 8) (L' := #[true, true, true, true, false, true, true, true, true, false, true, true, false, false, false, false, false, false]) rfl (EStep.le (EStep.ofL (x_index_own (d := 1000000) (L := s5.2) (f := eS) (ti := ti28) (tj := ti9) (e := 9) (e' := 9) (m := 1) (k := .i64) tbok rfl hx14) (by kernel_rfl)) Le.sub0) (by kernel_rfl) d14, (List.forall_mem_cons.2 ⟨DEs.mk (i := 12) (L' := #[true, true, true, true, false, true, true, true, false, false, true, true, true, false, false, false, false, false]) rfl (EStep.le (EStep.ofL (x_index_own (d := 1000000) (L := s5.2) (f := eS) (ti := ti28) (tj := ti9) (e := 9) (e' := 9) (m := 1) (k := .i64) tbok rfl hx15) (by kernel_rfl)) Le.sub0) (by kernel_rfl) d15, (fun _ h => absurd h List.not_mem_nil)⟩)⟩)⟩)
  refine DE.share (fuel := 9) (L := #[true, true, true, true, true, true, true, false, false, false, true, true, false, false, false, false, false, false]) (σ := ⟨49, [(0, .own 1000000), (1, vi aA), (2, vi aB), (6, vi s1.1), (7, vi s5.1), (33, .own 1000000), (34, vi s5.1), (35, .own 1000000), (37, vi (w64 (s5.1 - 1))), (38, .own 1000000), (39, vi s5.1), (43, .own 1000000), (44, vi s5.1)], [(1000000, oa 9 1 eS s5.2)]⟩) ?_ (fun d9 => ?_)
  exact DE.all [7, 12] (by kernel_rfl) (by simp) (List.forall_mem_cons.2 ⟨DEs.mk (i := 7) (L' := #[true, true, true, true, true, true, true, true, false, false, true, true, false, false, false, false, false, false]) rfl (EStep.le (EStep.ofN2 tbok (σ' := ⟨49, [(40, vi (w64 (s5.1 - 1))), (0, .own 1000000), (1, vi aA), (2, vi aB), (6, vi s1.1), (7, vi s5.1), (33, .own 1000000), (34, vi s5.1), (35, .own 1000000), (37, vi (w64 (s5.1 - 1))), (38, .own 1000000), (39, vi s5.1), (43, .own 1000000), (44, vi s5.1)], [(1000000, oa 9 1 eS s5.2)]⟩) (by kernel_rfl)) Le.sub0) (by kernel_rfl) d12, (List.forall_mem_cons.2 ⟨DEs.mk (i := 12) (L' := #[true, true, true, true, true, true, true, false, false, false, true, true, true, false, false, false, false, false]) rfl (EStep.le (EStep.ofL (x_index_own (d := 1000000) (L := s5.2) (f := eS) (ti := ti28) (tj := ti9) (e := 9) (e' := 9) (m := 1) (k := .i64) tbok rfl hx15) (by kernel_rfl)) Le.sub0) (by kernel_rfl) d13, (fun _ h => absurd h List.not_mem_nil)⟩)⟩)
  refine DE.share (fuel := 10) (L := #[true, true, true, true, false, true, true, false, false, false, true, true, false, false, false, false, false, false]) (σ := ⟨49, [(0, .own 1000000), (1, vi aA), (2, vi aB), (6, vi s1.1), (7, vi s5.1), (33, .own 1000000), (34, vi s5.1), (35, .own 1000000), (36, vi s5.1), (38, .own 1000000), (39, vi s5.1), (43, .own 1000000), (44, vi s5.1)], [(1000000, oa 9 1 eS s5.2)]⟩) ?_ (fun d8 => ?_)
  exact DE.all [4, 7, 12] (by kernel_rfl) (by simp) (List.forall_mem_cons.2 ⟨DEs.mk (i := 4) (L' := #[true, true, true, true, true, true, true, false, false, false, true, true, false, false, false, false, false, false]) rfl (EStep.le (EStep.ofN2 tbok (σ' := ⟨49, [(37, vi (w64 (s5.1 - 1))), (0, .own 1000000), (1, vi aA), (2, vi aB), (6, vi s1.1), (7, vi s5.1), (33, .own 1000000), (34, vi s5.1), (35, .own 1000000), (36, vi s5.1), (38, .own 1000000), (39, vi s5.1), (43, .own 1000000), (44, vi s5.1)], [(1000000, oa 9 1 eS s5.2)]⟩) (by kernel_rfl)) Le.sub0) (by kernel_rfl) d9, (List.forall_mem_cons.2 ⟨DEs.mk (i := 7) (L' := #[true, true, true, true, false, true, true, true, false, false, true, true, false, false, false, false, false, false]) rfl (EStep.le (EStep.ofN2 tbok (σ' := ⟨49, [(40, vi (w64 (s5.1 - 1))), (0, .own 1000000), (1, vi aA), (2, vi aB), (6, vi s1.1), (7, vi s5.1), (33, .own 1000000), (34, vi s5.1), (35, .own 1000000), (36, vi s5.1), (38, .own 1000000), (39, vi s5.1), (43, .own 1000000), (44, vi s5.1)], [(1000000, oa 9 1 eS s5.2)]⟩) (by kernel_rfl)) Le.sub0) (by kernel_rfl) d10, (List.forall_mem_cons.2 ⟨DEs.mk (i := 12) (L' := #[true, true, true, true, false, true, true, false, false, false, true, true, true, false, false, false, false, false]) rfl (EStep.le (EStep.ofL (x_index_own (d := 1000000) (L := s5.2) (f := eS) (ti := ti28) (tj := ti9) (e := 9) (e' := 9) (m := 1) (k := .i64) tbok rfl hx15) (by kernel_rfl)) Le.sub0) (by kernel_rfl) d11, (fun _ h => absurd h List.not_mem_nil)⟩)⟩)⟩)
  refine DE.share (fuel := 11) (L := #[true, true, true, true, false, true, true, false, false, false, true, false, false, false, false, false, false, false]) (σ := ⟨49, [(0, .own 1000000), (1, vi aA), (2, vi aB), (6, vi s1.1), (7, vi s5.1), (33, .own 1000000), (34, vi s5.1), (35, .own 1000000), (36, vi s5.1), (38, .own 1000000), (39, vi s5.1), (43, .own 1000000)], [(1000000, oa 9 1 eS s5.2)]⟩) ?_ (fun d7 => ?_)
  exact DE.take (i := 11) (L' := #[true, true, true, true, false, true, true, false, false, false, true, true, false, false, false, false, false, false]) rfl (.inl rfl) rfl (by kernel_rfl) (by kernel_rfl) (by kernel_rfl) (EStep.le (EStep.ofN2 tbok (σ' := ⟨49, [(44, vi s5.1), (0, .own 1000000), (1, vi aA), (2, vi aB), (6, vi s1.1), (7, vi s5.1), (33, .own 1000000), (34, vi s5.1), (35, .own 1000000), (36, vi s5.1), (38, .own 1000000), (39, vi s5.1), (43, .own 1000000)], [(1000000, oa 9 1 eS s5.2)]⟩) (by kernel_rfl)) Le.sub0) (by kernel_rfl) d8
  refine DE.share (fuel := 12) (L := #[true, true, true, true, false, true, true, false, false, false, false, false, false, false, false, false, false, false]) (σ := ⟨49, [(0, .own 1000000), (1, vi aA), (2, vi aB), (6, vi s1.1), (7, vi s5.1), (33, .own 1000000), (34, vi s5.1), (35, .own 1000000), (36, vi s5.1), (38, .own 1000000), (39, vi s5.1)], [(1000000, oa 9 1 eS s5.2)]⟩) ?_ (fun d6 => ?_)
  exact DE.take (i := 10) (L' := #[true, true, true, true, false, true, true, false, false, false, true, false, false, false, false, false, false, false]) rfl (.inl rfl) rfl (by kernel_rfl) (by kernel_rfl) (by kernel_rfl) (EStep.le (EStep.ofN2 tbok (σ' := ⟨49, [(43, .own 1000000), (0, .own 1000000), (1, vi aA), (2, vi aB), (6, vi s1.1), (7, vi s5.1), (33, .own 1000000), (34, vi s5.1), (35, .own 1000000), (36, vi s5.1), (38, .own 1000000), (39, vi s5.1)], [(1000000, oa 9 1 eS s5.2)]⟩) (by kernel_rfl)) Le.sub0) (by kernel_rfl) d7
  refine DE.share (fuel := 13) (L := #[true, true, true, true, false, true, false, false, false, false, false, false, false, false, false, false, false, false]) (σ := ⟨49, [(0, .own 1000000), (1, vi aA), (2, vi aB), (6, vi s1.1), (7, vi s5.1), (33, .own 1000000), (34, vi s5.1), (35, .own 1000000), (36, vi s5.1), (38, .own 1000000)], [(1000000, oa 9 1 eS s5.2)]⟩) ?_ (fun d5 => ?_)
  exact DE.take (i := 6) (L' := #[true, true, true, true, false, true, true, false, false, false, false, false, false, false, false, false, false, false]) rfl (.inl rfl) rfl (by kernel_rfl) (by kernel_rfl) (by kernel_rfl) (EStep.le (EStep.ofN2 tbok (σ' := ⟨49, [(39, vi s5.1), (0, .own 1000000), (1, vi aA), (2, vi aB), (6, vi s1.1), (7, vi s5.1), (33, .own 1000000), (34, vi s5.1), (35, .own 1000000), (36, vi s5.1), (38, .own 1000000)], [(1000000, oa 9 1 eS s5.2)]⟩) (by kernel_rfl)) Le.sub0) (by kernel_rfl) d6
  refine DE.share (fuel := 14) (L := #[true, true, true, true, false, false, false, false, false, false, false, false, false, false, false, false, false, false]) (σ := ⟨49, [(0, .own 1000000), (1, vi aA), (2, vi aB), (6, vi s1.1), (7, vi s5.1), (33, .own 1000000), (34, vi s5.1), (35, .own 1000000), (36, vi s5.1)], [(1000000, oa 9 1 eS s5.2)]⟩) ?_ (fun d4 => ?_)
  exact DE.take (i := 5) (L' := #[true, true, true, true, false, true, false, false, false, false, false, false, false, false, false, false, false, false]) rfl (.inl rfl) rfl (by kernel_rfl) (by kernel_rfl) (by kernel_rfl) (EStep.le (EStep.ofN2 tbok (σ' := ⟨49, [(38, .own 1000000), (0, .own 1000000), (1, vi aA), (2, vi aB), (6, vi s1.1), (7, vi s5.1), (33, .own 1000000), (34, vi s5.1), (35, .own 1000000), (36, vi s5.1)], [(1000000, oa 9 1 eS s5.2)]⟩) (by kernel_rfl)) Le.sub0) (by kernel_rfl) d5
  refine DE.share (fuel := 15) (L := #[true, true, true, false, false, false, false, false, false, false, false, false, false, false, false, false, false, false]) (σ := ⟨49, [(0, .own 1000000), (1, vi aA), (2, vi aB), (6, vi s1.1), (7, vi s5.1), (33, .own 1000000), (34, vi s5.1), (35, .own 1000000)], [(1000000, oa 9 1 eS s5.2)]⟩) ?_ (fun d3 => ?_)
  exact DE.take (i := 3) (L' := #[true, true, true, true, false, false, false, false, false, false, false, false, false, false, false, false, false, false]) rfl (.inl rfl) rfl (by kernel_rfl) (by kernel_rfl) (by kernel_rfl) (EStep.le (EStep.ofN2 tbok (σ' := ⟨49, [(36, vi s5.1), (0, .own 1000000), (1, vi aA), (2, vi aB), (6, vi s1.1), (7, vi s5.1), (33, .own 1000000), (34, vi s5.1), (35, .own 1000000)], [(1000000, oa 9 1 eS s5.2)]⟩) (by kernel_rfl)) Le.sub0) (by kernel_rfl) d4
  refine DE.share (fuel := 16) (L := #[true, true, false, false, false, false, false, false, false, false, false, false, false, false, false, false, false, false]) (σ := ⟨49, [(0, .own 1000000), (1, vi aA), (2, vi aB), (6, vi s1.1), (7, vi s5.1), (33, .own 1000000), (34, vi s5.1)], [(1000000, oa 9 1 eS s5.2)]⟩) ?_ (fun d2 => ?_)
  exact DE.take (i := 2) (L' := #[true, true, true, false, false, false, false, false, false, false, false, false, false, false, false, false, false, false]) rfl (.inl rfl) rfl (by kernel_rfl) (by kernel_rfl) (by kernel_rfl) (EStep.le (EStep.ofN2 tbok (σ' := ⟨49, [(35, .own 1000000), (0, .own 1000000), (1, vi aA), (2, vi aB), (6, vi s1.1), (7, vi s5.1), (33, .own 1000000), (34, vi s5.1)], [(1000000, oa 9 1 eS s5.2)]⟩) (by kernel_rfl)) Le.sub0) (by kernel_rfl) d3
  refine DE.share (fuel := 17) (L := #[true, false, false, false, false, false, false, false, false, false, false, false, false, false, false, false, false, false]) (σ := ⟨49, [(0, .own 1000000), (1, vi aA), (2, vi aB), (6, vi s1.1), (7, vi s5.1), (33, .own 1000000)], [(1000000, oa 9 1 eS s5.2)]⟩) ?_ (fun d1 => ?_)
  exact DE.take (i := 1) (L' := #[true, true, false, false, false, false, false, false, false, false, false, false, false, false, false, false, false, false]) rfl (.inl rfl) rfl (by kernel_rfl) (by kernel_rfl) (by kernel_rfl) (EStep.le (EStep.ofN2 tbok (σ' := ⟨49, [(34, vi s5.1), (0, .own 1000000), (1, vi aA), (2, vi aB), (6, vi s1.1), (7, vi s5.1), (33, .own 1000000)], [(1000000, oa 9 1 eS s5.2)]⟩) (by kernel_rfl)) Le.sub0) (by kernel_rfl) d2
  exact DE.take (i := 0) (L' := #[true, false, false, false, false, false, false, false, false, false, false, false, false, false, false, false, false, false]) rfl (.inl rfl) rfl (by kernel_rfl) (by kernel_rfl) (by kernel_rfl) (EStep.le (EStep.ofN2 tbok (σ' := ⟨49, [(33, .own 1000000), (0, .own 1000000), (1, vi aA), (2, vi aB), (6, vi s1.1), (7, vi s5.1), (30, vb j10)], [(1000000, oa 9 1 eS s5.2)]⟩) (by kernel_rfl)) Le.sub0) (by kernel_rfl) d1
  obtain rfl := inj h
  exact q_bn (q_j (Le.sub0))
  refine swp_reg ?_
  refine SRun.ck tbok 3 ⟨49, [(0, .own 1000000), (1, vi aA), (2, vi aB), (6, vi s1.1), (7, vi (w64 (s5.1 - 1)))], [(1000000, oa 9 1 eS j12)]⟩ ?_
  refine SRun.nil ?_
  obtain rfl := inj h
  exact q_l (Le.sub0)
  refine swp_exit ?_
  obtain rfl := inj h
  exact nx_e (q_re (q_bh (q_bn (q_j (Le.sub0)))))
  refine swp_reg ?_
  refine SRun.ck tbok 3 ⟨49, [(0, .own 1000000), (1, vi aA), (2, vi aB), (6, vi (w64 (s1.1 + 1)))], [(1000000, oa 9 1 eS j3)]⟩ ?_
  refine SRun.nil ?_
  obtain rfl := inj h
  exact q_l (Le.sub0)
  refine swp_exit ?_
  obtain rfl := inj h
  exact nx_e (q_re (q_bh (q_fn (fin_io (fin0 (by kernel_rfl)) (y := oa 9 1 eS s1.2) (by kernel_rfl) rfl (by kernel_rfl) (by kernel_rfl)))))
theorem ents169 : Ents Tryz.prog 169 := ents_of Tryz.func169 (by kernel_rfl) rfl
noncomputable def slices_pdqsortOrdered_string (aData : (List ByteArray)) (aA : Int) (aB : Int) (aLimit : Int) : Option ((List ByteArray)) :=
  (loop (fun (s1 : Int × Int × Int × Bool × Bool × (List ByteArray)) => (bif (decide ((w64 (s1.2.1 - s1.1)) ≤ 12)) then ((slices_insertionSortOrdered_string s1.2.2.2.2.2 s1.1 s1.2.1).bind fun x3 => some (.inr x3)) else (bif (s1.2.2.1 == 0) then none else (((bif (!s1.2.2.2.1) then none else some s1.2.2.1)).bind fun (_ : Int) => none)))) (aA, aB, aLimit, true, true, aData))
theorem slices_pdqsortOrdered_string_run (aData : (List ByteArray)) (aA : Int) (aB : Int) (aLimit : Int) (r : (List ByteArray)) (h : slices_pdqsortOrdered_string aData aA aB aLimit = some r) : SCall Tryz.prog 151 [.o (oa 9 1 eS aData), .v (vi aA), .v (vi aB), .v (vi aLimit)] ⟨[], [(0, oa 9 1 eS r)], false⟩ := by
  refine scall_in Tryz.func151 rfl [] rfl (fun r => ⟨[], [(0, oa 9 1 eS r)], false⟩) (r := r) ?_
  unfold slices_pdqsortOrdered_string at h
  refine srk tbok ⟨134, [(0, .own 1000000), (1, vi aA), (2, vi aB), (3, vi aLimit), (8, vb true)], [(1000000, oa 9 1 eS aData)]⟩ ?_
  refine srk tbok ⟨134, [(0, .own 1000000), (1, vi aA), (2, vi aB), (3, vi aLimit), (8, vb true), (9, vb true)], [(1000000, oa 9 1 eS aData)]⟩ ?_
  refine swp_blk (a := r) ?_
  refine swp_lpL (r := r) (s := (aA, aB, aLimit, true, true, aData)) _ (fun s1 => ⟨134, [(0, .own 1000000), (1, vi s1.1), (2, vi s1.2.1), (3, vi s1.2.2.1), (8, vb s1.2.2.2.1), (9, vb s1.2.2.2.2.1)], [(1000000, oa 9 1 eS s1.2.2.2.2.2)]⟩) _ (Le.sub0) h (fun s1 v2 h => ?_)
  refine swp_blk (a := v2) ?_
  refine srk tbok ⟨134, [(0, .own 1000000), (1, vi s1.1), (2, vi s1.2.1), (3, vi s1.2.2.1), (8, vb s1.2.2.2.1), (9, vb s1.2.2.2.2.1), (10, vi (w64 (s1.2.1 - s1.1)))], [(1000000, oa 9 1 eS s1.2.2.2.2.2)]⟩ ?_
  refine swp_seq ?_
  refine srk tbok ⟨134, [(0, .own 1000000), (1, vi s1.1), (2, vi s1.2.1), (3, vi s1.2.2.1), (8, vb s1.2.2.2.1), (9, vb s1.2.2.2.2.1), (10, vi (w64 (s1.2.1 - s1.1))), (23, vb (decide ((w64 (s1.2.1 - s1.1)) ≤ 12)))], [(1000000, oa 9 1 eS s1.2.2.2.2.2)]⟩ ?_
  refine swp_cd h (fun h => ?_) fun h => ?_
  refine sr ?_
  refine SRun.ck tbok 3 ⟨134, [(24, .own 1000000), (25, vi s1.1), (26, vi s1.2.1)], [(1000000, oa 9 1 eS s1.2.2.2.2.2)]⟩ ?_
  obtain ⟨x3, hx3, h⟩ := bind_some h
  refine SRun.estep (xe ents169 (slices_insertionSortOrdered_string_run s1.2.2.2.2.2 s1.1 s1.2.1 _ hx3)) ?_
  refine SRun.nx ?_
  refine swp_ret ?_
  obtain rfl := inj h
  exact nx_r (q_br (q_rr (q_br (q_fr (fin_io (fin0 (by kernel_rfl)) (y := oa 9 1 eS x3) (by kernel_rfl) rfl (by kernel_rfl) (by kernel_rfl))))))
  refine swp_skip ?_
  refine nx_n ?_
  refine swp_seq ?_
  refine srk tbok ⟨134, [(0, .own 1000000), (1, vi s1.1), (2, vi s1.2.1), (3, vi s1.2.2.1), (8, vb s1.2.2.2.1), (9, vb s1.2.2.2.2.1), (10, vi (w64 (s1.2.1 - s1.1))), (29, vb (s1.2.2.1 == 0))], [(1000000, oa 9 1 eS s1.2.2.2.2.2)]⟩ ?_
  refine swp_cd h (fun h => ?_) fun h => ?_
  refine swp_seq ?_
  cases h
  refine swp_skip ?_
  refine nx_n ?_
  refine swp_seq ?_
  refine srk tbok ⟨134, [(0, .own 1000000), (1, vi s1.1), (2, vi s1.2.1), (3, vi s1.2.2.1), (8, vb s1.2.2.2.1), (9, vb s1.2.2.2.2.1), (10, vi (w64 (s1.2.1 - s1.1))), (35, vb (!s1.2.2.2.1))], [(1000000, oa 9 1 eS s1.2.2.2.2.2)]⟩ ?_
  refine swp_seqJ h (fun j4 => ⟨134, [(0, .own 1000000), (1, vi s1.1), (2, vi s1.2.1), (3, vi j4), (8, vb s1.2.2.2.1), (9, vb s1.2.2.2.2.1), (10, vi (w64 (s1.2.1 - s1.1)))], [(1000000, oa 9 1 eS s1.2.2.2.2.2)]⟩) (fun v5 h => ?_) (fun j4 h => ?_)
  refine swp_cd h (fun h => ?_) fun h => ?_
  refine swp_seq ?_
  cases h
  refine swp_skip ?_
  obtain rfl := inj h
  exact q_j (Le.sub0)
  refine swp_seq ?_
  cases h
theorem ents151 : Ents Tryz.prog 151 := ents_of Tryz.func151 (by kernel_rfl) rfl
noncomputable def slices_Sort_string (aX : (List ByteArray)) : Option ((List ByteArray)) :=
  ((bits_Len (IntKind.wrap .u64 (aX.length : Int))).bind fun x1 => ((slices_pdqsortOrdered_string aX 0 (aX.length : Int) x1).bind fun x2 => some x2))
theorem slices_Sort_string_run (aX : (List ByteArray)) (r : (List ByteArray)) (h : slices_Sort_string aX = some r) : SCall Tryz.prog 115 [.o (oa 9 1 eS aX)] ⟨[], [(0, oa 9 1 eS r)], false⟩ := by
  refine scall_in Tryz.func115 rfl [] rfl (fun r => ⟨[], [(0, oa 9 1 eS r)], false⟩) (r := r) ?_
  unfold slices_Sort_string at h
  refine srk tbok ⟨11, [(0, .own 1000000), (2, vi (aX.length : Int))], [(1000000, oa 9 1 eS aX)]⟩ ?_
  refine swp_reg ?_
  refine SRun.ck tbok 4 ⟨11, [(5, .own 1000000), (6, vi (aX.length : Int)), (8, .tr (.int .u64 (IntKind.wrap .u64 (aX.length : Int))))], [(1000000, oa 9 1 eS aX)]⟩ ?_
  obtain ⟨x1, hx1, h⟩ := bind_some h
  refine SRun.ls (xc ents152 (bits_Len_run (IntKind.wrap .u64 (aX.length : Int)) _ hx1)) ?_
  obtain ⟨x2, hx2, h⟩ := bind_some h
  refine SRun.estep (xe ents151 (slices_pdqsortOrdered_string_run aX 0 (aX.length : Int) x1 _ hx2)) ?_
  refine SRun.nil ?_
  obtain rfl := inj h
  exact q_fn (fin_io (fin0 (by kernel_rfl)) (y := oa 9 1 eS x2) (by kernel_rfl) rfl (by kernel_rfl) (by kernel_rfl))
theorem ents115 : Ents Tryz.prog 115 := ents_of Tryz.func115 (by kernel_rfl) rfl
noncomputable def slices_Compact_string (aS : (List ByteArray)) : Option ((List ByteArray)) :=
  (bif (decide ((aS.length : Int) < 2)) then some aS else (((loop (fun (s3 : Int × (List ByteArray)) => (bif (decide (s3.1 < (s3.2.length : Int))) then ((((at' s3.2 s3.1).bind fun x7 => ((at' s3.2 (w64 (s3.1 - 1))).bind fun x8 => (bif (x7.toList == x8.toList) then none else some (.inl (s3.1, s3.2)))))).bind (Sum.elim (fun (j5 : Int × (List ByteArray)) => some (.inl ((w64 (j5.1 + 1)), j5.2))) (fun a => some (.inr a)))) else some (.inr (.inl s3.2)))) (1, aS))).bind (Sum.elim (fun (j1 : (List ByteArray)) => some j1) some)))
theorem slices_Compact_string_run (aS : (List ByteArray)) (r : (List ByteArray)) (h : slices_Compact_string aS = some r) : SCall Tryz.prog 116 [.o (oa 9 1 eS aS)] ⟨[.arg 0], [(0, oa 9 1 eS r)], false⟩ := by
  refine scall_in Tryz.func116 rfl [(.tmp 2)] rfl (fun r => ⟨[.arg 0], [(0, oa 9 1 eS r)], false⟩) (r := r) ?_
  unfold slices_Compact_string at h
  refine srk tbok ⟨61, [(0, .own 1000000)], [(1000000, oa 9 1 eS aS)]⟩ ?_
  refine swp_seq ?_
  refine srk tbok ⟨61, [(0, .own 1000000), (8, vb (decide ((aS.length : Int) < 2)))], [(1000000, oa 9 1 eS aS)]⟩ ?_
  refine swp_cd h (fun h => ?_) fun h => ?_
  refine srk tbok ⟨61, [(2, .own 1000000)], [(1000000, oa 9 1 eS aS)]⟩ ?_
  refine swp_ret ?_
  obtain rfl := inj h
  exact nx_r (q_fr (fin_io (f1 (fa)) (y := oa 9 1 eS aS) (by kernel_rfl) rfl (by kernel_rfl) (by kernel_rfl)))
  refine swp_skip ?_
  refine nx_n ?_
  refine swp_seq ?_
  refine srk tbok ⟨61, [(0, .own 1000000), (3, vi 1)], [(1000000, oa 9 1 eS aS)]⟩ ?_
  refine swp_seqE (r := r) h (fun j1 => ⟨61, [(0, .own 1000000)], [(1000000, oa 9 1 eS j1)]⟩) (fun v2 h => ?_) (fun j1 h => ?_)
  refine swp_blk (a := v2) ?_
  refine swp_lpL (r := v2) (s := (1, aS)) _ (fun s3 => ⟨61, [(0, .own 1000000), (3, vi s3.1)], [(1000000, oa 9 1 eS s3.2)]⟩) _ (Le.sub0) h (fun s3 v4 h => ?_)
  refine swp_seq ?_
  refine srk tbok ⟨61, [(0, .own 1000000), (3, vi s3.1), (13, vb (decide (s3.1 < (s3.2.length : Int))))], [(1000000, oa 9 1 eS s3.2)]⟩ ?_
  refine swp_cd h (fun h => ?_) fun h => ?_
  refine swp_skip ?_
  refine nx_n ?_
  refine swp_seq ?_
  refine swp_seqL (r := v4) h (fun j5 => ⟨61, [(0, .own 1000000), (3, vi j5.1)], [(1000000, oa 9 1 eS j5.2)]⟩) (fun v6 h => ?_) (fun j5 h => ?_)
  refine swp_blk (a := v6) ?_
  refine swp_seq ?_
  refine swp_dr mixed ?_
  refine DGo.ck tbok false 2 ⟨61, [(0, .own 1000000), (3, vi s3.1), (16, .own 1000000), (17, vi s3.1)], [(1000000, oa 9 1 eS s3.2)]⟩ ?_
  obtain ⟨x7, hx7, h⟩ := bind_some h
  refine DGo.step (x_index_own (d := 1000000) (L := s3.2) (f := eS) (ti := ti28) (tj := ti9) (e := 9) (e' := 9) (m := 1) (k := .i64) tbok rfl hx7) ?_
  refine DGo.step (x_load_own (d := 1000000) (m := 1) (j := 0) (L := s3.2) (f := eS) (ti := ti9) (e := 9) (v := vs x7) tbok rfl hx7) ?_
  refine DGo.ck tbok false 3 ⟨61, [(0, .own 1000000), (3, vi s3.1), (19, vs x7), (20, .own 1000000), (22, vi (w64 (s3.1 - 1)))], [(1000000, oa 9 1 eS s3.2)]⟩ ?_
  obtain ⟨x8, hx8, h⟩ := bind_some h
  refine DGo.step (x_index_own (d := 1000000) (L := s3.2) (f := eS) (ti := ti28) (tj := ti9) (e := 9) (e' := 9) (m := 1) (k := .i64) tbok rfl hx8) ?_
  refine DGo.step (x_load_own (d := 1000000) (m := 1) (j := 0) (L := s3.2) (f := eS) (ti := ti9) (e := 9) (v := vs x8) tbok rfl hx8) ?_
  refine DGo.ck tbok false 1 ⟨61, [(0, .own 1000000), (3, vi s3.1), (25, vb (x7.toList == x8.toList))], [(1000000, oa 9 1 eS s3.2)]⟩ ?_
  refine DGo.nx ?_
  refine swp_cd h (fun h => ?_) fun h => ?_
  cases h
  refine swp_skip ?_
  obtain rfl := inj h
  exact q_bn (q_l (Le.sub0))
  refine swp_reg ?_
  refine SRun.ck tbok 3 ⟨61, [(0, .own 1000000), (3, vi (w64 (j5.1 + 1)))], [(1000000, oa 9 1 eS j5.2)]⟩ ?_
  refine SRun.nil ?_
  obtain rfl := inj h
  exact q_l (Le.sub0)
  refine swp_exit ?_
  obtain rfl := inj h
  exact nx_e (q_re (q_bh (q_l (Le.sub0))))
  refine srk tbok ⟨61, [(2, .own 1000000)], [(1000000, oa 9 1 eS j1)]⟩ ?_
  refine swp_ret ?_
  obtain rfl := inj h
  exact q_fr (fin_io (f1 (fa)) (y := oa 9 1 eS j1) (by kernel_rfl) rfl (by kernel_rfl) (by kernel_rfl))
theorem ents116 : Ents Tryz.prog 116 := ents_of Tryz.func116 (by kernel_rfl) rfl
noncomputable def impl_sorted (aList : (List ByteArray)) : Option ((List ByteArray)) :=
  ((slices_Sort_string aList).bind fun x1 => ((slices_Compact_string x1).bind fun x2 => some x2))
theorem impl_sorted_run (aList : (List ByteArray)) (r : (List ByteArray)) (h : impl_sorted aList = some r) : SCall Tryz.prog 70 [.o (oa 9 1 eS aList)] ⟨[.arg 0], [(0, oa 9 1 eS r)], false⟩ := by
  refine scall_in Tryz.func70 rfl [(.tmp 2)] rfl (fun r => ⟨[.arg 0], [(0, oa 9 1 eS r)], false⟩) (r := r) ?_
  unfold impl_sorted at h
  refine srk tbok ⟨7, [(0, .own 1000000)], [(1000000, oa 9 1 eS aList)]⟩ ?_
  refine sr ?_
  refine SRun.ck tbok 1 ⟨7, [(0, .own 1000000), (3, .own 1000000)], [(1000000, oa 9 1 eS aList)]⟩ ?_
  obtain ⟨x1, hx1, h⟩ := bind_some h
  refine SRun.estep (xe ents115 (slices_Sort_string_run aList _ hx1)) ?_
  refine SRun.nx ?_
  refine sr ?_
  refine SRun.ck tbok 1 ⟨7, [(5, .own 1000000)], [(1000000, oa 9 1 eS x1)]⟩ ?_
  obtain ⟨x2, hx2, h⟩ := bind_some h
  refine SRun.estep (xa ents116 (slices_Compact_string_run x1 _ hx2)) ?_
  refine ckn tbok 1 ⟨7, [(2, .own 1000000)], [(1000000, oa 9 1 eS x2)]⟩ ?_
  refine swp_ret ?_
  obtain rfl := inj h
  exact q_fr (fin_io (f1 (fa)) (y := oa 9 1 eS x2) (by kernel_rfl) rfl (by kernel_rfl) (by kernel_rfl))
theorem ents70 : Ents Tryz.prog 70 := ents_of Tryz.func70 (by kernel_rfl) rfl
noncomputable def impl_ExactAnswers (aList : (List Candidate)) (aText : ByteArray) (aSites : (List Site)) (aDescriptions : (List Description)) : Option ((List ByteArray) × Int) :=
  ((impl_AnswersOf aList aText aSites aDescriptions).bind fun x1 => (((forS (x1.1.length : Int) (fun (i4 : Int) (s4 : (List ByteArray)) => ((at' x1.1 i4).bind fun x8 => (((bif (x8.Distance == 0) then ((impl_length_Description aDescriptions).bind fun x9 => some (x8.Satisfied == x9)) else some false)).bind fun (j10 : Bool) => (bif j10 then ((app' s4 ([x8.Code] : List ByteArray)).bind fun x12 => some x12) else some s4)))) (fun (s4 : (List ByteArray)) => s4) 0 ([] : List ByteArray))).bind fun (j2 : (List ByteArray)) => ((impl_sorted j2).bind fun x13 => some (x13, x1.2))))
theorem impl_ExactAnswers_run (aList : (List Candidate)) (aText : ByteArray) (aSites : (List Site)) (aDescriptions : (List Description)) (r : (List ByteArray) × Int) (h : impl_ExactAnswers aList aText aSites aDescriptions = some r) : SCall Tryz.prog 25 [.v (vl eCandidate aList), .v (vs aText), .v (vl eSite aSites), .v (vl eDescription aDescriptions)] ⟨[.own 9 1 r.1.length (r.1.map eS), .v (vi r.2)], [], false⟩ := by
  refine scall_in Tryz.func25 rfl [(.tmp 8), (.tmp 9)] rfl (fun r => ⟨[.own 9 1 r.1.length (r.1.map eS), .v (vi r.2)], [], false⟩) (r := r) ?_
  unfold impl_ExactAnswers at h
  refine srk tbok ⟨48, [(0, vl eCandidate aList), (1, vs aText), (2, vl eSite aSites), (3, vl eDescription aDescriptions)], []⟩ ?_
  refine sr ?_
  refine SRun.ck tbok 4 ⟨48, [(3, vl eDescription aDescriptions), (16, vl eCandidate aList), (17, vs aText), (18, vl eSite aSites), (19, vl eDescription aDescriptions)], []⟩ ?_
  obtain ⟨x1, hx1, h⟩ := bind_some h
  refine SRun.ls (xc ents38 (impl_AnswersOf_run aList aText aSites aDescriptions _ hx1)) ?_
  refine ckn tbok 5 ⟨48, [(3, vl eDescription aDescriptions), (10, .own 20), (11, vi x1.2)], [(20, oa 59 3 eAnswer x1.1)]⟩ ?_
  refine srk tbok ⟨48, [(3, vl eDescription aDescriptions), (10, .own 20), (11, vi x1.2), (12, .own 12)], [(12, oa 9 1 eS ([] : List ByteArray)), (20, oa 59 3 eAnswer x1.1)]⟩ ?_
  refine swp_seq ?_
  refine srk tbok ⟨48, [(3, vl eDescription aDescriptions), (11, vi x1.2), (12, .own 12), (23, .own 20), (24, vi (x1.1.length : Int)), (25, vi 0)], [(12, oa 9 1 eS ([] : List ByteArray)), (20, oa 59 3 eAnswer x1.1)]⟩ ?_
  refine swp_seqJ h (fun j2 => ⟨48, [(11, vi x1.2), (12, .own 12)], [(12, oa 9 1 eS j2)]⟩) (fun v3 h => ?_) (fun j2 h => ?_)
  refine swp_blk (a := v3) ?_
  refine swp_lpL (r := v3) (s := (0, ([] : List ByteArray))) _ (fun s4 => ⟨48, [(3, vl eDescription aDescriptions), (11, vi x1.2), (12, .own 12), (23, .own 23), (24, vi (x1.1.length : Int)), (25, vi s4.1)], [(12, oa 9 1 eS s4.2), (23, oa 59 3 eAnswer x1.1)]⟩) _ ((Le.sub' ([(3, vl eDescription aDescriptions), (11, vi x1.2), (12, .own 12), (23, .own 20), (24, vi (x1.1.length : Int)), (25, vi 0)] : List (Nat × SV)) ([(12, oa 9 1 eS ([] : List ByteArray)), (20, oa 59 3 eAnswer x1.1)] : List (Nat × SO)) (by kernel_rfl) (by kernel_rfl)).trans ((Le.ren' (d := 20) (e := 23) (by kernel_rfl) (by kernel_rfl) (by kernel_rfl)).trans (Le.sub0))) h (fun s4 v5 h => ?_)
  refine srk tbok ⟨48, [(3, vl eDescription aDescriptions), (11, vi x1.2), (12, .own 12), (23, .own 23), (24, vi (x1.1.length : Int)), (25, vi s4.1), (26, vb (decide (s4.1 < (x1.1.length : Int))))], [(12, oa 9 1 eS s4.2), (23, oa 59 3 eAnswer x1.1)]⟩ ?_
  refine swp_seq ?_
  refine swp_cd h (fun h => ?_) fun h => ?_
  refine swp_skip ?_
  refine nx_n ?_
  refine swp_seq ?_
  refine swp_seqJ h (fun j6 => ⟨48, [(3, vl eDescription aDescriptions), (11, vi x1.2), (12, .own 12), (23, .own 23), (24, vi (x1.1.length : Int)), (25, vi s4.1)], [(12, oa 9 1 eS j6), (23, oa 59 3 eAnswer x1.1)]⟩) (fun v7 h => ?_) (fun j6 h => ?_)
  refine swp_blk (a := v7) ?_
  refine sr ?_
  obtain ⟨x8, hx8, h⟩ := bind_some h
  refine SRun.ls (x_index_own (d := 23) (L := x1.1) (f := eAnswer) (ti := ti62) (tj := ti59) (e := 59) (e' := 59) (m := 3) (k := .i64) tbok rfl hx8) ?_
  refine SRun.ls (x_load_own (d := 23) (m := 3) (j := 0) (L := x1.1) (f := eAnswer) (ti := ti59) (e := 59) (v := .agg (tc eAnswer x8)) tbok rfl hx8) ?_
  refine ckn tbok 2 ⟨48, [(3, vl eDescription aDescriptions), (11, vi x1.2), (12, .own 12), (14, .ref 14 0), (23, .own 23), (24, vi (x1.1.length : Int)), (25, vi s4.1)], [(12, oa 9 1 eS s4.2), (14, .box (tc eAnswer x8)), (23, oa 59 3 eAnswer x1.1)]⟩ ?_
  refine swp_seq ?_
  refine swp_drJ mixed h (fun j10 => ⟨48, [(3, vl eDescription aDescriptions), (11, vi x1.2), (12, .own 12), (14, .ref 14 0), (23, .own 23), (24, vi (x1.1.length : Int)), (25, vi s4.1), (38, vb j10)], [(12, oa 9 1 eS s4.2), (14, .box (tc eAnswer x8)), (23, oa 59 3 eAnswer x1.1)]⟩) (fun v11 h => ?_) (fun j10 h => ?_)
  refine DGo.ck tbok false 4 ⟨48, [(3, vl eDescription aDescriptions), (11, vi x1.2), (12, .own 12), (14, .ref 14 0), (23, .own 23), (24, vi (x1.1.length : Int)), (25, vi s4.1), (32, vb (x8.Distance == 0))], [(12, oa 9 1 eS s4.2), (14, .box (tc eAnswer x8)), (23, oa 59 3 eAnswer x1.1)]⟩ ?_
  refine DGo.cu [(32, fun b => b)] h (fun h => ?_) fun h => ?_
  refine DGo.ck tbok false 3 ⟨48, [(3, vl eDescription aDescriptions), (11, vi x1.2), (12, .own 12), (14, .ref 14 0), (23, .own 23), (24, vi (x1.1.length : Int)), (25, vi s4.1), (32, vb true), (34, vi x8.Satisfied), (35, vl eDescription aDescriptions)], [(12, oa 9 1 eS s4.2), (14, .box (tc eAnswer x8)), (23, oa 59 3 eAnswer x1.1)]⟩ ?_
  obtain ⟨x9, hx9, h⟩ := bind_some h
  refine DGo.step (xc ents69 (impl_length_Description_run aDescriptions _ hx9)) ?_
  refine DGo.ck tbok false 2 ⟨48, [(3, vl eDescription aDescriptions), (11, vi x1.2), (12, .own 12), (14, .ref 14 0), (23, .own 23), (24, vi (x1.1.length : Int)), (25, vi s4.1), (38, vb (x8.Satisfied == x9))], [(12, oa 9 1 eS s4.2), (14, .box (tc eAnswer x8)), (23, oa 59 3 eAnswer x1.1)]⟩ ?_
  refine DGo.nil (by kernel_rfl) ?_
  obtain rfl := inj h
  exact Le.sub0
  refine DGo.ck tbok false 6 ⟨48, [(3, vl eDescription aDescriptions), (11, vi x1.2), (12, .own 12), (14, .ref 14 0), (23, .own 23), (24, vi (x1.1.length : Int)), (25, vi s4.1), (38, vb false)], [(12, oa 9 1 eS s4.2), (14, .box (tc eAnswer x8)), (23, oa 59 3 eAnswer x1.1)]⟩ ?_
  refine DGo.nil (by kernel_rfl) ?_
  obtain rfl := inj h
  exact Le.sub0
  refine swp_cd h (fun h => ?_) fun h => ?_
  refine swp_reg ?_
  refine SRun.ck tbok 4 ⟨48, [(3, vl eDescription aDescriptions), (11, vi x1.2), (23, .own 23), (24, vi (x1.1.length : Int)), (25, vi s4.1), (39, .own 12), (42, .own 42)], [(12, oa 9 1 eS s4.2), (23, oa 59 3 eAnswer x1.1), (42, oa 9 1 eS ([x8.Code] : List ByteArray))]⟩ ?_
  obtain ⟨x12, hx12, h⟩ := bind_some h
  refine SRun.estep (x_append (f := eS) (t := 28) (ti := ti28) (tj := ti9) (zs := [.string (ByteArray.mk #[])]) (e := 9) (m := 1) (d := 12) (xv := .own 42) hx12 tbok rfl rfl rfl rfl (x_src_o (e := 9))) ?_
  refine SRun.ck tbok 1 ⟨48, [(3, vl eDescription aDescriptions), (11, vi x1.2), (12, .own 43), (23, .own 23), (24, vi (x1.1.length : Int)), (25, vi s4.1)], [(23, oa 59 3 eAnswer x1.1), (43, oa 9 1 eS x12)]⟩ ?_
  refine SRun.nil ?_
  obtain rfl := inj h
  exact q_bn (q_j ((Le.sub' ([(3, vl eDescription aDescriptions), (11, vi x1.2), (12, .own 43), (23, .own 23), (24, vi (x1.1.length : Int)), (25, vi s4.1)] : List (Nat × SV)) ([(23, oa 59 3 eAnswer x1.1), (43, oa 9 1 eS x12)] : List (Nat × SO)) (by kernel_rfl) (by kernel_rfl)).trans ((Le.ren' (d := 43) (e := 12) (by kernel_rfl) (by kernel_rfl) (by kernel_rfl)).trans (Le.sub0))))
  refine swp_skip ?_
  obtain rfl := inj h
  exact q_bn (q_j (Le.sub0))
  refine swp_reg ?_
  refine SRun.ck tbok 2 ⟨48, [(3, vl eDescription aDescriptions), (11, vi x1.2), (12, .own 12), (23, .own 23), (24, vi (x1.1.length : Int)), (25, vi (w64 (s4.1 + 1)))], [(12, oa 9 1 eS j6), (23, oa 59 3 eAnswer x1.1)]⟩ ?_
  refine SRun.nil ?_
  obtain rfl := inj h
  exact q_l (Le.sub0)
  refine swp_exit ?_
  obtain rfl := inj h
  exact nx_e (q_re (q_bh (q_j (Le.sub0))))
  refine sr ?_
  refine SRun.ck tbok 1 ⟨48, [(11, vi x1.2), (45, .own 12)], [(12, oa 9 1 eS j2)]⟩ ?_
  obtain ⟨x13, hx13, h⟩ := bind_some h
  refine SRun.estep (xa ents70 (impl_sorted_run j2 _ hx13)) ?_
  refine ckn tbok 3 ⟨48, [(8, .own 12), (9, vi x1.2)], [(12, oa 9 1 eS x13)]⟩ ?_
  refine swp_ret ?_
  obtain rfl := inj h
  exact q_fr (f2 (fo eS_flat) fv)
theorem ents25 : Ents Tryz.prog 25 := ents_of Tryz.func25 (by kernel_rfl) rfl
noncomputable def laws_FnExactExactAnswers (aAList : (List Candidate)) (aAText : ByteArray) (aASites : (List Site)) (aADescriptions : (List Description)) : Option (Bool) :=
  (bif (decide ((aAText.size : Int) > 1048576)) then some true else ((laws_szCandidateS aAList 1048576).bind fun x1 => (bif (decide (x1 < 0)) then some true else ((laws_szSiteS aASites x1).bind fun x2 => (bif (decide (x2 < 0)) then some true else ((laws_szDescriptionS aADescriptions x2).bind fun x3 => (bif (decide (x3 < 0)) then some true else ((laws_toCandidateS aAList).bind fun x4 => ((laws_toSiteS aASites).bind fun x5 => ((laws_toDescriptionS aADescriptions).bind fun x6 => ((spec_ExactAnswers x4 aAText x5 x6).bind fun x7 => ((laws_toCandidateS aAList).bind fun x8 => ((laws_toSiteS aASites).bind fun x9 => ((laws_toDescriptionS aADescriptions).bind fun x10 => ((impl_ExactAnswers x8 aAText x9 x10).bind fun x11 => ((((laws_eqStringS x11.1 x7.1).bind fun x12 => (bif (!x12) then some true else some (x11.2 != x7.2)))).bind fun (j13 : Bool) => (bif j13 then some false else ((laws_toCandidateS aAList).bind fun x15 => ((laws_eqCandidateS x8 x15).bind fun x16 => (bif (!x16) then some false else ((laws_toSiteS aASites).bind fun x17 => ((laws_eqSiteS x9 x17).bind fun x18 => (bif (!x18) then some false else ((laws_toDescriptionS aADescriptions).bind fun x19 => ((laws_eqDescriptionS x10 x19).bind fun x20 => (bif (!x20) then some false else ((laws_markCandidateS x8 1).bind fun x21 => ((laws_markSiteS x9 x21.1).bind fun x22 => ((laws_markDescriptionS x10 x22.1).bind fun x23 => (((bif (decide (x23.1 < 0)) then some true else ((laws_eqStringS x11.1 x7.1).bind fun x24 => (bif (!x24) then some true else some (x11.2 != x7.2))))).bind fun (j25 : Bool) => (bif j25 then some false else ((laws_markStringS x11.1 1).bind fun x27 => ((laws_heldStringS x27.2 1).bind fun x28 => (bif (decide (x28 < 0)) then some false else (bif (x28 != x27.1) then some false else ((laws_toCandidateS aAList).bind fun x29 => ((laws_toSiteS aASites).bind fun x30 => ((laws_toDescriptionS aADescriptions).bind fun x31 => ((impl_ExactAnswers x29 aAText x30 x31).bind fun x32 => ((((laws_eqStringS x32.1 x7.1).bind fun x33 => (bif (!x33) then some true else some (x32.2 != x7.2)))).bind fun (j34 : Bool) => (bif j34 then some false else ((laws_heldStringS x27.2 1).bind fun x36 => (bif (decide (x36 < 0)) then some false else (bif (x36 != x27.1) then some false else some true))))))))))))))))))))))))))))))))))))))))))))
theorem laws_FnExactExactAnswers_run (aAList : (List Candidate)) (aAText : ByteArray) (aASites : (List Site)) (aADescriptions : (List Description)) (r : Bool) (h : laws_FnExactExactAnswers aAList aAText aASites aADescriptions = some r) : SCall Tryz.prog 4 [.v (vl eCandidate aAList), .v (vs aAText), .v (vl eSite aASites), .v (vl eDescription aADescriptions)] ⟨[.v (vb r)], [], false⟩ := by
  refine scall_in Tryz.func4 rfl [(.tmp 8)] rfl (fun r => ⟨[.v (vb r)], [], false⟩) (r := r) ?_
  unfold laws_FnExactExactAnswers at h
  refine srk tbok ⟨150, [(0, vl eCandidate aAList), (1, vs aAText), (2, vl eSite aASites), (3, vl eDescription aADescriptions)], []⟩ ?_
  refine swp_seq ?_
  refine srk tbok ⟨150, [(0, vl eCandidate aAList), (1, vs aAText), (2, vl eSite aASites), (3, vl eDescription aADescriptions), (24, vb (decide ((aAText.size : Int) > 1048576)))], []⟩ ?_
  refine swp_cd h (fun h => ?_) fun h => ?_
  refine srk tbok ⟨150, [(8, vb true)], []⟩ ?_
  refine swp_ret ?_
  obtain rfl := inj h
  exact nx_r (q_fr (f1 fv))
  refine swp_skip ?_
  refine nx_n ?_
  refine srk tbok ⟨150, [(0, vl eCandidate aAList), (1, vs aAText), (2, vl eSite aASites), (3, vl eDescription aADescriptions), (9, vi 1048576)], []⟩ ?_
  refine sr ?_
  refine SRun.ck tbok 2 ⟨150, [(0, vl eCandidate aAList), (1, vs aAText), (2, vl eSite aASites), (3, vl eDescription aADescriptions), (25, vl eCandidate aAList), (26, vi 1048576)], []⟩ ?_
  obtain ⟨x1, hx1, h⟩ := bind_some h
  refine SRun.ls (xc ents7 (laws_szCandidateS_run aAList 1048576 _ hx1)) ?_
  refine ckn tbok 1 ⟨150, [(0, vl eCandidate aAList), (1, vs aAText), (2, vl eSite aASites), (3, vl eDescription aADescriptions), (9, vi x1)], []⟩ ?_
  refine swp_seq ?_
  refine srk tbok ⟨150, [(0, vl eCandidate aAList), (1, vs aAText), (2, vl eSite aASites), (3, vl eDescription aADescriptions), (9, vi x1), (29, vb (decide (x1 < 0)))], []⟩ ?_
  refine swp_cd h (fun h => ?_) fun h => ?_
  refine srk tbok ⟨150, [(8, vb true)], []⟩ ?_
  refine swp_ret ?_
  obtain rfl := inj h
  exact nx_r (q_fr (f1 fv))
  refine swp_skip ?_
  refine nx_n ?_
  refine sr ?_
  refine SRun.ck tbok 2 ⟨150, [(0, vl eCandidate aAList), (1, vs aAText), (2, vl eSite aASites), (3, vl eDescription aADescriptions), (30, vl eSite aASites), (31, vi x1)], []⟩ ?_
  obtain ⟨x2, hx2, h⟩ := bind_some h
  refine SRun.ls (xc ents8 (laws_szSiteS_run aASites x1 _ hx2)) ?_
  refine ckn tbok 1 ⟨150, [(0, vl eCandidate aAList), (1, vs aAText), (2, vl eSite aASites), (3, vl eDescription aADescriptions), (9, vi x2)], []⟩ ?_
  refine swp_seq ?_
  refine srk tbok ⟨150, [(0, vl eCandidate aAList), (1, vs aAText), (2, vl eSite aASites), (3, vl eDescription aADescriptions), (9, vi x2), (34, vb (decide (x2 < 0)))], []⟩ ?_
  refine swp_cd h (fun h => ?_) fun h => ?_
  refine srk tbok ⟨150, [(8, vb true)], []⟩ ?_
  refine swp_ret ?_
  obtain rfl := inj h
  exact nx_r (q_fr (f1 fv))
  refine swp_skip ?_
  refine nx_n ?_
  refine sr ?_
  refine SRun.ck tbok 2 ⟨150, [(0, vl eCandidate aAList), (1, vs aAText), (2, vl eSite aASites), (3, vl eDescription aADescriptions), (35, vl eDescription aADescriptions), (36, vi x2)], []⟩ ?_
  obtain ⟨x3, hx3, h⟩ := bind_some h
  refine SRun.ls (xc ents9 (laws_szDescriptionS_run aADescriptions x2 _ hx3)) ?_
  refine ckn tbok 1 ⟨150, [(0, vl eCandidate aAList), (1, vs aAText), (2, vl eSite aASites), (3, vl eDescription aADescriptions), (9, vi x3)], []⟩ ?_
  refine swp_seq ?_
  refine srk tbok ⟨150, [(0, vl eCandidate aAList), (1, vs aAText), (2, vl eSite aASites), (3, vl eDescription aADescriptions), (39, vb (decide (x3 < 0)))], []⟩ ?_
  refine swp_cd h (fun h => ?_) fun h => ?_
  refine srk tbok ⟨150, [(8, vb true)], []⟩ ?_
  refine swp_ret ?_
  obtain rfl := inj h
  exact nx_r (q_fr (f1 fv))
  refine swp_skip ?_
  refine nx_n ?_
  refine sr ?_
  refine SRun.ck tbok 1 ⟨150, [(0, vl eCandidate aAList), (1, vs aAText), (2, vl eSite aASites), (3, vl eDescription aADescriptions), (41, vl eCandidate aAList)], []⟩ ?_
  obtain ⟨x4, hx4, h⟩ := bind_some h
  refine SRun.ls (xc ents11 (laws_toCandidateS_run aAList _ hx4)) ?_
  refine SRun.ck tbok 2 ⟨150, [(0, vl eCandidate aAList), (1, vs aAText), (2, vl eSite aASites), (3, vl eDescription aADescriptions), (42, .own 42), (43, vs aAText), (44, vl eSite aASites)], [(42, oa 87 4 eCandidate x4)]⟩ ?_
  obtain ⟨x5, hx5, h⟩ := bind_some h
  refine SRun.ls (xc ents12 (laws_toSiteS_run aASites _ hx5)) ?_
  refine SRun.ck tbok 1 ⟨150, [(0, vl eCandidate aAList), (1, vs aAText), (2, vl eSite aASites), (3, vl eDescription aADescriptions), (42, .own 42), (43, vs aAText), (45, .own 45), (46, vl eDescription aADescriptions)], [(42, oa 87 4 eCandidate x4), (45, oa 92 3 eSite x5)]⟩ ?_
  obtain ⟨x6, hx6, h⟩ := bind_some h
  refine SRun.ls (xc ents13 (laws_toDescriptionS_run aADescriptions _ hx6)) ?_
  refine SRun.le (Le.frz' (d := 42) (e := 87) (m := 4) (n := x4.length) (es := x4.map eCandidate) (by kernel_rfl) (by kernel_rfl)) ?_
  refine SRun.le (Le.frz' (d := 45) (e := 92) (m := 3) (n := x5.length) (es := x5.map eSite) (by kernel_rfl) (by kernel_rfl)) ?_
  refine SRun.le (Le.frz' (d := 47) (e := 84) (m := 6) (n := x6.length) (es := x6.map eDescription) (by kernel_rfl) (by kernel_rfl)) ?_
  obtain ⟨x7, hx7, h⟩ := bind_some h
  refine SRun.ls (xc ents24 (spec_ExactAnswers_run x4 aAText x5 x6 _ hx7)) ?_
  refine ckn tbok 5 ⟨150, [(0, vl eCandidate aAList), (1, vs aAText), (2, vl eSite aASites), (3, vl eDescription aADescriptions), (10, vl eS x7.1), (11, vi x7.2)], []⟩ ?_
  refine sr ?_
  refine SRun.ck tbok 1 ⟨150, [(0, vl eCandidate aAList), (1, vs aAText), (2, vl eSite aASites), (3, vl eDescription aADescriptions), (10, vl eS x7.1), (11, vi x7.2), (51, vl eCandidate aAList)], []⟩ ?_
  obtain ⟨x8, hx8, h⟩ := bind_some h
  refine SRun.ls (xc ents11 (laws_toCandidateS_run aAList _ hx8)) ?_
  refine ckn tbok 1 ⟨150, [(0, vl eCandidate aAList), (1, vs aAText), (2, vl eSite aASites), (3, vl eDescription aADescriptions), (10, vl eS x7.1), (11, vi x7.2), (12, .own 52)], [(52, oa 87 4 eCandidate x8)]⟩ ?_
  refine sr ?_
  refine SRun.ck tbok 1 ⟨150, [(0, vl eCandidate aAList), (1, vs aAText), (2, vl eSite aASites), (3, vl eDescription aADescriptions), (10, vl eS x7.1), (11, vi x7.2), (12, .own 52), (53, vl eSite aASites)], [(52, oa 87 4 eCandidate x8)]⟩ ?_
  obtain ⟨x9, hx9, h⟩ := bind_some h
  refine SRun.ls (xc ents12 (laws_toSiteS_run aASites _ hx9)) ?_
  refine ckn tbok 1 ⟨150, [(0, vl eCandidate aAList), (1, vs aAText), (2, vl eSite aASites), (3, vl eDescription aADescriptions), (10, vl eS x7.1), (11, vi x7.2), (12, .own 52), (13, .own 54)], [(52, oa 87 4 eCandidate x8), (54, oa 92 3 eSite x9)]⟩ ?_
  refine sr ?_
  refine SRun.ck tbok 1 ⟨150, [(0, vl eCandidate aAList), (1, vs aAText), (2, vl eSite aASites), (3, vl eDescription aADescriptions), (10, vl eS x7.1), (11, vi x7.2), (12, .own 52), (13, .own 54), (55, vl eDescription aADescriptions)], [(52, oa 87 4 eCandidate x8), (54, oa 92 3 eSite x9)]⟩ ?_
  obtain ⟨x10, hx10, h⟩ := bind_some h
  refine SRun.ls (xc ents13 (laws_toDescriptionS_run aADescriptions _ hx10)) ?_
  refine ckn tbok 1 ⟨150, [(0, vl eCandidate aAList), (1, vs aAText), (2, vl eSite aASites), (3, vl eDescription aADescriptions), (10, vl eS x7.1), (11, vi x7.2), (12, .own 52), (13, .own 54), (14, .own 56)], [(52, oa 87 4 eCandidate x8), (54, oa 92 3 eSite x9), (56, oa 84 6 eDescription x10)]⟩ ?_
  refine sr ?_
  refine SRun.ck tbok 4 ⟨150, [(0, vl eCandidate aAList), (1, vs aAText), (2, vl eSite aASites), (3, vl eDescription aADescriptions), (10, vl eS x7.1), (11, vi x7.2), (12, .own 52), (13, .own 54), (14, .own 56), (58, .own 52), (59, vs aAText), (60, .own 54), (61, .own 56)], [(52, oa 87 4 eCandidate x8), (54, oa 92 3 eSite x9), (56, oa 84 6 eDescription x10)]⟩ ?_
  obtain ⟨x11, hx11, h⟩ := bind_some h
  refine SRun.ls (xc ents25 (impl_ExactAnswers_run x8 aAText x9 x10 _ hx11)) ?_
  refine ckn tbok 5 ⟨150, [(0, vl eCandidate aAList), (1, vs aAText), (2, vl eSite aASites), (3, vl eDescription aADescriptions), (10, vl eS x7.1), (11, vi x7.2), (12, .own 52), (13, .own 54), (14, .own 56), (15, .own 62), (16, vi x11.2)], [(52, oa 87 4 eCandidate x8), (54, oa 92 3 eSite x9), (56, oa 84 6 eDescription x10), (62, oa 9 1 eS x11.1)]⟩ ?_
  refine swp_seq ?_
  refine swp_seq ?_
  refine swp_regJ h (fun j13 => ⟨150, [(0, vl eCandidate aAList), (1, vs aAText), (2, vl eSite aASites), (3, vl eDescription aADescriptions), (10, vl eS x7.1), (11, vi x7.2), (12, .own 12), (13, .own 13), (14, .own 14), (15, .own 15), (16, vi x11.2), (73, vb j13)], [(12, oa 87 4 eCandidate x8), (13, oa 92 3 eSite x9), (14, oa 84 6 eDescription x10), (15, oa 9 1 eS x11.1)]⟩) (fun v14 h => ?_) (fun j13 h => ?_)
  refine SRun.ck tbok 2 ⟨150, [(0, vl eCandidate aAList), (1, vs aAText), (2, vl eSite aASites), (3, vl eDescription aADescriptions), (10, vl eS x7.1), (11, vi x7.2), (12, .own 52), (13, .own 54), (14, .own 56), (15, .own 62), (16, vi x11.2), (65, .own 62), (66, vl eS x7.1)], [(52, oa 87 4 eCandidate x8), (54, oa 92 3 eSite x9), (56, oa 84 6 eDescription x10), (62, oa 9 1 eS x11.1)]⟩ ?_
  obtain ⟨x12, hx12, h⟩ := bind_some h
  refine SRun.ls (xc ents15 (laws_eqStringS_run x11.1 x7.1 _ hx12)) ?_
  refine SRun.ck tbok 2 ⟨150, [(0, vl eCandidate aAList), (1, vs aAText), (2, vl eSite aASites), (3, vl eDescription aADescriptions), (10, vl eS x7.1), (11, vi x7.2), (12, .own 52), (13, .own 54), (14, .own 56), (15, .own 62), (16, vi x11.2), (69, vb (!x12))], [(52, oa 87 4 eCandidate x8), (54, oa 92 3 eSite x9), (56, oa 84 6 eDescription x10), (62, oa 9 1 eS x11.1)]⟩ ?_
  refine SRun.cu [(69, fun b => b)] h (fun h => ?_) fun h => ?_
  refine SRun.ck tbok 4 ⟨150, [(0, vl eCandidate aAList), (1, vs aAText), (2, vl eSite aASites), (3, vl eDescription aADescriptions), (10, vl eS x7.1), (11, vi x7.2), (12, .own 52), (13, .own 54), (14, .own 56), (15, .own 62), (16, vi x11.2), (73, vb true)], [(52, oa 87 4 eCandidate x8), (54, oa 92 3 eSite x9), (56, oa 84 6 eDescription x10), (62, oa 9 1 eS x11.1)]⟩ ?_
  refine SRun.nil ?_
  obtain rfl := inj h
  exact (Le.sub' ([(0, vl eCandidate aAList), (1, vs aAText), (2, vl eSite aASites), (3, vl eDescription aADescriptions), (10, vl eS x7.1), (11, vi x7.2), (12, .own 52), (13, .own 54), (14, .own 56), (15, .own 62), (16, vi x11.2), (73, vb true)] : List (Nat × SV)) ([(52, oa 87 4 eCandidate x8), (54, oa 92 3 eSite x9), (56, oa 84 6 eDescription x10), (62, oa 9 1 eS x11.1)] : List (Nat × SO)) (by kernel_rfl) (by kernel_rfl)).trans ((Le.ren' (d := 52) (e := 12) (by kernel_rfl) (by kernel_rfl) (by kernel_rfl)).trans ((Le.ren' (d := 54) (e := 13) (by kernel_rfl) (by kernel_rfl) (by kernel_rfl)).trans ((Le.ren' (d := 56) (e := 14) (by kernel_rfl) (by kernel_rfl) (by kernel_rfl)).trans ((Le.ren' (d := 62) (e := 15) (by kernel_rfl) (by kernel_rfl) (by kernel_rfl)).trans (Le.sub0)))))
  refine SRun.ck tbok 4 ⟨150, [(0, vl eCandidate aAList), (1, vs aAText), (2, vl eSite aASites), (3, vl eDescription aADescriptions), (10, vl eS x7.1), (11, vi x7.2), (12, .own 52), (13, .own 54), (14, .own 56), (15, .own 62), (16, vi x11.2), (73, vb (x11.2 != x7.2))], [(52, oa 87 4 eCandidate x8), (54, oa 92 3 eSite x9), (56, oa 84 6 eDescription x10), (62, oa 9 1 eS x11.1)]⟩ ?_
  refine SRun.nil ?_
  obtain rfl := inj h
  exact (Le.sub' ([(0, vl eCandidate aAList), (1, vs aAText), (2, vl eSite aASites), (3, vl eDescription aADescriptions), (10, vl eS x7.1), (11, vi x7.2), (12, .own 52), (13, .own 54), (14, .own 56), (15, .own 62), (16, vi x11.2), (73, vb (x11.2 != x7.2))] : List (Nat × SV)) ([(52, oa 87 4 eCandidate x8), (54, oa 92 3 eSite x9), (56, oa 84 6 eDescription x10), (62, oa 9 1 eS x11.1)] : List (Nat × SO)) (by kernel_rfl) (by kernel_rfl)).trans ((Le.ren' (d := 52) (e := 12) (by kernel_rfl) (by kernel_rfl) (by kernel_rfl)).trans ((Le.ren' (d := 54) (e := 13) (by kernel_rfl) (by kernel_rfl) (by kernel_rfl)).trans ((Le.ren' (d := 56) (e := 14) (by kernel_rfl) (by kernel_rfl) (by kernel_rfl)).trans ((Le.ren' (d := 62) (e := 15) (by kernel_rfl) (by kernel_rfl) (by kernel_rfl)).trans (Le.sub0)))))
  refine swp_cd h (fun h => ?_) fun h => ?_
  refine srk tbok ⟨150, [(8, vb false)], []⟩ ?_
  refine swp_ret ?_
  obtain rfl := inj h
  exact nx_r (q_fr (f1 fv))
  refine swp_skip ?_
  refine nx_n ?_
  refine swp_seq ?_
  refine sr ?_
  refine SRun.ck tbok 2 ⟨150, [(0, vl eCandidate aAList), (1, vs aAText), (2, vl eSite aASites), (3, vl eDescription aADescriptions), (10, vl eS x7.1), (11, vi x7.2), (12, .own 12), (13, .own 13), (14, .own 14), (15, .own 15), (16, vi x11.2), (74, .own 12), (75, vl eCandidate aAList)], [(12, oa 87 4 eCandidate x8), (13, oa 92 3 eSite x9), (14, oa 84 6 eDescription x10), (15, oa 9 1 eS x11.1)]⟩ ?_
  obtain ⟨x15, hx15, h⟩ := bind_some h
  refine SRun.ls (xc ents11 (laws_toCandidateS_run aAList _ hx15)) ?_
  obtain ⟨x16, hx16, h⟩ := bind_some h
  refine SRun.ls (xc ents16 (laws_eqCandidateS_run x8 x15 _ hx16)) ?_
  refine ckn tbok 1 ⟨150, [(0, vl eCandidate aAList), (1, vs aAText), (2, vl eSite aASites), (3, vl eDescription aADescriptions), (10, vl eS x7.1), (11, vi x7.2), (12, .own 12), (13, .own 13), (14, .own 14), (15, .own 15), (16, vi x11.2), (78, vb (!x16))], [(12, oa 87 4 eCandidate x8), (13, oa 92 3 eSite x9), (14, oa 84 6 eDescription x10), (15, oa 9 1 eS x11.1)]⟩ ?_
  refine swp_cd h (fun h => ?_) fun h => ?_
  refine srk tbok ⟨150, [(8, vb false)], []⟩ ?_
  refine swp_ret ?_
  obtain rfl := inj h
  exact nx_r (q_fr (f1 fv))
  refine swp_skip ?_
  refine nx_n ?_
  refine swp_seq ?_
  refine sr ?_
  refine SRun.ck tbok 2 ⟨150, [(0, vl eCandidate aAList), (1, vs aAText), (2, vl eSite aASites), (3, vl eDescription aADescriptions), (10, vl eS x7.1), (11, vi x7.2), (12, .own 12), (13, .own 13), (14, .own 14), (15, .own 15), (16, vi x11.2), (79, .own 13), (80, vl eSite aASites)], [(12, oa 87 4 eCandidate x8), (13, oa 92 3 eSite x9), (14, oa 84 6 eDescription x10), (15, oa 9 1 eS x11.1)]⟩ ?_
  obtain ⟨x17, hx17, h⟩ := bind_some h
  refine SRun.ls (xc ents12 (laws_toSiteS_run aASites _ hx17)) ?_
  obtain ⟨x18, hx18, h⟩ := bind_some h
  refine SRun.ls (xc ents17 (laws_eqSiteS_run x9 x17 _ hx18)) ?_
  refine ckn tbok 1 ⟨150, [(0, vl eCandidate aAList), (1, vs aAText), (2, vl eSite aASites), (3, vl eDescription aADescriptions), (10, vl eS x7.1), (11, vi x7.2), (12, .own 12), (13, .own 13), (14, .own 14), (15, .own 15), (16, vi x11.2), (83, vb (!x18))], [(12, oa 87 4 eCandidate x8), (13, oa 92 3 eSite x9), (14, oa 84 6 eDescription x10), (15, oa 9 1 eS x11.1)]⟩ ?_
  refine swp_cd h (fun h => ?_) fun h => ?_
  refine srk tbok ⟨150, [(8, vb false)], []⟩ ?_
  refine swp_ret ?_
  obtain rfl := inj h
  exact nx_r (q_fr (f1 fv))
  refine swp_skip ?_
  refine nx_n ?_
  refine swp_seq ?_
  refine sr ?_
  refine SRun.ck tbok 2 ⟨150, [(0, vl eCandidate aAList), (1, vs aAText), (2, vl eSite aASites), (3, vl eDescription aADescriptions), (10, vl eS x7.1), (11, vi x7.2), (12, .own 12), (13, .own 13), (14, .own 14), (15, .own 15), (16, vi x11.2), (84, .own 14), (85, vl eDescription aADescriptions)], [(12, oa 87 4 eCandidate x8), (13, oa 92 3 eSite x9), (14, oa 84 6 eDescription x10), (15, oa 9 1 eS x11.1)]⟩ ?_
  obtain ⟨x19, hx19, h⟩ := bind_some h
  refine SRun.ls (xc ents13 (laws_toDescriptionS_run aADescriptions _ hx19)) ?_
  obtain ⟨x20, hx20, h⟩ := bind_some h
  refine SRun.ls (xc ents18 (laws_eqDescriptionS_run x10 x19 _ hx20)) ?_
  refine ckn tbok 1 ⟨150, [(0, vl eCandidate aAList), (1, vs aAText), (2, vl eSite aASites), (3, vl eDescription aADescriptions), (10, vl eS x7.1), (11, vi x7.2), (12, .own 12), (13, .own 13), (14, .own 14), (15, .own 15), (16, vi x11.2), (88, vb (!x20))], [(12, oa 87 4 eCandidate x8), (13, oa 92 3 eSite x9), (14, oa 84 6 eDescription x10), (15, oa 9 1 eS x11.1)]⟩ ?_
  refine swp_cd h (fun h => ?_) fun h => ?_
  refine srk tbok ⟨150, [(8, vb false)], []⟩ ?_
  refine swp_ret ?_
  obtain rfl := inj h
  exact nx_r (q_fr (f1 fv))
  refine swp_skip ?_
  refine nx_n ?_
  refine srk tbok ⟨150, [(0, vl eCandidate aAList), (1, vs aAText), (2, vl eSite aASites), (3, vl eDescription aADescriptions), (10, vl eS x7.1), (11, vi x7.2), (12, .own 12), (13, .own 13), (14, .own 14), (15, .own 15), (16, vi x11.2), (17, vi 1)], [(12, oa 87 4 eCandidate x8), (13, oa 92 3 eSite x9), (14, oa 84 6 eDescription x10), (15, oa 9 1 eS x11.1)]⟩ ?_
  refine sr ?_
  refine SRun.ck tbok 2 ⟨150, [(0, vl eCandidate aAList), (1, vs aAText), (2, vl eSite aASites), (3, vl eDescription aADescriptions), (10, vl eS x7.1), (11, vi x7.2), (13, .own 13), (14, .own 14), (15, .own 15), (16, vi x11.2), (89, .own 12), (90, vi 1)], [(12, oa 87 4 eCandidate x8), (13, oa 92 3 eSite x9), (14, oa 84 6 eDescription x10), (15, oa 9 1 eS x11.1)]⟩ ?_
  obtain ⟨x21, hx21, h⟩ := bind_some h
  refine SRun.estep (xe ents19 (laws_markCandidateS_run x8 1 _ hx21)) ?_
  refine ckn tbok 1 ⟨150, [(0, vl eCandidate aAList), (1, vs aAText), (2, vl eSite aASites), (3, vl eDescription aADescriptions), (10, vl eS x7.1), (11, vi x7.2), (13, .own 13), (14, .own 14), (15, .own 15), (16, vi x11.2), (17, vi x21.1)], [(13, oa 92 3 eSite x9), (14, oa 84 6 eDescription x10), (15, oa 9 1 eS x11.1)]⟩ ?_
  refine sr ?_
  refine SRun.ck tbok 2 ⟨150, [(0, vl eCandidate aAList), (1, vs aAText), (2, vl eSite aASites), (3, vl eDescription aADescriptions), (10, vl eS x7.1), (11, vi x7.2), (14, .own 14), (15, .own 15), (16, vi x11.2), (92, .own 13), (93, vi x21.1)], [(13, oa 92 3 eSite x9), (14, oa 84 6 eDescription x10), (15, oa 9 1 eS x11.1)]⟩ ?_
  obtain ⟨x22, hx22, h⟩ := bind_some h
  refine SRun.estep (xe ents20 (laws_markSiteS_run x9 x21.1 _ hx22)) ?_
  refine ckn tbok 1 ⟨150, [(0, vl eCandidate aAList), (1, vs aAText), (2, vl eSite aASites), (3, vl eDescription aADescriptions), (10, vl eS x7.1), (11, vi x7.2), (14, .own 14), (15, .own 15), (16, vi x11.2), (17, vi x22.1)], [(14, oa 84 6 eDescription x10), (15, oa 9 1 eS x11.1)]⟩ ?_
  refine sr ?_
  refine SRun.ck tbok 2 ⟨150, [(0, vl eCandidate aAList), (1, vs aAText), (2, vl eSite aASites), (3, vl eDescription aADescriptions), (10, vl eS x7.1), (11, vi x7.2), (15, .own 15), (16, vi x11.2), (95, .own 14), (96, vi x22.1)], [(14, oa 84 6 eDescription x10), (15, oa 9 1 eS x11.1)]⟩ ?_
  obtain ⟨x23, hx23, h⟩ := bind_some h
  refine SRun.estep (xe ents21 (laws_markDescriptionS_run x10 x22.1 _ hx23)) ?_
  refine ckn tbok 1 ⟨150, [(0, vl eCandidate aAList), (1, vs aAText), (2, vl eSite aASites), (3, vl eDescription aADescriptions), (10, vl eS x7.1), (11, vi x7.2), (15, .own 15), (16, vi x11.2), (17, vi x23.1)], [(15, oa 9 1 eS x11.1)]⟩ ?_
  refine swp_seq ?_
  refine swp_seq ?_
  refine swp_regJ h (fun j25 => ⟨150, [(0, vl eCandidate aAList), (1, vs aAText), (2, vl eSite aASites), (3, vl eDescription aADescriptions), (10, vl eS x7.1), (11, vi x7.2), (15, .own 15), (110, vb j25)], [(15, oa 9 1 eS x11.1)]⟩) (fun v26 h => ?_) (fun j25 h => ?_)
  refine SRun.ck tbok 3 ⟨150, [(0, vl eCandidate aAList), (1, vs aAText), (2, vl eSite aASites), (3, vl eDescription aADescriptions), (10, vl eS x7.1), (11, vi x7.2), (15, .own 15), (16, vi x11.2), (100, vb (decide (x23.1 < 0)))], [(15, oa 9 1 eS x11.1)]⟩ ?_
  refine SRun.cu [(100, fun b => b)] h (fun h => ?_) fun h => ?_
  refine SRun.ck tbok 10 ⟨150, [(0, vl eCandidate aAList), (1, vs aAText), (2, vl eSite aASites), (3, vl eDescription aADescriptions), (10, vl eS x7.1), (11, vi x7.2), (15, .own 15), (110, vb true)], [(15, oa 9 1 eS x11.1)]⟩ ?_
  refine SRun.nil ?_
  obtain rfl := inj h
  exact Le.sub0
  refine SRun.ck tbok 2 ⟨150, [(0, vl eCandidate aAList), (1, vs aAText), (2, vl eSite aASites), (3, vl eDescription aADescriptions), (10, vl eS x7.1), (11, vi x7.2), (15, .own 15), (16, vi x11.2), (100, vb false), (101, .own 15), (102, vl eS x7.1)], [(15, oa 9 1 eS x11.1)]⟩ ?_
  obtain ⟨x24, hx24, h⟩ := bind_some h
  refine SRun.ls (xc ents15 (laws_eqStringS_run x11.1 x7.1 _ hx24)) ?_
  refine SRun.ck tbok 3 ⟨150, [(0, vl eCandidate aAList), (1, vs aAText), (2, vl eSite aASites), (3, vl eDescription aADescriptions), (10, vl eS x7.1), (11, vi x7.2), (15, .own 15), (16, vi x11.2), (106, vb (!x24))], [(15, oa 9 1 eS x11.1)]⟩ ?_
  refine SRun.cu [(106, fun b => b)] h (fun h => ?_) fun h => ?_
  refine SRun.ck tbok 4 ⟨150, [(0, vl eCandidate aAList), (1, vs aAText), (2, vl eSite aASites), (3, vl eDescription aADescriptions), (10, vl eS x7.1), (11, vi x7.2), (15, .own 15), (110, vb true)], [(15, oa 9 1 eS x11.1)]⟩ ?_
  refine SRun.nil ?_
  obtain rfl := inj h
  exact Le.sub0
  refine SRun.ck tbok 4 ⟨150, [(0, vl eCandidate aAList), (1, vs aAText), (2, vl eSite aASites), (3, vl eDescription aADescriptions), (10, vl eS x7.1), (11, vi x7.2), (15, .own 15), (110, vb (x11.2 != x7.2))], [(15, oa 9 1 eS x11.1)]⟩ ?_
  refine SRun.nil ?_
  obtain rfl := inj h
  exact Le.sub0
  refine swp_cd h (fun h => ?_) fun h => ?_
  refine srk tbok ⟨150, [(8, vb false)], []⟩ ?_
  refine swp_ret ?_
  obtain rfl := inj h
  exact nx_r (q_fr (f1 fv))
  refine swp_skip ?_
  refine nx_n ?_
  refine srk tbok ⟨150, [(0, vl eCandidate aAList), (1, vs aAText), (2, vl eSite aASites), (3, vl eDescription aADescriptions), (10, vl eS x7.1), (11, vi x7.2), (15, .own 15), (18, vi 1)], [(15, oa 9 1 eS x11.1)]⟩ ?_
  refine sr ?_
  refine SRun.ck tbok 2 ⟨150, [(0, vl eCandidate aAList), (1, vs aAText), (2, vl eSite aASites), (3, vl eDescription aADescriptions), (10, vl eS x7.1), (11, vi x7.2), (15, .own 15), (111, .own 15), (112, vi 1)], [(15, oa 9 1 eS x11.1)]⟩ ?_
  obtain ⟨x27, hx27, h⟩ := bind_some h
  refine SRun.estep (xe ents22 (laws_markStringS_run x11.1 1 _ hx27)) ?_
  refine ckn tbok 1 ⟨150, [(0, vl eCandidate aAList), (1, vs aAText), (2, vl eSite aASites), (3, vl eDescription aADescriptions), (10, vl eS x7.1), (11, vi x7.2), (15, .own 15), (18, vi x27.1)], [(15, oa 9 1 eS x27.2)]⟩ ?_
  refine srk tbok ⟨150, [(0, vl eCandidate aAList), (1, vs aAText), (2, vl eSite aASites), (3, vl eDescription aADescriptions), (10, vl eS x7.1), (11, vi x7.2), (15, .own 15), (18, vi x27.1), (19, vi 1)], [(15, oa 9 1 eS x27.2)]⟩ ?_
  refine sr ?_
  refine SRun.ck tbok 2 ⟨150, [(0, vl eCandidate aAList), (1, vs aAText), (2, vl eSite aASites), (3, vl eDescription aADescriptions), (10, vl eS x7.1), (11, vi x7.2), (15, .own 15), (18, vi x27.1), (114, .own 15), (115, vi 1)], [(15, oa 9 1 eS x27.2)]⟩ ?_
  obtain ⟨x28, hx28, h⟩ := bind_some h
  refine SRun.ls (xc ents23 (laws_heldStringS_run x27.2 1 _ hx28)) ?_
  refine ckn tbok 1 ⟨150, [(0, vl eCandidate aAList), (1, vs aAText), (2, vl eSite aASites), (3, vl eDescription aADescriptions), (10, vl eS x7.1), (11, vi x7.2), (15, .own 15), (18, vi x27.1), (19, vi x28)], [(15, oa 9 1 eS x27.2)]⟩ ?_
  refine swp_seq ?_
  refine srk tbok ⟨150, [(0, vl eCandidate aAList), (1, vs aAText), (2, vl eSite aASites), (3, vl eDescription aADescriptions), (10, vl eS x7.1), (11, vi x7.2), (15, .own 15), (18, vi x27.1), (19, vi x28), (118, vb (decide (x28 < 0)))], [(15, oa 9 1 eS x27.2)]⟩ ?_
  refine swp_cd h (fun h => ?_) fun h => ?_
  refine srk tbok ⟨150, [(8, vb false)], []⟩ ?_
  refine swp_ret ?_
  obtain rfl := inj h
  exact nx_r (q_fr (f1 fv))
  refine swp_skip ?_
  refine nx_n ?_
  refine swp_seq ?_
  refine srk tbok ⟨150, [(0, vl eCandidate aAList), (1, vs aAText), (2, vl eSite aASites), (3, vl eDescription aADescriptions), (10, vl eS x7.1), (11, vi x7.2), (15, .own 15), (18, vi x27.1), (121, vb (x28 != x27.1))], [(15, oa 9 1 eS x27.2)]⟩ ?_
  refine swp_cd h (fun h => ?_) fun h => ?_
  refine srk tbok ⟨150, [(8, vb false)], []⟩ ?_
  refine swp_ret ?_
  obtain rfl := inj h
  exact nx_r (q_fr (f1 fv))
  refine swp_skip ?_
  refine nx_n ?_
  refine sr ?_
  refine SRun.ck tbok 1 ⟨150, [(1, vs aAText), (2, vl eSite aASites), (3, vl eDescription aADescriptions), (10, vl eS x7.1), (11, vi x7.2), (15, .own 15), (18, vi x27.1), (123, vl eCandidate aAList)], [(15, oa 9 1 eS x27.2)]⟩ ?_
  obtain ⟨x29, hx29, h⟩ := bind_some h
  refine SRun.ls (xc ents11 (laws_toCandidateS_run aAList _ hx29)) ?_
  refine SRun.ck tbok 2 ⟨150, [(3, vl eDescription aADescriptions), (10, vl eS x7.1), (11, vi x7.2), (15, .own 15), (18, vi x27.1), (124, .own 124), (125, vs aAText), (126, vl eSite aASites)], [(15, oa 9 1 eS x27.2), (124, oa 87 4 eCandidate x29)]⟩ ?_
  obtain ⟨x30, hx30, h⟩ := bind_some h
  refine SRun.ls (xc ents12 (laws_toSiteS_run aASites _ hx30)) ?_
  refine SRun.ck tbok 1 ⟨150, [(10, vl eS x7.1), (11, vi x7.2), (15, .own 15), (18, vi x27.1), (124, .own 124), (125, vs aAText), (127, .own 127), (128, vl eDescription aADescriptions)], [(15, oa 9 1 eS x27.2), (124, oa 87 4 eCandidate x29), (127, oa 92 3 eSite x30)]⟩ ?_
  obtain ⟨x31, hx31, h⟩ := bind_some h
  refine SRun.ls (xc ents13 (laws_toDescriptionS_run aADescriptions _ hx31)) ?_
  obtain ⟨x32, hx32, h⟩ := bind_some h
  refine SRun.ls (xc ents25 (impl_ExactAnswers_run x29 aAText x30 x31 _ hx32)) ?_
  refine ckn tbok 5 ⟨150, [(10, vl eS x7.1), (11, vi x7.2), (15, .own 15), (18, vi x27.1), (20, .own 130), (21, vi x32.2)], [(15, oa 9 1 eS x27.2), (130, oa 9 1 eS x32.1)]⟩ ?_
  refine swp_seq ?_
  refine swp_seq ?_
  refine swp_regJ h (fun j34 => ⟨150, [(15, .own 15), (18, vi x27.1), (141, vb j34)], [(15, oa 9 1 eS x27.2)]⟩) (fun v35 h => ?_) (fun j34 h => ?_)
  refine SRun.ck tbok 2 ⟨150, [(11, vi x7.2), (15, .own 15), (18, vi x27.1), (21, vi x32.2), (133, .own 130), (134, vl eS x7.1)], [(15, oa 9 1 eS x27.2), (130, oa 9 1 eS x32.1)]⟩ ?_
  obtain ⟨x33, hx33, h⟩ := bind_some h
  refine SRun.ls (xc ents15 (laws_eqStringS_run x32.1 x7.1 _ hx33)) ?_
  refine SRun.ck tbok 2 ⟨150, [(11, vi x7.2), (15, .own 15), (18, vi x27.1), (21, vi x32.2), (137, vb (!x33))], [(15, oa 9 1 eS x27.2)]⟩ ?_
  refine SRun.cu [(137, fun b => b)] h (fun h => ?_) fun h => ?_
  refine SRun.ck tbok 4 ⟨150, [(15, .own 15), (18, vi x27.1), (141, vb true)], [(15, oa 9 1 eS x27.2)]⟩ ?_
  refine SRun.nil ?_
  obtain rfl := inj h
  exact Le.sub0
  refine SRun.ck tbok 4 ⟨150, [(15, .own 15), (18, vi x27.1), (141, vb (x32.2 != x7.2))], [(15, oa 9 1 eS x27.2)]⟩ ?_
  refine SRun.nil ?_
  obtain rfl := inj h
  exact Le.sub0
  refine swp_cd h (fun h => ?_) fun h => ?_
  refine srk tbok ⟨150, [(8, vb false)], []⟩ ?_
  refine swp_ret ?_
  obtain rfl := inj h
  exact nx_r (q_fr (f1 fv))
  refine swp_skip ?_
  refine nx_n ?_
  refine srk tbok ⟨150, [(15, .own 15), (18, vi x27.1), (19, vi 1)], [(15, oa 9 1 eS x27.2)]⟩ ?_
  refine sr ?_
  refine SRun.ck tbok 2 ⟨150, [(18, vi x27.1), (142, .own 15), (143, vi 1)], [(15, oa 9 1 eS x27.2)]⟩ ?_
  obtain ⟨x36, hx36, h⟩ := bind_some h
  refine SRun.ls (xc ents23 (laws_heldStringS_run x27.2 1 _ hx36)) ?_
  refine ckn tbok 1 ⟨150, [(18, vi x27.1), (19, vi x36)], []⟩ ?_
  refine swp_seq ?_
  refine srk tbok ⟨150, [(18, vi x27.1), (19, vi x36), (146, vb (decide (x36 < 0)))], []⟩ ?_
  refine swp_cd h (fun h => ?_) fun h => ?_
  refine srk tbok ⟨150, [(8, vb false)], []⟩ ?_
  refine swp_ret ?_
  obtain rfl := inj h
  exact nx_r (q_fr (f1 fv))
  refine swp_skip ?_
  refine nx_n ?_
  refine swp_seq ?_
  refine srk tbok ⟨150, [(149, vb (x36 != x27.1))], []⟩ ?_
  refine swp_cd h (fun h => ?_) fun h => ?_
  refine srk tbok ⟨150, [(8, vb false)], []⟩ ?_
  refine swp_ret ?_
  obtain rfl := inj h
  exact nx_r (q_fr (f1 fv))
  refine swp_skip ?_
  refine nx_n ?_
  refine srk tbok ⟨150, [(8, vb true)], []⟩ ?_
  refine swp_ret ?_
  obtain rfl := inj h
  exact q_fr (f1 fv)
end Go.Proofs.YtodgenjlhiiieaaGreatDoor.Sh
