/- Typed functions and the calls that do what they say. -/
import Derived.Test.YtodgenjlhiiieaaGreatDoorGBp1
import Derived.Test.YtodgenjlhiiieaaGreatDoorKA
import Derived.Test.YtodgenjlhiiieaaGreatDoorKC
import Derived.Test.YtodgenjlhiiieaaGreatDoorKF
import Derived.Test.YtodgenjlhiiieaaGreatDoorKS
import Derived.Test.YtodgenjlhiiieaaGreatDoorSN
import Derived.Test.YtodgenjlhiiieaaGreatDoorH1
namespace Go.Proofs.YtodgenjlhiiieaaGreatDoor.Sh
open Go.RowKit
set_option maxRecDepth 100000
set_option maxHeartbeats 4000000
noncomputable def spec_l30Ranked (aList : (List Candidate)) (aText : ByteArray) (aSites : (List Site)) (aDescriptions : (List Description)) : Option ((List Answer)) :=
  (((forS (aList.length : Int) (fun (i3 : Int) (s3 : (List Answer)) => ((at' aList i3).bind fun x7 => ((spec_l30Answer x7 aText aSites aDescriptions).bind fun x8 => (((loop (fun (s11 : Int) => (((bif (decide (s11 < (s3.length : Int))) then ((at' s3 s11).bind fun x13 => ((spec_l30Before x13 x8).bind fun x14 => some x14)) else some false)).bind fun (j15 : Bool) => (bif j15 then some (.inl (w64 (s11 + 1))) else some (.inr s11)))) 0)).bind fun (j9 : Int) => ((part' s3 0 j9).bind fun x17 => ((app' ([] : List Answer) x17).bind fun x18 => ((app' x18 ([x8] : List Answer)).bind fun x19 => ((part' s3 j9 (s3.length : Int)).bind fun x20 => ((app' x19 x20).bind fun x21 => some x21))))))))) (fun (s3 : (List Answer)) => s3) 0 ([] : List Answer))).bind fun (j1 : (List Answer)) => some j1)
theorem spec_l30Ranked_run (aList : (List Candidate)) (aText : ByteArray) (aSites : (List Site)) (aDescriptions : (List Description)) (r : (List Answer)) (h : spec_l30Ranked aList aText aSites aDescriptions = some r) : SCall Tryz.prog 82 [.v (vl eCandidate aList), .v (vs aText), .v (vl eSite aSites), .v (vl eDescription aDescriptions)] ⟨[.own 59 3 r.length (r.map eAnswer)], [], false⟩ := by
  refine scall_in Tryz.func82 rfl [(.tmp 8)] rfl (fun r => ⟨[.own 59 3 r.length (r.map eAnswer)], [], false⟩) (r := r) ?_
  unfold spec_l30Ranked at h
  refine srk tbok ⟨55, [(0, vl eCandidate aList), (1, vs aText), (2, vl eSite aSites), (3, vl eDescription aDescriptions)], []⟩ ?_
  refine srk tbok ⟨55, [(0, vl eCandidate aList), (1, vs aText), (2, vl eSite aSites), (3, vl eDescription aDescriptions), (9, .own 13)], [(13, oa 59 3 eAnswer ([] : List Answer))]⟩ ?_
  refine swp_seq ?_
  refine srk tbok ⟨55, [(0, vl eCandidate aList), (1, vs aText), (2, vl eSite aSites), (3, vl eDescription aDescriptions), (9, .own 13), (10, vi 0)], [(13, oa 59 3 eAnswer ([] : List Answer))]⟩ ?_
  refine swp_seqJ h (fun j1 => ⟨55, [(9, .own 9)], [(9, oa 59 3 eAnswer j1)]⟩) (fun v2 h => ?_) (fun j1 h => ?_)
  refine swp_blk (a := v2) ?_
  refine swp_lpL (r := v2) (s := (0, ([] : List Answer))) _ (fun s3 => ⟨55, [(0, vl eCandidate aList), (1, vs aText), (2, vl eSite aSites), (3, vl eDescription aDescriptions), (9, .own 9), (10, vi s3.1)], [(9, oa 59 3 eAnswer s3.2)]⟩) _ (Le.rr [13] [(13, 9)]) h (fun s3 v4 h => ?_)
  refine swp_seq ?_
  refine srk tbok ⟨55, [(0, vl eCandidate aList), (1, vs aText), (2, vl eSite aSites), (3, vl eDescription aDescriptions), (9, .own 9), (10, vi s3.1), (17, vb (decide (s3.1 < (aList.length : Int))))], [(9, oa 59 3 eAnswer s3.2)]⟩ ?_
  refine swp_cd h (fun h => ?_) fun h => ?_
  refine swp_skip ?_
  refine nx_n ?_
  refine swp_seq ?_
  refine swp_seqJ h (fun j5 => ⟨55, [(0, vl eCandidate aList), (1, vs aText), (2, vl eSite aSites), (3, vl eDescription aDescriptions), (9, .own 9), (10, vi s3.1)], [(9, oa 59 3 eAnswer j5)]⟩) (fun v6 h => ?_) (fun j5 h => ?_)
  refine swp_blk (a := v6) ?_
  refine sr ?_
  refine SRun.ck tbok 2 ⟨55, [(0, vl eCandidate aList), (1, vs aText), (2, vl eSite aSites), (3, vl eDescription aDescriptions), (9, .own 9), (10, vi s3.1), (20, vl eCandidate aList), (21, vi s3.1)], [(9, oa 59 3 eAnswer s3.2)]⟩ ?_
  obtain ⟨x7, hx7, h⟩ := bind_some h
  refine SRun.ls (x_index (L := aList) (f := eCandidate) (ti := ti31) (tj := ti87) (e := 87) (k := .i64) tbok rfl hx7) ?_
  refine SRun.ck tbok 4 ⟨55, [(0, vl eCandidate aList), (1, vs aText), (2, vl eSite aSites), (3, vl eDescription aDescriptions), (9, .own 9), (10, vi s3.1), (23, .agg (tc eCandidate x7)), (24, vs aText), (25, vl eSite aSites), (26, vl eDescription aDescriptions)], [(9, oa 59 3 eAnswer s3.2)]⟩ ?_
  obtain ⟨x8, hx8, h⟩ := bind_some h
  refine SRun.ls (xc ents67 (spec_l30Answer_run x7 aText aSites aDescriptions _ hx8)) ?_
  refine ckn tbok 2 ⟨55, [(0, vl eCandidate aList), (1, vs aText), (2, vl eSite aSites), (3, vl eDescription aDescriptions), (9, .own 9), (10, vi s3.1), (11, .ref 11 0)], [(9, oa 59 3 eAnswer s3.2), (11, .box (tc eAnswer x8))]⟩ ?_
  refine srk tbok ⟨55, [(0, vl eCandidate aList), (1, vs aText), (2, vl eSite aSites), (3, vl eDescription aDescriptions), (9, .own 9), (10, vi s3.1), (11, .ref 11 0), (12, vi 0)], [(9, oa 59 3 eAnswer s3.2), (11, .box (tc eAnswer x8))]⟩ ?_
  refine swp_seq ?_
  refine swp_seqJ h (fun j9 => ⟨55, [(0, vl eCandidate aList), (1, vs aText), (2, vl eSite aSites), (3, vl eDescription aDescriptions), (9, .own 9), (10, vi s3.1), (11, .ref 11 0), (12, vi j9)], [(9, oa 59 3 eAnswer s3.2), (11, .box (tc eAnswer x8))]⟩) (fun v10 h => ?_) (fun j9 h => ?_)
  refine swp_blk (a := v10) ?_
  refine swp_lpL (r := v10) (s := 0) _ (fun s11 => ⟨55, [(0, vl eCandidate aList), (1, vs aText), (2, vl eSite aSites), (3, vl eDescription aDescriptions), (9, .own 9), (10, vi s3.1), (11, .ref 11 0), (12, vi s11)], [(9, oa 59 3 eAnswer s3.2), (11, .box (tc eAnswer x8))]⟩) _ (Le.sub0) h (fun s11 v12 h => ?_)
  refine swp_seq ?_
  refine swp_seq ?_
  refine swp_drJ mixed h (fun j15 => ⟨55, [(0, vl eCandidate aList), (1, vs aText), (2, vl eSite aSites), (3, vl eDescription aDescriptions), (9, .own 9), (10, vi s3.1), (11, .ref 11 0), (12, vi s11), (39, vb j15)], [(9, oa 59 3 eAnswer s3.2), (11, .box (tc eAnswer x8))]⟩) (fun v16 h => ?_) (fun j15 h => ?_)
  refine DGo.ck tbok false 5 ⟨55, [(0, vl eCandidate aList), (1, vs aText), (2, vl eSite aSites), (3, vl eDescription aDescriptions), (9, .own 9), (10, vi s3.1), (11, .ref 11 0), (12, vi s11), (32, vb (decide (s11 < (s3.2.length : Int))))], [(9, oa 59 3 eAnswer s3.2), (11, .box (tc eAnswer x8))]⟩ ?_
  refine DGo.cu [(32, fun b => b)] h (fun h => ?_) fun h => ?_
  refine DGo.ck tbok false 2 ⟨55, [(0, vl eCandidate aList), (1, vs aText), (2, vl eSite aSites), (3, vl eDescription aDescriptions), (9, .own 9), (10, vi s3.1), (11, .ref 11 0), (12, vi s11), (32, vb true), (33, .own 9), (34, vi s11)], [(9, oa 59 3 eAnswer s3.2), (11, .box (tc eAnswer x8))]⟩ ?_
  obtain ⟨x13, hx13, h⟩ := bind_some h
  refine DGo.step (x_index_own (d := 9) (L := s3.2) (f := eAnswer) (ti := ti62) (tj := ti59) (e := 59) (e' := 59) (m := 3) (k := .i64) tbok rfl hx13) ?_
  refine DGo.step (x_load_own (d := 9) (m := 3) (j := 0) (L := s3.2) (f := eAnswer) (ti := ti59) (e := 59) (v := .agg (tc eAnswer x13)) tbok rfl hx13) ?_
  refine DGo.ck tbok false 1 ⟨55, [(0, vl eCandidate aList), (1, vs aText), (2, vl eSite aSites), (3, vl eDescription aDescriptions), (9, .own 9), (10, vi s3.1), (11, .ref 11 0), (12, vi s11), (32, vb true), (36, .agg (tc eAnswer x13)), (37, .agg (tc eAnswer x8))], [(9, oa 59 3 eAnswer s3.2), (11, .box (tc eAnswer x8))]⟩ ?_
  obtain ⟨x14, hx14, h⟩ := bind_some h
  refine DGo.step (xc ents131 (spec_l30Before_run x13 x8 _ hx14)) ?_
  refine DGo.ck tbok false 1 ⟨55, [(0, vl eCandidate aList), (1, vs aText), (2, vl eSite aSites), (3, vl eDescription aDescriptions), (9, .own 9), (10, vi s3.1), (11, .ref 11 0), (12, vi s11), (39, vb x14)], [(9, oa 59 3 eAnswer s3.2), (11, .box (tc eAnswer x8))]⟩ ?_
  refine DGo.nil (by kernel_rfl) ?_
  obtain rfl := inj h
  exact Le.sub0
  refine DGo.ck tbok false 7 ⟨55, [(0, vl eCandidate aList), (1, vs aText), (2, vl eSite aSites), (3, vl eDescription aDescriptions), (9, .own 9), (10, vi s3.1), (11, .ref 11 0), (12, vi s11), (39, vb false)], [(9, oa 59 3 eAnswer s3.2), (11, .box (tc eAnswer x8))]⟩ ?_
  refine DGo.nil (by kernel_rfl) ?_
  obtain rfl := inj h
  exact Le.sub0
  refine swp_cd h (fun h => ?_) fun h => ?_
  refine swp_skip ?_
  refine nx_n ?_
  refine swp_blk (a := v12) ?_
  refine swp_reg ?_
  refine SRun.ck tbok 3 ⟨55, [(0, vl eCandidate aList), (1, vs aText), (2, vl eSite aSites), (3, vl eDescription aDescriptions), (9, .own 9), (10, vi s3.1), (11, .ref 11 0), (12, vi (w64 (s11 + 1)))], [(9, oa 59 3 eAnswer s3.2), (11, .box (tc eAnswer x8))]⟩ ?_
  refine SRun.nil ?_
  obtain rfl := inj h
  exact q_bn (q_l (Le.sub0))
  refine swp_exit ?_
  obtain rfl := inj h
  exact nx_e (q_re (q_bh (q_j (Le.sub0))))
  refine swp_le (Le.frz' (d := 9) (e := 59) (m := 3) (n := s3.2.length) (es := s3.2.map eAnswer) (by kernel_rfl) (by kernel_rfl)) ?_
  obtain ⟨x17, hx17, h⟩ := bind_some h
  obtain ⟨x18, hx18, h⟩ := bind_some h
  obtain ⟨x19, hx19, h⟩ := bind_some h
  obtain ⟨x20, hx20, h⟩ := bind_some h
  obtain ⟨x21, hx21, h⟩ := bind_some h
  refine swp_dr mixed ?_
  refine DGo.enum (σE := ⟨55, [(0, vl eCandidate aList), (1, vs aText), (2, vl eSite aSites), (3, vl eDescription aDescriptions), (9, .own 53), (10, vi s3.1)], [(53, oa 59 3 eAnswer x21)]⟩) (n := 13) (L0 := #[false, false, false, false, false, false, false, false, false, false, false, false, false]) (by kernel_rfl) (by kernel_rfl) (fun K hk => ?_) ?_
  refine DE.share (fuel := 0) (L := #[true, true, true, true, true, true, true, true, true, true, true, true, true]) (σ := ⟨55, [(0, vl eCandidate aList), (1, vs aText), (2, vl eSite aSites), (3, vl eDescription aDescriptions), (9, .own 53), (10, vi s3.1)], [(53, oa 59 3 eAnswer x21)]⟩) ?_ (fun d37 => ?_)
  exact DE.done (by kernel_rfl) hk
  refine DE.share (fuel := 1) (L := #[true, true, true, true, true, true, true, true, true, true, true, true, false]) (σ := ⟨55, [(0, vl eCandidate aList), (1, vs aText), (2, vl eSite aSites), (3, vl eDescription aDescriptions), (9, vl eAnswer s3.2), (10, vi s3.1), (53, .own 53)], [(53, oa 59 3 eAnswer x21)]⟩) ?_ (fun d36 => ?_)
  exact DE.take (i := 12) (L' := #[true, true, true, true, true, true, true, true, true, true, true, true, true]) rfl (.inr rfl) rfl (by kernel_rfl) (by kernel_rfl) (by kernel_rfl) (EStep.le (EStep.ofN2 tbok (σ' := ⟨55, [(9, .own 53), (0, vl eCandidate aList), (1, vs aText), (2, vl eSite aSites), (3, vl eDescription aDescriptions), (10, vi s3.1), (53, .own 53)], [(53, oa 59 3 eAnswer x21)]⟩) (by kernel_rfl)) Le.sub0) (by kernel_rfl) d37
  refine DE.share (fuel := 2) (L := #[true, true, true, true, true, true, true, true, true, true, true, false, false]) (σ := ⟨55, [(0, vl eCandidate aList), (1, vs aText), (2, vl eSite aSites), (3, vl eDescription aDescriptions), (9, vl eAnswer s3.2), (10, vi s3.1), (49, .own 49), (52, vl eAnswer x20)], [(49, oa 59 3 eAnswer x19)]⟩) ?_ (fun d35 => ?_)
  exact DE.all [11] (by kernel_rfl) (by simp) (List.forall_mem_cons.2 ⟨DEs.mk (i := 11) (L' := #[true, true, true, true, true, true, true, true, true, true, true, true, false]) rfl (EStep.le (x_append (f := eAnswer) (t := 62) (ti := ti62) (tj := ti59) (zs := [.string (ByteArray.mk #[]), .int .i64 0, .int .i64 0]) (e := 59) (m := 3) (d := 49) (xv := vl eAnswer x20) hx21 tbok rfl rfl rfl rfl (src_e (fun _ => rfl))) Le.sub0) (by kernel_rfl) d36, (fun _ h => absurd h List.not_mem_nil)⟩)
  refine DE.share (fuel := 3) (L := #[true, true, true, true, true, true, true, false, true, true, true, false, false]) (σ := ⟨55, [(0, vl eCandidate aList), (1, vs aText), (2, vl eSite aSites), (3, vl eDescription aDescriptions), (9, vl eAnswer s3.2), (10, vi s3.1), (46, .own 46), (48, .own 48), (52, vl eAnswer x20)], [(46, oa 59 3 eAnswer x18), (48, oa 59 3 eAnswer ([x8] : List Answer))]⟩) ?_ (fun d34 => ?_)
  exact DE.all [7] (by kernel_rfl) (by simp) (List.forall_mem_cons.2 ⟨DEs.mk (i := 7) (L' := #[true, true, true, true, true, true, true, true, true, true, true, false, false]) rfl (EStep.le (x_append (f := eAnswer) (t := 62) (ti := ti62) (tj := ti59) (zs := [.string (ByteArray.mk #[]), .int .i64 0, .int .i64 0]) (e := 59) (m := 3) (d := 46) (xv := .own 48) hx19 tbok rfl rfl rfl rfl (x_src_o (e := 59))) Le.sub0) (by kernel_rfl) d35, (fun _ h => absurd h List.not_mem_nil)⟩)
  refine DE.share (fuel := 3) (L := #[true, true, true, true, true, true, true, true, true, true, false, false, false]) (σ := ⟨55, [(0, vl eCandidate aList), (1, vs aText), (2, vl eSite aSites), (3, vl eDescription aDescriptions), (9, vl eAnswer s3.2), (10, vi s3.1), (49, .own 49), (50, vl eAnswer s3.2), (51, vi j9)], [(49, oa 59 3 eAnswer x19)]⟩) ?_ (fun d33 => ?_)
  exact DE.all [10] (by kernel_rfl) (by simp) (List.forall_mem_cons.2 ⟨DEs.mk (i := 10) (L' := #[true, true, true, true, true, true, true, true, true, true, true, false, false]) rfl (EStep.le (EStep.ofL (x_slice (m := 3) (f := eAnswer) (ti := ti62) (tj := ti59) (e := 59) hx20 (fun _ => rfl) tbok rfl) (by kernel_rfl)) Le.sub0) (by kernel_rfl) d35, (fun _ h => absurd h List.not_mem_nil)⟩)
  refine DE.share (fuel := 4) (L := #[true, true, true, true, false, true, true, false, true, true, true, false, false]) (σ := ⟨55, [(0, vl eCandidate aList), (1, vs aText), (2, vl eSite aSites), (3, vl eDescription aDescriptions), (9, vl eAnswer s3.2), (10, vi s3.1), (42, .own 42), (45, vl eAnswer x17), (48, .own 48), (52, vl eAnswer x20)], [(42, oa 59 3 eAnswer ([] : List Answer)), (48, oa 59 3 eAnswer ([x8] : List Answer))]⟩) ?_ (fun d32 => ?_)
  exact DE.all [4] (by kernel_rfl) (by simp) (List.forall_mem_cons.2 ⟨DEs.mk (i := 4) (L' := #[true, true, true, true, true, true, true, false, true, true, true, false, false]) rfl (EStep.le (x_append (f := eAnswer) (t := 62) (ti := ti62) (tj := ti59) (zs := [.string (ByteArray.mk #[]), .int .i64 0, .int .i64 0]) (e := 59) (m := 3) (d := 42) (xv := vl eAnswer x17) hx18 tbok rfl rfl rfl rfl (src_e (fun _ => rfl))) Le.sub0) (by kernel_rfl) d34, (fun _ h => absurd h List.not_mem_nil)⟩)
  refine DE.share (fuel := 4) (L := #[true, true, true, true, true, true, false, false, true, true, true, false, false]) (σ := ⟨55, [(0, vl eCandidate aList), (1, vs aText), (2, vl eSite aSites), (3, vl eDescription aDescriptions), (9, vl eAnswer s3.2), (10, vi s3.1), (46, .own 46), (47, .agg (tc eAnswer x8)), (52, vl eAnswer x20)], [(46, oa 59 3 eAnswer x18)]⟩) ?_ (fun d31 => ?_)
  exact DE.all [6] (by kernel_rfl) (by simp) (List.forall_mem_cons.2 ⟨DEs.mk (i := 6) (L' := #[true, true, true, true, true, true, true, false, true, true, true, false, false]) rfl (EStep.le (EStep.ofN2 tbok (σ' := ⟨55, [(48, .own 48), (0, vl eCandidate aList), (1, vs aText), (2, vl eSite aSites), (3, vl eDescription aDescriptions), (9, vl eAnswer s3.2), (10, vi s3.1), (46, .own 46), (47, .agg (tc eAnswer x8)), (52, vl eAnswer x20)], [(48, oa 59 3 eAnswer ([x8] : List Answer)), (46, oa 59 3 eAnswer x18)]⟩) (by kernel_rfl)) Le.sub0) (by kernel_rfl) d34, (fun _ h => absurd h List.not_mem_nil)⟩)
  refine DE.share (fuel := 4) (L := #[true, true, true, true, true, true, true, false, true, true, false, false, false]) (σ := ⟨55, [(0, vl eCandidate aList), (1, vs aText), (2, vl eSite aSites), (3, vl eDescription aDescriptions), (9, vl eAnswer s3.2), (10, vi s3.1), (46, .own 46), (48, .own 48), (50, vl eAnswer s3.2), (51, vi j9)], [(46, oa 59 3 eAnswer x18), (48, oa 59 3 eAnswer ([x8] : List Answer))]⟩) ?_ (fun d30 => ?_)
  exact DE.all [7, 10] (by kernel_rfl) (by simp) (List.forall_mem_cons.2 ⟨DEs.mk (i := 7) (L' := #[true, true, true, true, true, true, true, true, true, true, false, false, false]) rfl (EStep.le (x_append (f := eAnswer) (t := 62) (ti := ti62) (tj := ti59) (zs := [.string (ByteArray.mk #[]), .int .i64 0, .int .i64 0]) (e := 59) (m := 3) (d := 46) (xv := .own 48) hx19 tbok rfl rfl rfl rfl (x_src_o (e := 59))) Le.sub0) (by kernel_rfl) d33, (List.forall_mem_cons.2 ⟨DEs.mk (i := 10) (L' := #[true, true, true, true, true, true, true, false, true, true, true, false, false]) rfl (EStep.le (EStep.ofL (x_slice (m := 3) (f := eAnswer) (ti := ti62) (tj := ti59) (e := 59) hx20 (fun _ => rfl) tbok rfl) (by kernel_rfl)) Le.sub0) (by kernel_rfl) d34, (fun _ h => absurd h List.not_mem_nil)⟩)⟩)
  refine DE.share (fuel := 5) (L := #[false, true, true, true, false, true, true, false, true, true, true, false, false]) (σ := ⟨55, [(0, vl eCandidate aList), (1, vs aText), (2, vl eSite aSites), (3, vl eDescription aDescriptions), (9, vl eAnswer s3.2), (10, vi s3.1), (45, vl eAnswer x17), (48, .own 48), (52, vl eAnswer x20)], [(48, oa 59 3 eAnswer ([x8] : List Answer))]⟩) ?_ (fun d29 => ?_)
  exact DE.all [0] (by kernel_rfl) (by simp) (List.forall_mem_cons.2 ⟨DEs.mk (i := 0) (L' := #[true, true, true, true, false, true, true, false, true, true, true, false, false]) rfl (EStep.le (EStep.ofN2 tbok (σ' := ⟨55, [(42, .own 42), (0, vl eCandidate aList), (1, vs aText), (2, vl eSite aSites), (3, vl eDescription aDescriptions), (9, vl eAnswer s3.2), (10, vi s3.1), (45, vl eAnswer x17), (48, .own 48), (52, vl eAnswer x20)], [(42, oa 59 3 eAnswer ([] : List Answer)), (48, oa 59 3 eAnswer ([x8] : List Answer))]⟩) (by kernel_rfl)) Le.sub0) (by kernel_rfl) d32, (fun _ h => absurd h List.not_mem_nil)⟩)
  refine DE.share (fuel := 5) (L := #[true, true, true, false, false, true, true, false, true, true, true, false, false]) (σ := ⟨55, [(0, vl eCandidate aList), (1, vs aText), (2, vl eSite aSites), (3, vl eDescription aDescriptions), (9, vl eAnswer s3.2), (10, vi s3.1), (42, .own 42), (43, vl eAnswer s3.2), (44, vi j9), (48, .own 48), (52, vl eAnswer x20)], [(42, oa 59 3 eAnswer ([] : List Answer)), (48, oa 59 3 eAnswer ([x8] : List Answer))]⟩) ?_ (fun d28 => ?_)
  exact DE.all [3] (by kernel_rfl) (by simp) (List.forall_mem_cons.2 ⟨DEs.mk (i := 3) (L' := #[true, true, true, true, false, true, true, false, true, true, true, false, false]) rfl (EStep.le (EStep.ofL (x_slice (m := 3) (f := eAnswer) (ti := ti62) (tj := ti59) (e := 59) hx17 (fun _ => rfl) tbok rfl) (by kernel_rfl)) Le.sub0) (by kernel_rfl) d32, (fun _ h => absurd h List.not_mem_nil)⟩)
  refine DE.share (fuel := 5) (L := #[true, true, true, true, false, true, false, false, true, true, true, false, false]) (σ := ⟨55, [(0, vl eCandidate aList), (1, vs aText), (2, vl eSite aSites), (3, vl eDescription aDescriptions), (9, vl eAnswer s3.2), (10, vi s3.1), (42, .own 42), (45, vl eAnswer x17), (47, .agg (tc eAnswer x8)), (52, vl eAnswer x20)], [(42, oa 59 3 eAnswer ([] : List Answer))]⟩) ?_ (fun d27 => ?_)
  exact DE.all [4, 6] (by kernel_rfl) (by simp) (List.forall_mem_cons.2 ⟨DEs.mk (i := 4) (L' := #[true, true, true, true, true, true, false, false, true, true, true, false, false]) rfl (EStep.le (x_append (f := eAnswer) (t := 62) (ti := ti62) (tj := ti59) (zs := [.string (ByteArray.mk #[]), .int .i64 0, .int .i64 0]) (e := 59) (m := 3) (d := 42) (xv := vl eAnswer x17) hx18 tbok rfl rfl rfl rfl (src_e (fun _ => rfl))) Le.sub0) (by kernel_rfl) d31, (List.forall_mem_cons.2 ⟨DEs.mk (i := 6) (L' := #[true, true, true, true, false, true, true, false, true, true, true, false, false]) rfl (EStep.le (EStep.ofN2 tbok (σ' := ⟨55, [(48, .own 48), (0, vl eCandidate aList), (1, vs aText), (2, vl eSite aSites), (3, vl eDescription aDescriptions), (9, vl eAnswer s3.2), (10, vi s3.1), (42, .own 42), (45, vl eAnswer x17), (47, .agg (tc eAnswer x8)), (52, vl eAnswer x20)], [(48, oa 59 3 eAnswer ([x8] : List Answer)), (42, oa 59 3 eAnswer ([] : List Answer))]⟩) (by kernel_rfl)) Le.sub0) (by kernel_rfl) d32, (fun _ h => absurd h List.not_mem_nil)⟩)⟩)
  refine DE.share (fuel := 5) (L := #[true, true, true, true, false, true, true, false, true, true, false, false, false]) (σ := ⟨55, [(0, vl eCandidate aList), (1, vs aText), (2, vl eSite aSites), (3, vl eDescription aDescriptions), (9, vl eAnswer s3.2), (10, vi s3.1), (42, .own 42), (45, vl eAnswer x17), (48, .own 48), (50, vl eAnswer s3.2), (51, vi j9)], [(42, oa 59 3 eAnswer ([] : List Answer)), (48, oa 59 3 eAnswer ([x8] : List Answer))]⟩) ?_ (fun d26 => ?_)
  exact DE.all [4, 10] (by kernel_rfl) (by simp) (List.forall_mem_cons.2 ⟨DEs.mk (i := 4) (L' := #[true, true, true, true, true, true, true, false, true, true, false, false, false]) rfl (EStep.le (x_append (f := eAnswer) (t := 62) (ti := ti62) (tj := ti59) (zs := [.string (ByteArray.mk #[]), .int .i64 0, .int .i64 0]) (e := 59) (m := 3) (d := 42) (xv := vl eAnswer x17) hx18 tbok rfl rfl rfl rfl (src_e (fun _ => rfl))) Le.sub0) (by kernel_rfl) d30, (List.forall_mem_cons.2 ⟨DEs.mk (i := 10) (L' := #[true, true, true, true, false, true, true, false, true, true, true, false, false]) rfl (EStep.le (EStep.ofL (x_slice (m := 3) (f := eAnswer) (ti := ti62) (tj := ti59) (e := 59) hx20 (fun _ => rfl) tbok rfl) (by kernel_rfl)) Le.sub0) (by kernel_rfl) d32, (fun _ h => absurd h List.not_mem_nil)⟩)⟩)
  refine DE.share (fuel := 5) (L := #[true, true, true, true, true, false, false, false, true, true, true, false, false]) (σ := ⟨55, [(0, vl eCandidate aList), (1, vs aText), (2, vl eSite aSites), (3, vl eDescription aDescriptions), (9, vl eAnswer s3.2), (10, vi s3.1), (11, .ref 11 0), (46, .own 46), (52, vl eAnswer x20)], [(11, .box (tc eAnswer x8)), (46, oa 59 3 eAnswer x18)]⟩) ?_ (fun d25 => ?_)
  exact DE.all [5] (by kernel_rfl) (by simp) (List.forall_mem_cons.2 ⟨DEs.mk (i := 5) (L' := #[true, true, true, true, true, true, false, false, true, true, true, false, false]) rfl (EStep.le (EStep.ofN2 tbok (σ' := ⟨55, [(47, .agg (tc eAnswer x8)), (0, vl eCandidate aList), (1, vs aText), (2, vl eSite aSites), (3, vl eDescription aDescriptions), (9, vl eAnswer s3.2), (10, vi s3.1), (11, .ref 11 0), (46, .own 46), (52, vl eAnswer x20)], [(11, .box (tc eAnswer x8)), (46, oa 59 3 eAnswer x18)]⟩) (by kernel_rfl)) Le.sub0) (by kernel_rfl) d31, (fun _ h => absurd h List.not_mem_nil)⟩)
  refine DE.share (fuel := 5) (L := #[true, true, true, true, true, true, false, false, true, true, false, false, false]) (σ := ⟨55, [(0, vl eCandidate aList), (1, vs aText), (2, vl eSite aSites), (3, vl eDescription aDescriptions), (9, vl eAnswer s3.2), (10, vi s3.1), (46, .own 46), (47, .agg (tc eAnswer x8)), (50, vl eAnswer s3.2), (51, vi j9)], [(46, oa 59 3 eAnswer x18)]⟩) ?_ (fun d24 => ?_)
  exact DE.all [6, 10] (by kernel_rfl) (by simp) (List.forall_mem_cons.2 ⟨DEs.mk (i := 6) (L' := #[true, true, true, true, true, true, true, false, true, true, false, false, false]) rfl (EStep.le (EStep.ofN2 tbok (σ' := ⟨55, [(48, .own 48), (0, vl eCandidate aList), (1, vs aText), (2, vl eSite aSites), (3, vl eDescription aDescriptions), (9, vl eAnswer s3.2), (10, vi s3.1), (46, .own 46), (47, .agg (tc eAnswer x8)), (50, vl eAnswer s3.2), (51, vi j9)], [(48, oa 59 3 eAnswer ([x8] : List Answer)), (46, oa 59 3 eAnswer x18)]⟩) (by kernel_rfl)) Le.sub0) (by kernel_rfl) d30, (List.forall_mem_cons.2 ⟨DEs.mk (i := 10) (L' := #[true, true, true, true, true, true, false, false, true, true, true, false, false]) rfl (EStep.le (EStep.ofL (x_slice (m := 3) (f := eAnswer) (ti := ti62) (tj := ti59) (e := 59) hx20 (fun _ => rfl) tbok rfl) (by kernel_rfl)) Le.sub0) (by kernel_rfl) d31, (fun _ h => absurd h List.not_mem_nil)⟩)⟩)
  refine DE.share (fuel := 6) (L := #[false, true, true, false, false, true, true, false, true, true, true, false, false]) (σ := ⟨55, [(0, vl eCandidate aList), (1, vs aText), (2, vl eSite aSites), (3, vl eDescription aDescriptions), (9, vl eAnswer s3.2), (10, vi s3.1), (43, vl eAnswer s3.2), (44, vi j9), (48, .own 48), (52, vl eAnswer x20)], [(48, oa 59 3 eAnswer ([x8] : List Answer))]⟩) ?_ (fun d23 => ?_)
  exact DE.all [0, 3] (by kernel_rfl) (by simp) (List.forall_mem_cons.2 ⟨DEs.mk (i := 0) (L' := #[true, true, true, false, false, true, true, false, true, true, true, false, false]) rfl (EStep.le (EStep.ofN2 tbok (σ' := ⟨55, [(42, .own 42), (0, vl eCandidate aList), (1, vs aText), (2, vl eSite aSites), (3, vl eDescription aDescriptions), (9, vl eAnswer s3.2), (10, vi s3.1), (43, vl eAnswer s3.2), (44, vi j9), (48, .own 48), (52, vl eAnswer x20)], [(42, oa 59 3 eAnswer ([] : List Answer)), (48, oa 59 3 eAnswer ([x8] : List Answer))]⟩) (by kernel_rfl)) Le.sub0) (by kernel_rfl) d28, (List.forall_mem_cons.2 ⟨DEs.mk (i := 3) (L' := #[false, true, true, true, false, true, true, false, true, true, true, false, false]) rfl (EStep.le (EStep.ofL (x_slice (m := 3) (f := eAnswer) (ti := ti62) (tj := ti59) (e := 59) hx17 (fun _ => rfl) tbok rfl) (by kernel_rfl)) Le.sub0) (by kernel_rfl) d29, (fun _ h => absurd h List.not_mem_nil)⟩)⟩)
  refine DE.share (fuel := 6) (L := #[false, true, true, true, false, true, false, false, true, true, true, false, false]) (σ := ⟨55, [(0, vl eCandidate aList), (1, vs aText), (2, vl eSite aSites), (3, vl eDescription aDescriptions), (9, vl eAnswer s3.2), (10, vi s3.1), (45, vl eAnswer x17), (47, .agg (tc eAnswer x8)), (52, vl eAnswer x20)], []⟩) ?_ (fun d22 => ?_)
  exact DE.all [0, 6] (by kernel_rfl) (by simp) (List.forall_mem_cons.2 ⟨DEs.mk (i := 0) (L' := #[true, true, true, true, false, true, false, false, true, true, true, false, false]) rfl (EStep.le (EStep.ofN2 tbok (σ' := ⟨55, [(42, .own 42), (0, vl eCandidate aList), (1, vs aText), (2, vl eSite aSites), (3, vl eDescription aDescriptions), (9, vl eAnswer s3.2), (10, vi s3.1), (45, vl eAnswer x17), (47, .agg (tc eAnswer x8)), (52, vl eAnswer x20)], [(42, oa 59 3 eAnswer ([] : List Answer))]⟩) (by kernel_rfl)) Le.sub0) (by kernel_rfl) d27, (List.forall_mem_cons.2 ⟨DEs.mk (i := 6) (L' := #[false, true, true, true, false, true, true, false, true, true, true, false, false]) rfl (EStep.le (EStep.ofN2 tbok (σ' := ⟨55, [(48, .own 48), (0, vl eCandidate aList), (1, vs aText), (2, vl eSite aSites), (3, vl eDescription aDescriptions), (9, vl eAnswer s3.2), (10, vi s3.1), (45, vl eAnswer x17), (47, .agg (tc eAnswer x8)), (52, vl eAnswer x20)], [(48, oa 59 3 eAnswer ([x8] : List Answer))]⟩) (by kernel_rfl)) Le.sub0) (by kernel_rfl) d29, (fun _ h => absurd h List.not_mem_nil)⟩)⟩)
  refine DE.share (fuel := 6) (L := #[false, true, true, true, false, true, true, false, true, true, false, false, false]) (σ := ⟨55, [(0, vl eCandidate aList), (1, vs aText), (2, vl eSite aSites), (3, vl eDescription aDescriptions), (9, vl eAnswer s3.2), (10, vi s3.1), (45, vl eAnswer x17), (48, .own 48), (50, vl eAnswer s3.2), (51, vi j9)], [(48, oa 59 3 eAnswer ([x8] : List Answer))]⟩) ?_ (fun d21 => ?_)
  exact DE.all [0, 10] (by kernel_rfl) (by simp) (List.forall_mem_cons.2 ⟨DEs.mk (i := 0) (L' := #[true, true, true, true, false, true, true, false, true, true, false, false, false]) rfl (EStep.le (EStep.ofN2 tbok (σ' := ⟨55, [(42, .own 42), (0, vl eCandidate aList), (1, vs aText), (2, vl eSite aSites), (3, vl eDescription aDescriptions), (9, vl eAnswer s3.2), (10, vi s3.1), (45, vl eAnswer x17), (48, .own 48), (50, vl eAnswer s3.2), (51, vi j9)], [(42, oa 59 3 eAnswer ([] : List Answer)), (48, oa 59 3 eAnswer ([x8] : List Answer))]⟩) (by kernel_rfl)) Le.sub0) (by kernel_rfl) d26, (List.forall_mem_cons.2 ⟨DEs.mk (i := 10) (L' := #[false, true, true, true, false, true, true, false, true, true, true, false, false]) rfl (EStep.le (EStep.ofL (x_slice (m := 3) (f := eAnswer) (ti := ti62) (tj := ti59) (e := 59) hx20 (fun _ => rfl) tbok rfl) (by kernel_rfl)) Le.sub0) (by kernel_rfl) d29, (fun _ h => absurd h List.not_mem_nil)⟩)⟩)
  refine DE.share (fuel := 6) (L := #[true, true, true, false, false, true, false, false, true, true, true, false, false]) (σ := ⟨55, [(0, vl eCandidate aList), (1, vs aText), (2, vl eSite aSites), (3, vl eDescription aDescriptions), (9, vl eAnswer s3.2), (10, vi s3.1), (42, .own 42), (43, vl eAnswer s3.2), (44, vi j9), (47, .agg (tc eAnswer x8)), (52, vl eAnswer x20)], [(42, oa 59 3 eAnswer ([] : List Answer))]⟩) ?_ (fun d20 => ?_)
  exact DE.all [3, 6] (by kernel_rfl) (by simp) (List.forall_mem_cons.2 ⟨DEs.mk (i := 3) (L' := #[true, true, true, true, false, true, false, false, true, true, true, false, false]) rfl (EStep.le (EStep.ofL (x_slice (m := 3) (f := eAnswer) (ti := ti62) (tj := ti59) (e := 59) hx17 (fun _ => rfl) tbok rfl) (by kernel_rfl)) Le.sub0) (by kernel_rfl) d27, (List.forall_mem_cons.2 ⟨DEs.mk (i := 6) (L' := #[true, true, true, false, false, true, true, false, true, true, true, false, false]) rfl (EStep.le (EStep.ofN2 tbok (σ' := ⟨55, [(48, .own 48), (0, vl eCandidate aList), (1, vs aText), (2, vl eSite aSites), (3, vl eDescription aDescriptions), (9, vl eAnswer s3.2), (10, vi s3.1), (42, .own 42), (43, vl eAnswer s3.2), (44, vi j9), (47, .agg (tc eAnswer x8)), (52, vl eAnswer x20)], [(48, oa 59 3 eAnswer ([x8] : List Answer)), (42, oa 59 3 eAnswer ([] : List Answer))]⟩) (by kernel_rfl)) Le.sub0) (by kernel_rfl) d28, (fun _ h => absurd h List.not_mem_nil)⟩)⟩)
  refine DE.share (fuel := 6) (L := #[true, true, true, false, false, true, true, false, true, true, false, false, false]) (σ := ⟨55, [(0, vl eCandidate aList), (1, vs aText), (2, vl eSite aSites), (3, vl eDescription aDescriptions), (9, vl eAnswer s3.2), (10, vi s3.1), (42, .own 42), (43, vl eAnswer s3.2), (44, vi j9), (48, .own 48), (50, vl eAnswer s3.2), (51, vi j9)], [(42, oa 59 3 eAnswer ([] : List Answer)), (48, oa 59 3 eAnswer ([x8] : List Answer))]⟩) ?_ (fun d19 => ?_)
  exact DE.all [3, 10] (by kernel_rfl) (by simp) (List.forall_mem_cons.2 ⟨DEs.mk (i := 3) (L' := #[true, true, true, true, false, true, true, false, true, true, false, false, false]) rfl (EStep.le (EStep.ofL (x_slice (m := 3) (f := eAnswer) (ti := ti62) (tj := ti59) (e := 59) hx17 (fun _ => rfl) tbok rfl) (by kernel_rfl)) Le.sub0) (by kernel_rfl) d26, (List.forall_mem_cons.2 ⟨DEs.mk (i := 10) (L' := #[true, true, true, false, false, true, true, false, true, true, true, false, false]) rfl (EStep.le (EStep.ofL (x_slice (m := 3) (f := eAnswer) (ti := ti62) (tj := ti59) (e := 59) hx20 (fun _ => rfl) tbok rfl) (by kernel_rfl)) Le.sub0) (by kernel_rfl) d28, (fun _ h => absurd h List.not_mem_nil)⟩)⟩)
  refine DE.share (fuel := 6) (L := #[true, true, true, true, false, false, false, false, true, true, true, false, false]) (σ := ⟨55, [(0, vl eCandidate aList), (1, vs aText), (2, vl eSite aSites), (3, vl eDescription aDescriptions), (9, vl eAnswer s3.2), (10, vi s3.1), (11, .ref 11 0), (42, .own 42), (45, vl eAnswer x17), (52, vl eAnswer x20)], [(11, .box (tc eAnswer x8)), (42, oa 59 3 eAnswer ([] : List Answer))]⟩) ?_ (fun d18 => ?_)
  exact DE.all [4, 5] (by kernel_rfl) (by simp) (List.forall_mem_cons.2 ⟨DEs.mk (i := 4) (L' := #[true, true, true, true, true, false, false, false, true, true, true, false, false]) rfl (EStep.le (x_append (f := eAnswer) (t := 62) (ti := ti62) (tj := ti59) (zs := [.string (ByteArray.mk #[]), .int .i64 0, .int .i64 0]) (e := 59) (m := 3) (d := 42) (xv := vl eAnswer x17) hx18 tbok rfl rfl rfl rfl (src_e (fun _ => rfl))) Le.sub0) (by kernel_rfl) d25, (List.forall_mem_cons.2 ⟨DEs.mk (i := 5) (L' := #[true, true, true, true, false, true, false, false, true, true, true, false, false]) rfl (EStep.le (EStep.ofN2 tbok (σ' := ⟨55, [(47, .agg (tc eAnswer x8)), (0, vl eCandidate aList), (1, vs aText), (2, vl eSite aSites), (3, vl eDescription aDescriptions), (9, vl eAnswer s3.2), (10, vi s3.1), (11, .ref 11 0), (42, .own 42), (45, vl eAnswer x17), (52, vl eAnswer x20)], [(11, .box (tc eAnswer x8)), (42, oa 59 3 eAnswer ([] : List Answer))]⟩) (by kernel_rfl)) Le.sub0) (by kernel_rfl) d27, (fun _ h => absurd h List.not_mem_nil)⟩)⟩)
  refine DE.share (fuel := 6) (L := #[true, true, true, true, false, true, false, false, true, true, false, false, false]) (σ := ⟨55, [(0, vl eCandidate aList), (1, vs aText), (2, vl eSite aSites), (3, vl eDescription aDescriptions), (9, vl eAnswer s3.2), (10, vi s3.1), (42, .own 42), (45, vl eAnswer x17), (47, .agg (tc eAnswer x8)), (50, vl eAnswer s3.2), (51, vi j9)], [(42, oa 59 3 eAnswer ([] : List Answer))]⟩) ?_ (fun d17 => ?_)
  exact DE.all [4, 6, 10] (by kernel_rfl) (by simp) (List.forall_mem_cons.2 ⟨DEs.mk (i := 4) (L' := #[true, true, true, true, true, true, false, false, true, true, false, false, false]) rfl (EStep.le (x_append (f := eAnswer) (t := 62) (ti := ti62) (tj := ti59) (zs := [.string (ByteArray.mk #[]), .int .i64 0, .int .i64 0]) (e := 59) (m := 3) (d := 42) (xv := vl eAnswer x17) hx18 tbok rfl rfl rfl rfl (src_e (fun _ => rfl))) Le.sub0) (by kernel_rfl) d24, (List.forall_mem_cons.2 ⟨DEs.mk (i := 6) (L' := #[true, true, true, true, false, true, true, false, true, true, false, false, false]) rfl (EStep.le (EStep.ofN2 tbok (σ' := ⟨55, [(48, .own 48), (0, vl eCandidate aList), (1, vs aText), (2, vl eSite aSites), (3, vl eDescription aDescriptions), (9, vl eAnswer s3.2), (10, vi s3.1), (42, .own 42), (45, vl eAnswer x17), (47, .agg (tc eAnswer x8)), (50, vl eAnswer s3.2), (51, vi j9)], [(48, oa 59 3 eAnswer ([x8] : List Answer)), (42, oa 59 3 eAnswer ([] : List Answer))]⟩) (by kernel_rfl)) Le.sub0) (by kernel_rfl) d26, (List.forall_mem_cons.2 ⟨DEs.mk (i := 10) (L' := #[true, true, true, true, false, true, false, false, true, true, true, false, false]) rfl (EStep.le (EStep.ofL (x_slice (m := 3) (f := eAnswer) (ti := ti62) (tj := ti59) (e := 59) hx20 (fun _ => rfl) tbok rfl) (by kernel_rfl)) Le.sub0) (by kernel_rfl) d27, (fun _ h => absurd h List.not_mem_nil)⟩)⟩)⟩)
  refine DE.share (fuel := 6) (L := #[true, true, true, true, true, false, false, false, true, true, false, false, false]) (σ := ⟨55, [(0, vl eCandidate aList), (1, vs aText), (2, vl eSite aSites), (3, vl eDescription aDescriptions), (9, vl eAnswer s3.2), (10, vi s3.1), (11, .ref 11 0), (46, .own 46), (50, vl eAnswer s3.2), (51, vi j9)], [(11, .box (tc eAnswer x8)), (46, oa 59 3 eAnswer x18)]⟩) ?_ (fun d16 => ?_)
  exact DE.all [5, 10] (by kernel_rfl) (by simp) (List.forall_mem_cons.2 ⟨DEs.mk (i := 5) (L' := #[true, true, true, true, true, true, false, false, true, true, false, false, false]) rfl (EStep.le (EStep.ofN2 tbok (σ' := ⟨55, [(47, .agg (tc eAnswer x8)), (0, vl eCandidate aList), (1, vs aText), (2, vl eSite aSites), (3, vl eDescription aDescriptions), (9, vl eAnswer s3.2), (10, vi s3.1), (11, .ref 11 0), (46, .own 46), (50, vl eAnswer s3.2), (51, vi j9)], [(11, .box (tc eAnswer x8)), (46, oa 59 3 eAnswer x18)]⟩) (by kernel_rfl)) Le.sub0) (by kernel_rfl) d24, (List.forall_mem_cons.2 ⟨DEs.mk (i := 10) (L' := #[true, true, true, true, true, false, false, false, true, true, true, false, false]) rfl (EStep.le (EStep.ofL (x_slice (m := 3) (f := eAnswer) (ti := ti62) (tj := ti59) (e := 59) hx20 (fun _ => rfl) tbok rfl) (by kernel_rfl)) Le.sub0) (by kernel_rfl) d25, (fun _ h => absurd h List.not_mem_nil)⟩)⟩)
  refine DE.share (fuel := 7) (L := #[false, true, true, false, false, true, false, false, true, true, true, false, false]) (σ := ⟨55, [(0, vl eCandidate aList), (1, vs aText), (2, vl eSite aSites), (3, vl eDescription aDescriptions), (9, vl eAnswer s3.2), (10, vi s3.1), (43, vl eAnswer s3.2), (44, vi j9), (47, .agg (tc eAnswer x8)), (52, vl eAnswer x20)], []⟩) ?_ (fun d15 => ?_)
  exact DE.all [0, 3, 6] (by kernel_rfl) (by simp) (List.forall_mem_cons.2 ⟨DEs.mk (i := 0) (L' := #[true, true, true, false, false, true, false, false, true, true, true, false, false]) rfl (EStep.le (EStep.ofN2 tbok (σ' := ⟨55, [(42, .own 42), (0, vl eCandidate aList), (1, vs aText), (2, vl eSite aSites), (3, vl eDescription aDescriptions), (9, vl eAnswer s3.2), (10, vi s3.1), (43, vl eAnswer s3.2), (44, vi j9), (47, .agg (tc eAnswer x8)), (52, vl eAnswer x20)], [(42, oa 59 3 eAnswer ([] : List Answer))]⟩) (by kernel_rfl)) Le.sub0) (by kernel_rfl) d20, (List.forall_mem_cons.2 ⟨DEs.mk (i := 3) (L' := #[false, true, true, true, false, true, false, false, true, true, true, false, false]) rfl (EStep.le (EStep.ofL (x_slice (m := 3) (f := eAnswer) (ti := ti62) (tj := ti59) (e := 59) hx17 (fun _ => rfl) tbok rfl) (by kernel_rfl)) Le.sub0) (by kernel_rfl) d22, (List.forall_mem_cons.2 ⟨DEs.mk (i := 6) (L' := #[false, true, true, false, false, true, true, false, true, true, true, false, false]) rfl (EStep.le (EStep.ofN2 tbok (σ' := ⟨55, [(48, .own 48), (0, vl eCandidate aList), (1, vs aText), (2, vl eSite aSites), (3, vl eDescription aDescriptions), (9, vl eAnswer s3.2), (10, vi s3.1), (43, vl eAnswer s3.2), (44, vi j9), (47, .agg (tc eAnswer x8)), (52, vl eAnswer x20)], [(48, oa 59 3 eAnswer ([x8] : List Answer))]⟩) (by kernel_rfl)) Le.sub0) (by kernel_rfl) d23, (fun _ h => absurd h List.not_mem_nil)⟩)⟩)⟩)
  refine DE.share (fuel := 7) (L := #[false, true, true, false, false, true, true, false, true, true, false, false, false]) (σ := ⟨55, [(0, vl eCandidate aList), (1, vs aText), (2, vl eSite aSites), (3, vl eDescription aDescriptions), (9, vl eAnswer s3.2), (10, vi s3.1), (43, vl eAnswer s3.2), (44, vi j9), (48, .own 48), (50, vl eAnswer s3.2), (51, vi j9)], [(48, oa 59 3 eAnswer ([x8] : List Answer))]⟩) ?_ (fun d14 => ?_)
  exact DE.all [0, 3, 10] (by kernel_rfl) (by simp) (List.forall_mem_cons.2 ⟨DEs.mk (i := 0) (L' := #[true, true, true, false, false, true, true, false, true, true, false, false, false]) rfl (EStep.le (EStep.ofN2 tbok (σ' := ⟨55, [(42, .own 42), (0, vl eCandidate aList), (1, vs aText), (2, vl eSite aSites), (3, vl eDescription aDescriptions), (9, vl eAnswer s3.2), (10, vi s3.1), (43, vl eAnswer s3.2), (44, vi j9), (48, .own 48), (50, vl eAnswer s3.2), (51, vi j9)], [(42, oa 59 3 eAnswer ([] : List Answer)), (48, oa 59 3 eAnswer ([x8] : List Answer))]⟩) (by kernel_rfl)) Le.sub0) (by kernel_rfl) d19, (List.forall_mem_cons.2 ⟨DEs.mk (i := 3) (L' := #[false, true, true, true, false, true, true, false, true, true, false, false, false]) rfl (EStep.le (EStep.ofL (x_slice (m := 3) (f := eAnswer) (ti := ti62) (tj := ti59) (e := 59) hx17 (fun _ => rfl) tbok rfl) (by kernel_rfl)) Le.sub0) (by kernel_rfl) d21, (List.forall_mem_cons.2 ⟨DEs.mk (i := 10) (L' := #[false, true, true, false, false, true, true, false, true, true, true, false, false]) rfl (EStep.le (EStep.ofL (x_slice (m := 3) (f := eAnswer) (ti := ti62) (tj := ti59) (e := 59) hx20 (fun _ => rfl) tbok rfl) (by kernel_rfl)) Le.sub0) (by kernel_rfl) d23, (fun _ h => absurd h List.not_mem_nil)⟩)⟩)⟩)
  refine DE.share (fuel := 7) (L := #[false, true, true, true, false, false, false, false, true, true, true, false, false]) (σ := ⟨55, [(0, vl eCandidate aList), (1, vs aText), (2, vl eSite aSites), (3, vl eDescription aDescriptions), (9, vl eAnswer s3.2), (10, vi s3.1), (11, .ref 11 0), (45, vl eAnswer x17), (52, vl eAnswer x20)], [(11, .box (tc eAnswer x8))]⟩) ?_ (fun d13 => ?_)
  exact DE.all [0, 5] (by kernel_rfl) (by simp) (List.forall_mem_cons.2 ⟨DEs.mk (i := 0) (L' := #[true, true, true, true, false, false, false, false, true, true, true, false, false]) rfl (EStep.le (EStep.ofN2 tbok (σ' := ⟨55, [(42, .own 42), (0, vl eCandidate aList), (1, vs aText), (2, vl eSite aSites), (3, vl eDescription aDescriptions), (9, vl eAnswer s3.2), (10, vi s3.1), (11, .ref 11 0), (45, vl eAnswer x17), (52, vl eAnswer x20)], [(42, oa 59 3 eAnswer ([] : List Answer)), (11, .box (tc eAnswer x8))]⟩) (by kernel_rfl)) Le.sub0) (by kernel_rfl) d18, (List.forall_mem_cons.2 ⟨DEs.mk (i := 5) (L' := #[false, true, true, true, false, true, false, false, true, true, true, false, false]) rfl (EStep.le (EStep.ofN2 tbok (σ' := ⟨55, [(47, .agg (tc eAnswer x8)), (0, vl eCandidate aList), (1, vs aText), (2, vl eSite aSites), (3, vl eDescription aDescriptions), (9, vl eAnswer s3.2), (10, vi s3.1), (11, .ref 11 0), (45, vl eAnswer x17), (52, vl eAnswer x20)], [(11, .box (tc eAnswer x8))]⟩) (by kernel_rfl)) Le.sub0) (by kernel_rfl) d22, (fun _ h => absurd h List.not_mem_nil)⟩)⟩)
  refine DE.share (fuel := 7) (L := #[false, true, true, true, false, true, false, false, true, true, false, false, false]) (σ := ⟨55, [(0, vl eCandidate aList), (1, vs aText), (2, vl eSite aSites), (3, vl eDescription aDescriptions), (9, vl eAnswer s3.2), (10, vi s3.1), (45, vl eAnswer x17), (47, .agg (tc eAnswer x8)), (50, vl eAnswer s3.2), (51, vi j9)], []⟩) ?_ (fun d12 => ?_)
  exact DE.all [0, 6, 10] (by kernel_rfl) (by simp) (List.forall_mem_cons.2 ⟨DEs.mk (i := 0) (L' := #[true, true, true, true, false, true, false, false, true, true, false, false, false]) rfl (EStep.le (EStep.ofN2 tbok (σ' := ⟨55, [(42, .own 42), (0, vl eCandidate aList), (1, vs aText), (2, vl eSite aSites), (3, vl eDescription aDescriptions), (9, vl eAnswer s3.2), (10, vi s3.1), (45, vl eAnswer x17), (47, .agg (tc eAnswer x8)), (50, vl eAnswer s3.2), (51, vi j9)], [(42, oa 59 3 eAnswer ([] : List Answer))]⟩) (by kernel_rfl)) Le.sub0) (by kernel_rfl) d17, (List.forall_mem_cons.2 ⟨DEs.mk (i := 6) (L' := #[false, true, true, true, false, true, true, false, true, true, false, false, false]) rfl (EStep.le (EStep.ofN2 tbok (σ' := ⟨55, [(48, .own 48), (0, vl eCandidate aList), (1, vs aText), (2, vl eSite aSites), (3, vl eDescription aDescriptions), (9, vl eAnswer s3.2), (10, vi s3.1), (45, vl eAnswer x17), (47, .agg (tc eAnswer x8)), (50, vl eAnswer s3.2), (51, vi j9)], [(48, oa 59 3 eAnswer ([x8] : List Answer))]⟩) (by kernel_rfl)) Le.sub0) (by kernel_rfl) d21, (List.forall_mem_cons.2 ⟨DEs.mk (i := 10) (L' := #[false, true, true, true, false, true, false, false, true, true, true, false, false]) rfl (EStep.le (EStep.ofL (x_slice (m := 3) (f := eAnswer) (ti := ti62) (tj := ti59) (e := 59) hx20 (fun _ => rfl) tbok rfl) (by kernel_rfl)) Le.sub0) (by kernel_rfl) d22, (fun _ h => absurd h List.not_mem_nil)⟩)⟩)⟩)
  refine DE.share (fuel := 7) (L := #[true, true, true, false, false, false, false, false, true, true, true, false, false]) (σ := ⟨55, [(0, vl eCandidate aList), (1, vs aText), (2, vl eSite aSites), (3, vl eDescription aDescriptions), (9, vl eAnswer s3.2), (10, vi s3.1), (11, .ref 11 0), (42, .own 42), (43, vl eAnswer s3.2), (44, vi j9), (52, vl eAnswer x20)], [(11, .box (tc eAnswer x8)), (42, oa 59 3 eAnswer ([] : List Answer))]⟩) ?_ (fun d11 => ?_)
  exact DE.all [3, 5] (by kernel_rfl) (by simp) (List.forall_mem_cons.2 ⟨DEs.mk (i := 3) (L' := #[true, true, true, true, false, false, false, false, true, true, true, false, false]) rfl (EStep.le (EStep.ofL (x_slice (m := 3) (f := eAnswer) (ti := ti62) (tj := ti59) (e := 59) hx17 (fun _ => rfl) tbok rfl) (by kernel_rfl)) Le.sub0) (by kernel_rfl) d18, (List.forall_mem_cons.2 ⟨DEs.mk (i := 5) (L' := #[true, true, true, false, false, true, false, false, true, true, true, false, false]) rfl (EStep.le (EStep.ofN2 tbok (σ' := ⟨55, [(47, .agg (tc eAnswer x8)), (0, vl eCandidate aList), (1, vs aText), (2, vl eSite aSites), (3, vl eDescription aDescriptions), (9, vl eAnswer s3.2), (10, vi s3.1), (11, .ref 11 0), (42, .own 42), (43, vl eAnswer s3.2), (44, vi j9), (52, vl eAnswer x20)], [(11, .box (tc eAnswer x8)), (42, oa 59 3 eAnswer ([] : List Answer))]⟩) (by kernel_rfl)) Le.sub0) (by kernel_rfl) d20, (fun _ h => absurd h List.not_mem_nil)⟩)⟩)
  refine DE.share (fuel := 7) (L := #[true, true, true, false, false, true, false, false, true, true, false, false, false]) (σ := ⟨55, [(0, vl eCandidate aList), (1, vs aText), (2, vl eSite aSites), (3, vl eDescription aDescriptions), (9, vl eAnswer s3.2), (10, vi s3.1), (42, .own 42), (43, vl eAnswer s3.2), (44, vi j9), (47, .agg (tc eAnswer x8)), (50, vl eAnswer s3.2), (51, vi j9)], [(42, oa 59 3 eAnswer ([] : List Answer))]⟩) ?_ (fun d10 => ?_)
  exact DE.all [3, 6, 10] (by kernel_rfl) (by simp) (List.forall_mem_cons.2 ⟨DEs.mk (i := 3) (L' := #[true, true, true, true, false, true, false, false, true, true, false, false, false]) rfl (EStep.le (EStep.ofL (x_slice (m := 3) (f := eAnswer) (ti := ti62) (tj := ti59) (e := 59) hx17 (fun _ => rfl) tbok rfl) (by kernel_rfl)) Le.sub0) (by kernel_rfl) d17, (List.forall_mem_cons.2 ⟨DEs.mk (i := 6) (L' := #[true, true, true, false, false, true, true, false, true, true, false, false, false]) rfl (EStep.le (EStep.ofN2 tbok (σ' := ⟨55, [(48, .own 48), (0, vl eCandidate aList), (1, vs aText), (2, vl eSite aSites), (3, vl eDescription aDescriptions), (9, vl eAnswer s3.2), (10, vi s3.1), (42, .own 42), (43, vl eAnswer s3.2), (44, vi j9), (47, .agg (tc eAnswer x8)), (50, vl eAnswer s3.2), (51, vi j9)], [(48, oa 59 3 eAnswer ([x8] : List Answer)), (42, oa 59 3 eAnswer ([] : List Answer))]⟩) (by kernel_rfl)) Le.sub0) (by kernel_rfl) d19, (List.forall_mem_cons.2 ⟨DEs.mk (i := 10) (L' := #[true, true, true, false, false, true, false, false, true, true, true, false, false]) rfl (EStep.le (EStep.ofL (x_slice (m := 3) (f := eAnswer) (ti := ti62) (tj := ti59) (e := 59) hx20 (fun _ => rfl) tbok rfl) (by kernel_rfl)) Le.sub0) (by kernel_rfl) d20, (fun _ h => absurd h List.not_mem_nil)⟩)⟩)⟩)
  refine DE.share (fuel := 7) (L := #[true, true, true, true, false, false, false, false, true, true, false, false, false]) (σ := ⟨55, [(0, vl eCandidate aList), (1, vs aText), (2, vl eSite aSites), (3, vl eDescription aDescriptions), (9, vl eAnswer s3.2), (10, vi s3.1), (11, .ref 11 0), (42, .own 42), (45, vl eAnswer x17), (50, vl eAnswer s3.2), (51, vi j9)], [(11, .box (tc eAnswer x8)), (42, oa 59 3 eAnswer ([] : List Answer))]⟩) ?_ (fun d9 => ?_)
  exact DE.all [4, 5, 10] (by kernel_rfl) (by simp) (List.forall_mem_cons.2 ⟨DEs.mk (i := 4) (L' := #[true, true, true, true, true, false, false, false, true, true, false, false, false]) rfl (EStep.le (x_append (f := eAnswer) (t := 62) (ti := ti62) (tj := ti59) (zs := [.string (ByteArray.mk #[]), .int .i64 0, .int .i64 0]) (e := 59) (m := 3) (d := 42) (xv := vl eAnswer x17) hx18 tbok rfl rfl rfl rfl (src_e (fun _ => rfl))) Le.sub0) (by kernel_rfl) d16, (List.forall_mem_cons.2 ⟨DEs.mk (i := 5) (L' := #[true, true, true, true, false, true, false, false, true, true, false, false, false]) rfl (EStep.le (EStep.ofN2 tbok (σ' := ⟨55, [(47, .agg (tc eAnswer x8)), (0, vl eCandidate aList), (1, vs aText), (2, vl eSite aSites), (3, vl eDescription aDescriptions), (9, vl eAnswer s3.2), (10, vi s3.1), (11, .ref 11 0), (42, .own 42), (45, vl eAnswer x17), (50, vl eAnswer s3.2), (51, vi j9)], [(11, .box (tc eAnswer x8)), (42, oa 59 3 eAnswer ([] : List Answer))]⟩) (by kernel_rfl)) Le.sub0) (by kernel_rfl) d17, (List.forall_mem_cons.2 ⟨DEs.mk (i := 10) (L' := #[true, true, true, true, false, false, false, false, true, true, true, false, false]) rfl (EStep.le (EStep.ofL (x_slice (m := 3) (f := eAnswer) (ti := ti62) (tj := ti59) (e := 59) hx20 (fun _ => rfl) tbok rfl) (by kernel_rfl)) Le.sub0) (by kernel_rfl) d18, (fun _ h => absurd h List.not_mem_nil)⟩)⟩)⟩)
  refine DE.share (fuel := 8) (L := #[false, true, true, false, false, false, false, false, true, true, true, false, false]) (σ := ⟨55, [(0, vl eCandidate aList), (1, vs aText), (2, vl eSite aSites), (3, vl eDescription aDescriptions), (9, vl eAnswer s3.2), (10, vi s3.1), (11, .ref 11 0), (43, vl eAnswer s3.2), (44, vi j9), (52, vl eAnswer x20)], [(11, .box (tc eAnswer x8))]⟩) ?_ (fun d8 => ?_)
  exact DE.all [0, 3, 5] (by kernel_rfl) (by simp) (List.forall_mem_cons.2 ⟨DEs.mk (i := 0) (L' := #[true, true, true, false, false, false, false, false, true, true, true, false, false]) rfl (EStep.le (EStep.ofN2 tbok (σ' := ⟨55, [(42, .own 42), (0, vl eCandidate aList), (1, vs aText), (2, vl eSite aSites), (3, vl eDescription aDescriptions), (9, vl eAnswer s3.2), (10, vi s3.1), (11, .ref 11 0), (43, vl eAnswer s3.2), (44, vi j9), (52, vl eAnswer x20)], [(42, oa 59 3 eAnswer ([] : List Answer)), (11, .box (tc eAnswer x8))]⟩) (by kernel_rfl)) Le.sub0) (by kernel_rfl) d11, (List.forall_mem_cons.2 ⟨DEs.mk (i := 3) (L' := #[false, true, true, true, false, false, false, false, true, true, true, false, false]) rfl (EStep.le (EStep.ofL (x_slice (m := 3) (f := eAnswer) (ti := ti62) (tj := ti59) (e := 59) hx17 (fun _ => rfl) tbok rfl) (by kernel_rfl)) Le.sub0) (by kernel_rfl) d13, (List.forall_mem_cons.2 ⟨DEs.mk (i := 5) (L' := #[false, true, true, false, false, true, false, false, true, true, true, false, false]) rfl (EStep.le (EStep.ofN2 tbok (σ' := ⟨55, [(47, .agg (tc eAnswer x8)), (0, vl eCandidate aList), (1, vs aText), (2, vl eSite aSites), (3, vl eDescription aDescriptions), (9, vl eAnswer s3.2), (10, vi s3.1), (11, .ref 11 0), (43, vl eAnswer s3.2), (44, vi j9), (52, vl eAnswer x20)], [(11, .box (tc eAnswer x8))]⟩) (by kernel_rfl)) Le.sub0) (by kernel_rfl) d15, (fun _ h => absurd h List.not_mem_nil)⟩)⟩)⟩)
  refine DE.share (fuel := 8) (L := #[false, true, true, false, false, true, false, false, true, true, false, false, false]) (σ := ⟨55, [(0, vl eCandidate aList), (1, vs aText), (2, vl eSite aSites), (3, vl eDescription aDescriptions), (9, vl eAnswer s3.2), (10, vi s3.1), (43, vl eAnswer s3.2), (44, vi j9), (47, .agg (tc eAnswer x8)), (50, vl eAnswer s3.2), (51, vi j9)], []⟩) ?_ (fun d7 => ?_)
  exact DE.all [0, 3, 6, 10] (by kernel_rfl) (by simp) (List.forall_mem_cons.2 ⟨DEs.mk (i := 0) (L' := #[true, true, true, false, false, true, false, false, true, true, false, false, false]) rfl (EStep.le (EStep.ofN2 tbok (σ' := ⟨55, [(42, .own 42), (0, vl eCandidate aList), (1, vs aText), (2, vl eSite aSites), (3, vl eDescription aDescriptions), (9, vl eAnswer s3.2), (10, vi s3.1), (43, vl eAnswer s3.2), (44, vi j9), (47, .agg (tc eAnswer x8)), (50, vl eAnswer s3.2), (51, vi j9)], [(42, oa 59 3 eAnswer ([] : List Answer))]⟩) (by kernel_rfl)) Le.sub0) (by kernel_rfl) d10, (List.forall_mem_cons.2 ⟨DEs.mk (i := 3) (L' := #[false, true, true, true, false, true, false, false, true, true, false, false, false]) rfl (EStep.le (EStep.ofL (x_slice (m := 3) (f := eAnswer) (ti := ti62) (tj := ti59) (e := 59) hx17 (fun _ => rfl) tbok rfl) (by kernel_rfl)) Le.sub0) (by kernel_rfl) d12, (List.forall_mem_cons.2 ⟨DEs.mk (i := 6) (L' := #[false, true, true, false, false, true, true, false, true, true, false, false, false]) rfl (EStep.le (EStep.ofN2 tbok (σ' := ⟨55, [(48, .own 48), (0, vl eCandidate aList), (1, vs aText), (2, vl eSite aSites), (3, vl eDescription aDescriptions), (9, vl eAnswer s3.2), (10, vi s3.1), (43, vl eAnswer s3.2), (44, vi j9), (47, .agg (tc eAnswer x8)), (50, vl eAnswer s3.2), (51, vi j9)], [(48, oa 59 3 eAnswer ([x8] : List Answer))]⟩) (by kernel_rfl)) Le.sub0) (by kernel_rfl) d14, (List.forall_mem_cons.2 ⟨DEs.mk (i := 10) (L' := #[false, true, true, false, false, true, false, false, true, true, true, false, false]) rfl (EStep.le (EStep.ofL (x_slice (m := 3) (f := eAnswer) (ti := ti62) (tj := ti59) (e := 59) hx20 (fun _ => rfl) tbok rfl) (by kernel_rfl)) Le.sub0) (by kernel_rfl) d15, (fun _ h => absurd h List.not_mem_nil)⟩)⟩)⟩)⟩)
  refine DE.share (fuel := 8) (L := #[false, true, true, true, false, false, false, false, true, true, false, false, false]) (σ := ⟨55, [(0, vl eCandidate aList), (1, vs aText), (2, vl eSite aSites), (3, vl eDescription aDescriptions), (9, vl eAnswer s3.2), (10, vi s3.1), (11, .ref 11 0), (45, vl eAnswer x17), (50, vl eAnswer s3.2), (51, vi j9)], [(11, .box (tc eAnswer x8))]⟩) ?_ (fun d6 => ?_)
  exact DE.all [0, 5, 10] (by kernel_rfl) (by simp) (List.forall_mem_cons.2 ⟨DEs.mk (i := 0) (L' := #[true, true, true, true, false, false, false, false, true, true, false, false, false]) rfl (EStep.le (EStep.ofN2 tbok (σ' := ⟨55, [(42, .own 42), (0, vl eCandidate aList), (1, vs aText), (2, vl eSite aSites), (3, vl eDescription aDescriptions), (9, vl eAnswer s3.2), (10, vi s3.1), (11, .ref 11 0), (45, vl eAnswer x17), (50, vl eAnswer s3.2), (51, vi j9)], [(42, oa 59 3 eAnswer ([] : List Answer)), (11, .box (tc eAnswer x8))]⟩) (by kernel_rfl)) Le.sub0) (by kernel_rfl) d9, (List.forall_mem_cons.2 ⟨DEs.mk (i := 5) (L' := #[false, true, true, true, false, true, false, false, true, true, false, false, false]) rfl (EStep.le (EStep.ofN2 tbok (σ' := ⟨55, [(47, .agg (tc eAnswer x8)), (0, vl eCandidate aList), (1, vs aText), (2, vl eSite aSites), (3, vl eDescription aDescriptions), (9, vl eAnswer s3.2), (10, vi s3.1), (11, .ref 11 0), (45, vl eAnswer x17), (50, vl eAnswer s3.2), (51, vi j9)], [(11, .box (tc eAnswer x8))]⟩) (by kernel_rfl)) Le.sub0) (by kernel_rfl) d12, (List.forall_mem_cons.2 ⟨DEs.mk (i := 10) (L' := #[false, true, true, true, false, false, false, false, true, true, true, false, false]) rfl (EStep.le (EStep.ofL (x_slice (m := 3) (f := eAnswer) (ti := ti62) (tj := ti59) (e := 59) hx20 (fun _ => rfl) tbok rfl) (by kernel_rfl)) Le.sub0) (by kernel_rfl) d13, (fun _ h => absurd h List.not_mem_nil)⟩)⟩)⟩)
  refine DE.share (fuel := 8) (L := #[true, true, true, false, false, false, false, false, true, true, false, false, false]) (σ := ⟨55, [(0, vl eCandidate aList), (1, vs aText), (2, vl eSite aSites), (3, vl eDescription aDescriptions), (9, vl eAnswer s3.2), (10, vi s3.1), (11, .ref 11 0), (42, .own 42), (43, vl eAnswer s3.2), (44, vi j9), (50, vl eAnswer s3.2), (51, vi j9)], [(11, .box (tc eAnswer x8)), (42, oa 59 3 eAnswer ([] : List Answer))]⟩) ?_ (fun d5 => ?_)
  exact DE.all [3, 5, 10] (by kernel_rfl) (by simp) (List.forall_mem_cons.2 ⟨DEs.mk (i := 3) (L' := #[true, true, true, true, false, false, false, false, true, true, false, false, false]) rfl (EStep.le (EStep.ofL (x_slice (m := 3) (f := eAnswer) (ti := ti62) (tj := ti59) (e := 59) hx17 (fun _ => rfl) tbok rfl) (by kernel_rfl)) Le.sub0) (by kernel_rfl) d9, (List.forall_mem_cons.2 ⟨DEs.mk (i := 5) (L' := #[true, true, true, false, false, true, false, false, true, true, false, false, false]) rfl (EStep.le (EStep.ofN2 tbok (σ' := ⟨55, [(47, .agg (tc eAnswer x8)), (0, vl eCandidate aList), (1, vs aText), (2, vl eSite aSites), (3, vl eDescription aDescriptions), (9, vl eAnswer s3.2), (10, vi s3.1), (11, .ref 11 0), (42, .own 42), (43, vl eAnswer s3.2), (44, vi j9), (50, vl eAnswer s3.2), (51, vi j9)], [(11, .box (tc eAnswer x8)), (42, oa 59 3 eAnswer ([] : List Answer))]⟩) (by kernel_rfl)) Le.sub0) (by kernel_rfl) d10, (List.forall_mem_cons.2 ⟨DEs.mk (i := 10) (L' := #[true, true, true, false, false, false, false, false, true, true, true, false, false]) rfl (EStep.le (EStep.ofL (x_slice (m := 3) (f := eAnswer) (ti := ti62) (tj := ti59) (e := 59) hx20 (fun _ => rfl) tbok rfl) (by kernel_rfl)) Le.sub0) (by kernel_rfl) d11, (fun _ h => absurd h List.not_mem_nil)⟩)⟩)⟩)
  refine DE.share (fuel := 9) (L := #[false, true, true, false, false, false, false, false, true, true, false, false, false]) (σ := ⟨55, [(0, vl eCandidate aList), (1, vs aText), (2, vl eSite aSites), (3, vl eDescription aDescriptions), (9, vl eAnswer s3.2), (10, vi s3.1), (11, .ref 11 0), (43, vl eAnswer s3.2), (44, vi j9), (50, vl eAnswer s3.2), (51, vi j9)], [(11, .box (tc eAnswer x8))]⟩) ?_ (fun d4 => ?_)
  exact DE.all [0, 3, 5, 10] (by kernel_rfl) (by simp) (List.forall_mem_cons.2 ⟨DEs.mk (i := 0) (L' := #[true, true, true, false, false, false, false, false, true, true, false, false, false]) rfl (EStep.le (EStep.ofN2 tbok (σ' := ⟨55, [(42, .own 42), (0, vl eCandidate aList), (1, vs aText), (2, vl eSite aSites), (3, vl eDescription aDescriptions), (9, vl eAnswer s3.2), (10, vi s3.1), (11, .ref 11 0), (43, vl eAnswer s3.2), (44, vi j9), (50, vl eAnswer s3.2), (51, vi j9)], [(42, oa 59 3 eAnswer ([] : List Answer)), (11, .box (tc eAnswer x8))]⟩) (by kernel_rfl)) Le.sub0) (by kernel_rfl) d5, (List.forall_mem_cons.2 ⟨DEs.mk (i := 3) (L' := #[false, true, true, true, false, false, false, false, true, true, false, false, false]) rfl (EStep.le (EStep.ofL (x_slice (m := 3) (f := eAnswer) (ti := ti62) (tj := ti59) (e := 59) hx17 (fun _ => rfl) tbok rfl) (by kernel_rfl)) Le.sub0) (by kernel_rfl) d6, (List.forall_mem_cons.2 ⟨DEs.mk (i := 5) (L' := #[false, true, true, false, false, true, false, false, true, true, false, false, false]) rfl (EStep.le (EStep.ofN2 tbok (σ' := ⟨55, [(47, .agg (tc eAnswer x8)), (0, vl eCandidate aList), (1, vs aText), (2, vl eSite aSites), (3, vl eDescription aDescriptions), (9, vl eAnswer s3.2), (10, vi s3.1), (11, .ref 11 0), (43, vl eAnswer s3.2), (44, vi j9), (50, vl eAnswer s3.2), (51, vi j9)], [(11, .box (tc eAnswer x8))]⟩) (by kernel_rfl)) Le.sub0) (by kernel_rfl) d7, (List.forall_mem_cons.2 ⟨DEs.mk (i := 10) (L' := #[false, true, true, false, false, false, false, false, true, true, true, false, false]) rfl (EStep.le (EStep.ofL (x_slice (m := 3) (f := eAnswer) (ti := ti62) (tj := ti59) (e := 59) hx20 (fun _ => rfl) tbok rfl) (by kernel_rfl)) Le.sub0) (by kernel_rfl) d8, (fun _ h => absurd h List.not_mem_nil)⟩)⟩)⟩)⟩)
  refine DE.share (fuel := 10) (L := #[false, true, true, false, false, false, false, false, true, false, false, false, false]) (σ := ⟨55, [(0, vl eCandidate aList), (1, vs aText), (2, vl eSite aSites), (3, vl eDescription aDescriptions), (9, vl eAnswer s3.2), (10, vi s3.1), (11, .ref 11 0), (12, vi j9), (43, vl eAnswer s3.2), (44, vi j9), (50, vl eAnswer s3.2)], [(11, .box (tc eAnswer x8))]⟩) ?_ (fun d3 => ?_)
  exact DE.take (i := 9) (L' := #[false, true, true, false, false, false, false, false, true, true, false, false, false]) rfl (.inl rfl) rfl (by kernel_rfl) (by kernel_rfl) (by kernel_rfl) (EStep.le (EStep.ofN2 tbok (σ' := ⟨55, [(51, vi j9), (0, vl eCandidate aList), (1, vs aText), (2, vl eSite aSites), (3, vl eDescription aDescriptions), (9, vl eAnswer s3.2), (10, vi s3.1), (11, .ref 11 0), (12, vi j9), (43, vl eAnswer s3.2), (44, vi j9), (50, vl eAnswer s3.2)], [(11, .box (tc eAnswer x8))]⟩) (by kernel_rfl)) Le.sub0) (by kernel_rfl) d4
  refine DE.share (fuel := 11) (L := #[false, true, true, false, false, false, false, false, false, false, false, false, false]) (σ := ⟨55, [(0, vl eCandidate aList), (1, vs aText), (2, vl eSite aSites), (3, vl eDescription aDescriptions), (9, vl eAnswer s3.2), (10, vi s3.1), (11, .ref 11 0), (12, vi j9), (43, vl eAnswer s3.2), (44, vi j9)], [(11, .box (tc eAnswer x8))]⟩) ?_ (fun d2 => ?_)
  exact DE.take (i := 8) (L' := #[false, true, true, false, false, false, false, false, true, false, false, false, false]) rfl (.inl rfl) rfl (by kernel_rfl) (by kernel_rfl) (by kernel_rfl) (EStep.le (EStep.ofN2 tbok (σ' := ⟨55, [(50, vl eAnswer s3.2), (0, vl eCandidate aList), (1, vs aText), (2, vl eSite aSites), (3, vl eDescription aDescriptions), (9, vl eAnswer s3.2), (10, vi s3.1), (11, .ref 11 0), (12, vi j9), (43, vl eAnswer s3.2), (44, vi j9)], [(11, .box (tc eAnswer x8))]⟩) (by kernel_rfl)) Le.sub0) (by kernel_rfl) d3
  refine DE.share (fuel := 12) (L := #[false, true, false, false, false, false, false, false, false, false, false, false, false]) (σ := ⟨55, [(0, vl eCandidate aList), (1, vs aText), (2, vl eSite aSites), (3, vl eDescription aDescriptions), (9, vl eAnswer s3.2), (10, vi s3.1), (11, .ref 11 0), (12, vi j9), (43, vl eAnswer s3.2)], [(11, .box (tc eAnswer x8))]⟩) ?_ (fun d1 => ?_)
  exact DE.take (i := 2) (L' := #[false, true, true, false, false, false, false, false, false, false, false, false, false]) rfl (.inl rfl) rfl (by kernel_rfl) (by kernel_rfl) (by kernel_rfl) (EStep.le (EStep.ofN2 tbok (σ' := ⟨55, [(44, vi j9), (0, vl eCandidate aList), (1, vs aText), (2, vl eSite aSites), (3, vl eDescription aDescriptions), (9, vl eAnswer s3.2), (10, vi s3.1), (11, .ref 11 0), (12, vi j9), (43, vl eAnswer s3.2)], [(11, .box (tc eAnswer x8))]⟩) (by kernel_rfl)) Le.sub0) (by kernel_rfl) d2
  exact DE.take (i := 1) (L' := #[false, true, false, false, false, false, false, false, false, false, false, false, false]) rfl (.inl rfl) rfl (by kernel_rfl) (by kernel_rfl) (by kernel_rfl) (EStep.le (EStep.ofN2 tbok (σ' := ⟨55, [(43, vl eAnswer s3.2), (0, vl eCandidate aList), (1, vs aText), (2, vl eSite aSites), (3, vl eDescription aDescriptions), (9, vl eAnswer s3.2), (10, vi s3.1), (11, .ref 11 0), (12, vi j9)], [(11, .box (tc eAnswer x8))]⟩) (by kernel_rfl)) Le.sub0) (by kernel_rfl) d1
  obtain rfl := inj h
  exact q_bn (q_j (Le.rr [53] [(53, 9)]))
  refine swp_reg ?_
  refine SRun.ck tbok 3 ⟨55, [(0, vl eCandidate aList), (1, vs aText), (2, vl eSite aSites), (3, vl eDescription aDescriptions), (9, .own 9), (10, vi (w64 (s3.1 + 1)))], [(9, oa 59 3 eAnswer j5)]⟩ ?_
  refine SRun.nil ?_
  obtain rfl := inj h
  exact q_l (Le.sub0)
  refine swp_exit ?_
  obtain rfl := inj h
  exact nx_e (q_re (q_bh (q_j (Le.sub0))))
  refine srk tbok ⟨55, [(8, .own 9)], [(9, oa 59 3 eAnswer j1)]⟩ ?_
  refine swp_ret ?_
  obtain rfl := inj h
  exact q_fr (f1 (fo eAnswer_flat))
theorem ents82 : Ents Tryz.prog 82 := ents_of Tryz.func82 (by kernel_rfl) rfl
noncomputable def spec_AnswersOf (aList : (List Candidate)) (aText : ByteArray) (aSites : (List Site)) (aDescriptions : (List Description)) : Option ((List Answer) × Int) :=
  ((spec_l30Code aList aText aSites aDescriptions).bind fun x1 => (bif (x1 != 0) then some (([] : List Answer), x1) else ((spec_l30Ranked aList aText aSites aDescriptions).bind fun x2 => some (x2, 0))))
theorem spec_AnswersOf_run (aList : (List Candidate)) (aText : ByteArray) (aSites : (List Site)) (aDescriptions : (List Description)) (r : (List Answer) × Int) (h : spec_AnswersOf aList aText aSites aDescriptions = some r) : SCall Tryz.prog 39 [.v (vl eCandidate aList), .v (vs aText), .v (vl eSite aSites), .v (vl eDescription aDescriptions)] ⟨[.own 59 3 r.1.length (r.1.map eAnswer), .v (vi r.2)], [], false⟩ := by
  refine scall_in Tryz.func39 rfl [(.tmp 8), (.tmp 9)] rfl (fun r => ⟨[.own 59 3 r.1.length (r.1.map eAnswer), .v (vi r.2)], [], false⟩) (r := r) ?_
  unfold spec_AnswersOf at h
  refine srk tbok ⟨24, [(0, vl eCandidate aList), (1, vs aText), (2, vl eSite aSites), (3, vl eDescription aDescriptions)], []⟩ ?_
  refine sr ?_
  refine SRun.ck tbok 4 ⟨24, [(0, vl eCandidate aList), (1, vs aText), (2, vl eSite aSites), (3, vl eDescription aDescriptions), (11, vl eCandidate aList), (12, vs aText), (13, vl eSite aSites), (14, vl eDescription aDescriptions)], []⟩ ?_
  obtain ⟨x1, hx1, h⟩ := bind_some h
  refine SRun.ls (xc ents66 (spec_l30Code_run aList aText aSites aDescriptions _ hx1)) ?_
  refine ckn tbok 1 ⟨24, [(0, vl eCandidate aList), (1, vs aText), (2, vl eSite aSites), (3, vl eDescription aDescriptions), (10, vi x1)], []⟩ ?_
  refine swp_seq ?_
  refine srk tbok ⟨24, [(0, vl eCandidate aList), (1, vs aText), (2, vl eSite aSites), (3, vl eDescription aDescriptions), (10, vi x1), (17, vb (x1 != 0))], []⟩ ?_
  refine swp_cd h (fun h => ?_) fun h => ?_
  refine srk tbok ⟨24, [(8, .own 8), (9, vi x1)], [(8, oa 59 3 eAnswer ([] : List Answer))]⟩ ?_
  refine swp_ret ?_
  obtain rfl := inj h
  exact nx_r (q_fr (f2 (fo eAnswer_flat) fv))
  refine swp_skip ?_
  refine nx_n ?_
  refine sr ?_
  refine SRun.ck tbok 4 ⟨24, [(19, vl eCandidate aList), (20, vs aText), (21, vl eSite aSites), (22, vl eDescription aDescriptions)], []⟩ ?_
  obtain ⟨x2, hx2, h⟩ := bind_some h
  refine SRun.ls (xc ents82 (spec_l30Ranked_run aList aText aSites aDescriptions _ hx2)) ?_
  refine ckn tbok 2 ⟨24, [(8, .own 23), (9, vi 0)], [(23, oa 59 3 eAnswer x2)]⟩ ?_
  refine swp_ret ?_
  obtain rfl := inj h
  exact q_fr (f2 (fo eAnswer_flat) fv)
theorem ents39 : Ents Tryz.prog 39 := ents_of Tryz.func39 (by kernel_rfl) rfl
noncomputable def impl_length_Description (aList : (List Description)) : Option (Int) :=
  some (aList.length : Int)
theorem impl_length_Description_run (aList : (List Description)) (r : Int) (h : impl_length_Description aList = some r) : SCall Tryz.prog 69 [.v (vl eDescription aList)] ⟨[.v (vi r)], [], false⟩ := by
  refine scall_in Tryz.func69 rfl [(.tmp 2)] rfl (fun r => ⟨[.v (vi r)], [], false⟩) (r := r) ?_
  unfold impl_length_Description at h
  refine srk tbok ⟨5, [(0, vl eDescription aList)], []⟩ ?_
  refine srk tbok ⟨5, [(2, vi (aList.length : Int))], []⟩ ?_
  refine swp_ret ?_
  obtain rfl := inj h
  exact q_fr (f1 fv)
theorem ents69 : Ents Tryz.prog 69 := ents_of Tryz.func69 (by kernel_rfl) rfl
noncomputable def cmp_isNaN_string (aX : ByteArray) : Option (Bool) :=
  some (!(aX.toList == aX.toList))
theorem cmp_isNaN_string_run (aX : ByteArray) (r : Bool) (h : cmp_isNaN_string aX = some r) : SCall Tryz.prog 214 [.v (vs aX)] ⟨[.v (vb r)], [], false⟩ := by
  refine scall_in Tryz.func214 rfl [(.tmp 2)] rfl (fun r => ⟨[.v (vb r)], [], false⟩) (r := r) ?_
  unfold cmp_isNaN_string at h
  refine srk tbok ⟨6, [(0, vs aX)], []⟩ ?_
  refine srk tbok ⟨6, [(2, vb (!(aX.toList == aX.toList)))], []⟩ ?_
  refine swp_ret ?_
  obtain rfl := inj h
  exact q_fr (f1 fv)
theorem ents214 : Ents Tryz.prog 214 := ents_of Tryz.func214 (by kernel_rfl) rfl
noncomputable def cmp_Less_string (aX : ByteArray) (aY : ByteArray) : Option (Bool) :=
  ((((cmp_isNaN_string aX).bind fun x1 => (bif x1 then ((cmp_isNaN_string aY).bind fun x2 => (bif (!x2) then some true else some (Op.bytesLess aX.toList aY.toList))) else some (Op.bytesLess aX.toList aY.toList)))).bind fun (j3 : Bool) => some j3)
theorem cmp_Less_string_run (aX : ByteArray) (aY : ByteArray) (r : Bool) (h : cmp_Less_string aX aY = some r) : SCall Tryz.prog 175 [.v (vs aX), .v (vs aY)] ⟨[.v (vb r)], [], false⟩ := by
  refine scall_in Tryz.func175 rfl [(.tmp 4)] rfl (fun r => ⟨[.v (vb r)], [], false⟩) (r := r) ?_
  unfold cmp_Less_string at h
  refine srk tbok ⟨17, [(0, vs aX), (1, vs aY)], []⟩ ?_
  refine swp_seq ?_
  refine swp_regJ h (fun j3 => ⟨17, [(4, vb j3)], []⟩) (fun v4 h => ?_) (fun j3 h => ?_)
  refine SRun.ck tbok 1 ⟨17, [(0, vs aX), (1, vs aY), (5, vs aX)], []⟩ ?_
  obtain ⟨x1, hx1, h⟩ := bind_some h
  refine SRun.ls (xc ents214 (cmp_isNaN_string_run aX _ hx1)) ?_
  refine SRun.ck tbok 1 ⟨17, [(0, vs aX), (1, vs aY), (7, vb x1)], []⟩ ?_
  refine SRun.cu [(7, fun b => b)] h (fun h => ?_) fun h => ?_
  refine SRun.ck tbok 1 ⟨17, [(0, vs aX), (1, vs aY), (7, vb true), (8, vs aY)], []⟩ ?_
  obtain ⟨x2, hx2, h⟩ := bind_some h
  refine SRun.ls (xc ents214 (cmp_isNaN_string_run aY _ hx2)) ?_
  refine SRun.ck tbok 3 ⟨17, [(0, vs aX), (1, vs aY), (12, vb (!x2))], []⟩ ?_
  refine SRun.cu [(12, fun b => b)] h (fun h => ?_) fun h => ?_
  refine SRun.ck tbok 5 ⟨17, [(4, vb true)], []⟩ ?_
  refine SRun.nil ?_
  obtain rfl := inj h
  exact Le.sub0
  refine SRun.ck tbok 5 ⟨17, [(4, vb (Op.bytesLess aX.toList aY.toList))], []⟩ ?_
  refine SRun.nil ?_
  obtain rfl := inj h
  exact Le.sub0
  refine SRun.ck tbok 10 ⟨17, [(4, vb (Op.bytesLess aX.toList aY.toList))], []⟩ ?_
  refine SRun.nil ?_
  obtain rfl := inj h
  exact Le.sub0
  refine swp_ret ?_
  obtain rfl := inj h
  exact q_fr (f1 fv)
theorem ents175 : Ents Tryz.prog 175 := ents_of Tryz.func175 (by kernel_rfl) rfl
noncomputable def slices_insertionSortOrdered_string (aData : (List ByteArray)) (aA : Int) (aB : Int) : Option ((List ByteArray)) :=
  (forS aB (fun (i1 : Int) (s1 : (List ByteArray)) => (loop (fun (s5 : Int × (List ByteArray)) => (((bif (decide (s5.1 > aA)) then ((at' s5.2 s5.1).bind fun x7 => ((at' s5.2 (w64 (s5.1 - 1))).bind fun x8 => ((cmp_Less_string x7 x8).bind fun x9 => some x9))) else some false)).bind fun (j10 : Bool) => (bif j10 then ((((at' s5.2 (w64 (s5.1 - 1))).bind fun x14 => ((at' s5.2 s5.1).bind fun x15 => ((at' s5.2 s5.1).bind fun _ => ((at' (List.set s5.2 (Int.toNat s5.1) x14) (w64 (s5.1 - 1))).bind fun _ => some (List.set (List.set s5.2 (Int.toNat s5.1) x14) (Int.toNat (w64 (s5.1 - 1))) x15)))))).bind fun (j12 : (List ByteArray)) => some (.inl ((w64 (s5.1 - 1)), j12))) else some (.inr s5.2)))) (i1, s1))) (fun (s1 : (List ByteArray)) => s1) (w64 (aA + 1)) aData)
theorem slices_insertionSortOrdered_string_run (aData : (List ByteArray)) (aA : Int) (aB : Int) (r : (List ByteArray)) (h : slices_insertionSortOrdered_string aData aA aB = some r) : SCall Tryz.prog 169 [.o (oa 9 1 eS aData), .v (vi aA), .v (vi aB)] ⟨[], [(0, oa 9 1 eS r)], false⟩ := by
  refine scall_in Tryz.func169 rfl [] rfl (fun r => ⟨[], [(0, oa 9 1 eS r)], false⟩) (r := r) ?_
  unfold slices_insertionSortOrdered_string at h
  refine srk tbok ⟨49, [(0, .own 1000000), (1, vi aA), (2, vi aB), (6, vi (w64 (aA + 1)))], [(1000000, oa 9 1 eS aData)]⟩ ?_
  refine swp_blk (a := r) ?_
  refine swp_lpL (r := r) (s := ((w64 (aA + 1)), aData)) _ (fun s1 => ⟨49, [(0, .own 1000000), (1, vi aA), (2, vi aB), (6, vi s1.1)], [(1000000, oa 9 1 eS s1.2)]⟩) _ (Le.sub0) h (fun s1 v2 h => ?_)
  refine swp_seq ?_
  refine srk tbok ⟨49, [(0, .own 1000000), (1, vi aA), (2, vi aB), (6, vi s1.1), (12, vb (decide (s1.1 < aB)))], [(1000000, oa 9 1 eS s1.2)]⟩ ?_
  refine swp_cd h (fun h => ?_) fun h => ?_
  refine swp_skip ?_
  refine nx_n ?_
  refine swp_seq ?_
  refine swp_seqJ h (fun j3 => ⟨49, [(0, .own 1000000), (1, vi aA), (2, vi aB), (6, vi s1.1)], [(1000000, oa 9 1 eS j3)]⟩) (fun v4 h => ?_) (fun j3 h => ?_)
  refine swp_blk (a := v4) ?_
  refine srk tbok ⟨49, [(0, .own 1000000), (1, vi aA), (2, vi aB), (6, vi s1.1), (7, vi s1.1)], [(1000000, oa 9 1 eS s1.2)]⟩ ?_
  refine swp_blk (a := v4) ?_
  refine swp_lpL (r := v4) (s := (s1.1, s1.2)) _ (fun s5 => ⟨49, [(0, .own 1000000), (1, vi aA), (2, vi aB), (6, vi s1.1), (7, vi s5.1)], [(1000000, oa 9 1 eS s5.2)]⟩) _ (Le.sub0) h (fun s5 v6 h => ?_)
  refine swp_seq ?_
  refine swp_seq ?_
  refine swp_drJ mixed h (fun j10 => ⟨49, [(0, .own 1000000), (1, vi aA), (2, vi aB), (6, vi s1.1), (7, vi s5.1), (30, vb j10)], [(1000000, oa 9 1 eS s5.2)]⟩) (fun v11 h => ?_) (fun j10 h => ?_)
  refine DGo.ck tbok false 4 ⟨49, [(0, .own 1000000), (1, vi aA), (2, vi aB), (6, vi s1.1), (7, vi s5.1), (19, vb (decide (s5.1 > aA)))], [(1000000, oa 9 1 eS s5.2)]⟩ ?_
  refine DGo.cu [(19, fun b => b)] h (fun h => ?_) fun h => ?_
  refine DGo.ck tbok false 2 ⟨49, [(0, .own 1000000), (1, vi aA), (2, vi aB), (6, vi s1.1), (7, vi s5.1), (19, vb true), (20, .own 1000000), (21, vi s5.1)], [(1000000, oa 9 1 eS s5.2)]⟩ ?_
  obtain ⟨x7, hx7, h⟩ := bind_some h
  refine DGo.step (x_index_own (d := 1000000) (L := s5.2) (f := eS) (ti := ti28) (tj := ti9) (e := 9) (e' := 9) (m := 1) (k := .i64) tbok rfl hx7) ?_
  refine DGo.step (x_load_own (d := 1000000) (m := 1) (j := 0) (L := s5.2) (f := eS) (ti := ti9) (e := 9) (v := vs x7) tbok rfl hx7) ?_
  refine DGo.ck tbok false 3 ⟨49, [(0, .own 1000000), (1, vi aA), (2, vi aB), (6, vi s1.1), (7, vi s5.1), (19, vb true), (23, vs x7), (24, .own 1000000), (26, vi (w64 (s5.1 - 1)))], [(1000000, oa 9 1 eS s5.2)]⟩ ?_
  obtain ⟨x8, hx8, h⟩ := bind_some h
  refine DGo.step (x_index_own (d := 1000000) (L := s5.2) (f := eS) (ti := ti28) (tj := ti9) (e := 9) (e' := 9) (m := 1) (k := .i64) tbok rfl hx8) ?_
  refine DGo.step (x_load_own (d := 1000000) (m := 1) (j := 0) (L := s5.2) (f := eS) (ti := ti9) (e := 9) (v := vs x8) tbok rfl hx8) ?_
  obtain ⟨x9, hx9, h⟩ := bind_some h
  refine DGo.step (xc ents175 (cmp_Less_string_run x7 x8 _ hx9)) ?_
  refine DGo.ck tbok false 1 ⟨49, [(0, .own 1000000), (1, vi aA), (2, vi aB), (6, vi s1.1), (7, vi s5.1), (30, vb x9)], [(1000000, oa 9 1 eS s5.2)]⟩ ?_
  refine DGo.nil (by kernel_rfl) ?_
  obtain rfl := inj h
  exact Le.sub0
  refine DGo.ck tbok false 11 ⟨49, [(0, .own 1000000), (1, vi aA), (2, vi aB), (6, vi s1.1), (7, vi s5.1), (30, vb false)], [(1000000, oa 9 1 eS s5.2)]⟩ ?_
  refine DGo.nil (by kernel_rfl) ?_
  obtain rfl := inj h
  exact Le.sub0
  refine swp_cd h (fun h => ?_) fun h => ?_
  refine swp_skip ?_
  refine nx_n ?_
  refine swp_seq ?_
  refine swp_seqJ h (fun j12 => ⟨49, [(0, .own 1000000), (1, vi aA), (2, vi aB), (6, vi s1.1), (7, vi s5.1)], [(1000000, oa 9 1 eS j12)]⟩) (fun v13 h => ?_) (fun j12 h => ?_)
  refine swp_blk (a := v13) ?_
  refine swp_drD [1000000] mixed ?_
  refine DGo.ck tbok false 8 ⟨49, [(0, .own 1000000), (1, vi aA), (2, vi aB), (6, vi s1.1), (7, vi s5.1), (33, .own 1000000), (34, vi s5.1), (35, .own 1000000), (37, vi (w64 (s5.1 - 1))), (38, .own 1000000), (40, vi (w64 (s5.1 - 1)))], [(1000000, oa 9 1 eS s5.2)]⟩ ?_
  obtain ⟨x14, hx14, h⟩ := bind_some h
  refine DGo.stepW true [] (x_index_own (d := 1000000) (L := s5.2) (f := eS) (ti := ti28) (tj := ti9) (e := 9) (e' := 9) (m := 1) (k := .i64) tbok rfl hx14) ?_
  refine DGo.stepW true [] (x_load_own (d := 1000000) (m := 1) (j := 0) (L := s5.2) (f := eS) (ti := ti9) (e := 9) (v := vs x14) tbok rfl hx14) ?_
  refine DGo.ck tbok false 2 ⟨49, [(0, .own 1000000), (1, vi aA), (2, vi aB), (6, vi s1.1), (7, vi s5.1), (33, .own 1000000), (34, vi s5.1), (35, .own 1000000), (37, vi (w64 (s5.1 - 1))), (42, vs x14), (43, .own 1000000), (44, vi s5.1)], [(1000000, oa 9 1 eS s5.2)]⟩ ?_
  obtain ⟨x15, hx15, h⟩ := bind_some h
  refine DGo.stepW true [] (x_index_own (d := 1000000) (L := s5.2) (f := eS) (ti := ti28) (tj := ti9) (e := 9) (e' := 9) (m := 1) (k := .i64) tbok rfl hx15) ?_
  refine DGo.stepW true [] (x_load_own (d := 1000000) (m := 1) (j := 0) (L := s5.2) (f := eS) (ti := ti9) (e := 9) (v := vs x15) tbok rfl hx15) ?_
  obtain ⟨x16, hx16, h⟩ := bind_some h
  refine DGo.stepW true [] (x_index_own (d := 1000000) (L := s5.2) (f := eS) (ti := ti28) (tj := ti9) (e := 9) (e' := 9) (m := 1) (k := .i64) tbok rfl hx16) ?_
  refine DGo.write [] (x_wstore_own (d := 1000000) (m := 1) (j := 0) (L := s5.2) (f := eS) (x := x14) (z := x16) (ti := ti9) (e := 9) (ts := [.str x14]) (vs := [vs x14]) (v := vs x14) tbok rfl rfl hx16) ?_
  obtain ⟨x17, hx17, h⟩ := bind_some h
  refine DGo.stepW true [] (x_index_own (d := 1000000) (L := (List.set s5.2 (Int.toNat s5.1) x14)) (f := eS) (ti := ti28) (tj := ti9) (e := 9) (e' := 9) (m := 1) (k := .i64) tbok rfl hx17) ?_
  refine DGo.write [] (x_wstore_own (d := 1000000) (m := 1) (j := 0) (L := (List.set s5.2 (Int.toNat s5.1) x14)) (f := eS) (x := x15) (z := x17) (ti := ti9) (e := 9) (ts := [.str x15]) (vs := [vs x15]) (v := vs x15) tbok rfl rfl hx17) ?_
  refine DGo.nil (by kernel_rfl) ?_
  obtain rfl := inj h
  exact q_bn (q_j (Le.sub0))
  refine swp_reg ?_
  refine SRun.ck tbok 3 ⟨49, [(0, .own 1000000), (1, vi aA), (2, vi aB), (6, vi s1.1), (7, vi (w64 (s5.1 - 1)))], [(1000000, oa 9 1 eS j12)]⟩ ?_
  refine SRun.nil ?_
  obtain rfl := inj h
  exact q_l (Le.sub0)
  refine swp_exit ?_
  obtain rfl := inj h
  exact nx_e (q_re (q_bh (q_bn (q_j (Le.sub0)))))
  refine swp_reg ?_
  refine SRun.ck tbok 3 ⟨49, [(0, .own 1000000), (1, vi aA), (2, vi aB), (6, vi (w64 (s1.1 + 1)))], [(1000000, oa 9 1 eS j3)]⟩ ?_
  refine SRun.nil ?_
  obtain rfl := inj h
  exact q_l (Le.sub0)
  refine swp_exit ?_
  obtain rfl := inj h
  exact nx_e (q_re (q_bh (q_fn (fin_io (fin0 (by kernel_rfl)) (y := oa 9 1 eS s1.2) (by kernel_rfl) rfl (by kernel_rfl) (by kernel_rfl)))))
theorem ents169 : Ents Tryz.prog 169 := ents_of Tryz.func169 (by kernel_rfl) rfl
noncomputable def slices_pdqsortOrdered_string (aData : (List ByteArray)) (aA : Int) (aB : Int) (aLimit : Int) : Option ((List ByteArray)) :=
  (loop (fun (s1 : Int × Int × Int × Bool × Bool × (List ByteArray)) => (bif (decide ((w64 (s1.2.1 - s1.1)) ≤ 12)) then ((slices_insertionSortOrdered_string s1.2.2.2.2.2 s1.1 s1.2.1).bind fun x3 => some (.inr x3)) else (bif (s1.2.2.1 == 0) then none else (((bif (!s1.2.2.2.1) then none else some s1.2.2.1)).bind fun (_ : Int) => none)))) (aA, aB, aLimit, true, true, aData))
theorem slices_pdqsortOrdered_string_run (aData : (List ByteArray)) (aA : Int) (aB : Int) (aLimit : Int) (r : (List ByteArray)) (h : slices_pdqsortOrdered_string aData aA aB aLimit = some r) : SCall Tryz.prog 151 [.o (oa 9 1 eS aData), .v (vi aA), .v (vi aB), .v (vi aLimit)] ⟨[], [(0, oa 9 1 eS r)], false⟩ := by
  refine scall_in Tryz.func151 rfl [] rfl (fun r => ⟨[], [(0, oa 9 1 eS r)], false⟩) (r := r) ?_
  unfold slices_pdqsortOrdered_string at h
  refine srk tbok ⟨134, [(0, .own 1000000), (1, vi aA), (2, vi aB), (3, vi aLimit), (8, vb true)], [(1000000, oa 9 1 eS aData)]⟩ ?_
  refine srk tbok ⟨134, [(0, .own 1000000), (1, vi aA), (2, vi aB), (3, vi aLimit), (8, vb true), (9, vb true)], [(1000000, oa 9 1 eS aData)]⟩ ?_
  refine swp_blk (a := r) ?_
  refine swp_lpL (r := r) (s := (aA, aB, aLimit, true, true, aData)) _ (fun s1 => ⟨134, [(0, .own 1000000), (1, vi s1.1), (2, vi s1.2.1), (3, vi s1.2.2.1), (8, vb s1.2.2.2.1), (9, vb s1.2.2.2.2.1)], [(1000000, oa 9 1 eS s1.2.2.2.2.2)]⟩) _ (Le.sub0) h (fun s1 v2 h => ?_)
  refine swp_blk (a := v2) ?_
  refine srk tbok ⟨134, [(0, .own 1000000), (1, vi s1.1), (2, vi s1.2.1), (3, vi s1.2.2.1), (8, vb s1.2.2.2.1), (9, vb s1.2.2.2.2.1), (10, vi (w64 (s1.2.1 - s1.1)))], [(1000000, oa 9 1 eS s1.2.2.2.2.2)]⟩ ?_
  refine swp_seq ?_
  refine srk tbok ⟨134, [(0, .own 1000000), (1, vi s1.1), (2, vi s1.2.1), (3, vi s1.2.2.1), (8, vb s1.2.2.2.1), (9, vb s1.2.2.2.2.1), (10, vi (w64 (s1.2.1 - s1.1))), (23, vb (decide ((w64 (s1.2.1 - s1.1)) ≤ 12)))], [(1000000, oa 9 1 eS s1.2.2.2.2.2)]⟩ ?_
  refine swp_cd h (fun h => ?_) fun h => ?_
  refine sr ?_
  refine SRun.ck tbok 3 ⟨134, [(24, .own 1000000), (25, vi s1.1), (26, vi s1.2.1)], [(1000000, oa 9 1 eS s1.2.2.2.2.2)]⟩ ?_
  obtain ⟨x3, hx3, h⟩ := bind_some h
  refine SRun.estep (xe ents169 (slices_insertionSortOrdered_string_run s1.2.2.2.2.2 s1.1 s1.2.1 _ hx3)) ?_
  refine SRun.nx ?_
  refine swp_ret ?_
  obtain rfl := inj h
  exact nx_r (q_br (q_rr (q_br (q_fr (fin_io (fin0 (by kernel_rfl)) (y := oa 9 1 eS x3) (by kernel_rfl) rfl (by kernel_rfl) (by kernel_rfl))))))
  refine swp_skip ?_
  refine nx_n ?_
  refine swp_seq ?_
  refine srk tbok ⟨134, [(0, .own 1000000), (1, vi s1.1), (2, vi s1.2.1), (3, vi s1.2.2.1), (8, vb s1.2.2.2.1), (9, vb s1.2.2.2.2.1), (10, vi (w64 (s1.2.1 - s1.1))), (29, vb (s1.2.2.1 == 0))], [(1000000, oa 9 1 eS s1.2.2.2.2.2)]⟩ ?_
  refine swp_cd h (fun h => ?_) fun h => ?_
  refine swp_seq ?_
  cases h
  refine swp_skip ?_
  refine nx_n ?_
  refine swp_seq ?_
  refine srk tbok ⟨134, [(0, .own 1000000), (1, vi s1.1), (2, vi s1.2.1), (3, vi s1.2.2.1), (8, vb s1.2.2.2.1), (9, vb s1.2.2.2.2.1), (10, vi (w64 (s1.2.1 - s1.1))), (35, vb (!s1.2.2.2.1))], [(1000000, oa 9 1 eS s1.2.2.2.2.2)]⟩ ?_
  refine swp_seqJ h (fun j4 => ⟨134, [(0, .own 1000000), (1, vi s1.1), (2, vi s1.2.1), (3, vi j4), (8, vb s1.2.2.2.1), (9, vb s1.2.2.2.2.1), (10, vi (w64 (s1.2.1 - s1.1)))], [(1000000, oa 9 1 eS s1.2.2.2.2.2)]⟩) (fun v5 h => ?_) (fun j4 h => ?_)
  refine swp_cd h (fun h => ?_) fun h => ?_
  refine swp_seq ?_
  cases h
  refine swp_skip ?_
  obtain rfl := inj h
  exact q_j (Le.sub0)
  refine swp_seq ?_
  cases h
theorem ents151 : Ents Tryz.prog 151 := ents_of Tryz.func151 (by kernel_rfl) rfl
noncomputable def slices_Sort_string (aX : (List ByteArray)) : Option ((List ByteArray)) :=
  ((bits_Len (IntKind.wrap .u64 (aX.length : Int))).bind fun x1 => ((slices_pdqsortOrdered_string aX 0 (aX.length : Int) x1).bind fun x2 => some x2))
theorem slices_Sort_string_run (aX : (List ByteArray)) (r : (List ByteArray)) (h : slices_Sort_string aX = some r) : SCall Tryz.prog 115 [.o (oa 9 1 eS aX)] ⟨[], [(0, oa 9 1 eS r)], false⟩ := by
  refine scall_in Tryz.func115 rfl [] rfl (fun r => ⟨[], [(0, oa 9 1 eS r)], false⟩) (r := r) ?_
  unfold slices_Sort_string at h
  refine srk tbok ⟨11, [(0, .own 1000000), (2, vi (aX.length : Int))], [(1000000, oa 9 1 eS aX)]⟩ ?_
  refine swp_reg ?_
  refine SRun.ck tbok 4 ⟨11, [(5, .own 1000000), (6, vi (aX.length : Int)), (8, .tr (.int .u64 (IntKind.wrap .u64 (aX.length : Int))))], [(1000000, oa 9 1 eS aX)]⟩ ?_
  obtain ⟨x1, hx1, h⟩ := bind_some h
  refine SRun.ls (xc ents152 (bits_Len_run (IntKind.wrap .u64 (aX.length : Int)) _ hx1)) ?_
  obtain ⟨x2, hx2, h⟩ := bind_some h
  refine SRun.estep (xe ents151 (slices_pdqsortOrdered_string_run aX 0 (aX.length : Int) x1 _ hx2)) ?_
  refine SRun.nil ?_
  obtain rfl := inj h
  exact q_fn (fin_io (fin0 (by kernel_rfl)) (y := oa 9 1 eS x2) (by kernel_rfl) rfl (by kernel_rfl) (by kernel_rfl))
theorem ents115 : Ents Tryz.prog 115 := ents_of Tryz.func115 (by kernel_rfl) rfl
noncomputable def slices_Compact_string (aS : (List ByteArray)) : Option ((List ByteArray)) :=
  (bif (decide ((aS.length : Int) < 2)) then some aS else (((loop (fun (s3 : Int × (List ByteArray)) => (bif (decide (s3.1 < (s3.2.length : Int))) then ((((at' s3.2 s3.1).bind fun x7 => ((at' s3.2 (w64 (s3.1 - 1))).bind fun x8 => (bif (x7.toList == x8.toList) then none else some (.inl (s3.1, s3.2)))))).bind (Sum.elim (fun (j5 : Int × (List ByteArray)) => some (.inl ((w64 (j5.1 + 1)), j5.2))) (fun a => some (.inr a)))) else some (.inr (.inl s3.2)))) (1, aS))).bind (Sum.elim (fun (j1 : (List ByteArray)) => some j1) some)))
theorem slices_Compact_string_run (aS : (List ByteArray)) (r : (List ByteArray)) (h : slices_Compact_string aS = some r) : SCall Tryz.prog 116 [.o (oa 9 1 eS aS)] ⟨[.arg 0], [(0, oa 9 1 eS r)], false⟩ := by
  refine scall_in Tryz.func116 rfl [(.tmp 2)] rfl (fun r => ⟨[.arg 0], [(0, oa 9 1 eS r)], false⟩) (r := r) ?_
  unfold slices_Compact_string at h
  refine srk tbok ⟨61, [(0, .own 1000000)], [(1000000, oa 9 1 eS aS)]⟩ ?_
  refine swp_seq ?_
  refine srk tbok ⟨61, [(0, .own 1000000), (8, vb (decide ((aS.length : Int) < 2)))], [(1000000, oa 9 1 eS aS)]⟩ ?_
  refine swp_cd h (fun h => ?_) fun h => ?_
  refine srk tbok ⟨61, [(2, .own 1000000)], [(1000000, oa 9 1 eS aS)]⟩ ?_
  refine swp_ret ?_
  obtain rfl := inj h
  exact nx_r (q_fr (fin_io (f1 (fa)) (y := oa 9 1 eS aS) (by kernel_rfl) rfl (by kernel_rfl) (by kernel_rfl)))
  refine swp_skip ?_
  refine nx_n ?_
  refine swp_seq ?_
  refine srk tbok ⟨61, [(0, .own 1000000), (3, vi 1)], [(1000000, oa 9 1 eS aS)]⟩ ?_
  refine swp_seqE (r := r) h (fun j1 => ⟨61, [(0, .own 1000000)], [(1000000, oa 9 1 eS j1)]⟩) (fun v2 h => ?_) (fun j1 h => ?_)
  refine swp_blk (a := v2) ?_
  refine swp_lpL (r := v2) (s := (1, aS)) _ (fun s3 => ⟨61, [(0, .own 1000000), (3, vi s3.1)], [(1000000, oa 9 1 eS s3.2)]⟩) _ (Le.sub0) h (fun s3 v4 h => ?_)
  refine swp_seq ?_
  refine srk tbok ⟨61, [(0, .own 1000000), (3, vi s3.1), (13, vb (decide (s3.1 < (s3.2.length : Int))))], [(1000000, oa 9 1 eS s3.2)]⟩ ?_
  refine swp_cd h (fun h => ?_) fun h => ?_
  refine swp_skip ?_
  refine nx_n ?_
  refine swp_seq ?_
  refine swp_seqL (r := v4) h (fun j5 => ⟨61, [(0, .own 1000000), (3, vi j5.1)], [(1000000, oa 9 1 eS j5.2)]⟩) (fun v6 h => ?_) (fun j5 h => ?_)
  refine swp_blk (a := v6) ?_
  refine swp_seq ?_
  refine swp_dr mixed ?_
  refine DGo.ck tbok false 2 ⟨61, [(0, .own 1000000), (3, vi s3.1), (16, .own 1000000), (17, vi s3.1)], [(1000000, oa 9 1 eS s3.2)]⟩ ?_
  obtain ⟨x7, hx7, h⟩ := bind_some h
  refine DGo.step (x_index_own (d := 1000000) (L := s3.2) (f := eS) (ti := ti28) (tj := ti9) (e := 9) (e' := 9) (m := 1) (k := .i64) tbok rfl hx7) ?_
  refine DGo.step (x_load_own (d := 1000000) (m := 1) (j := 0) (L := s3.2) (f := eS) (ti := ti9) (e := 9) (v := vs x7) tbok rfl hx7) ?_
  refine DGo.ck tbok false 3 ⟨61, [(0, .own 1000000), (3, vi s3.1), (19, vs x7), (20, .own 1000000), (22, vi (w64 (s3.1 - 1)))], [(1000000, oa 9 1 eS s3.2)]⟩ ?_
  obtain ⟨x8, hx8, h⟩ := bind_some h
  refine DGo.step (x_index_own (d := 1000000) (L := s3.2) (f := eS) (ti := ti28) (tj := ti9) (e := 9) (e' := 9) (m := 1) (k := .i64) tbok rfl hx8) ?_
  refine DGo.step (x_load_own (d := 1000000) (m := 1) (j := 0) (L := s3.2) (f := eS) (ti := ti9) (e := 9) (v := vs x8) tbok rfl hx8) ?_
  refine DGo.ck tbok false 1 ⟨61, [(0, .own 1000000), (3, vi s3.1), (25, vb (x7.toList == x8.toList))], [(1000000, oa 9 1 eS s3.2)]⟩ ?_
  refine DGo.nx ?_
  refine swp_cd h (fun h => ?_) fun h => ?_
  cases h
  refine swp_skip ?_
  obtain rfl := inj h
  exact q_bn (q_l (Le.sub0))
  refine swp_reg ?_
  refine SRun.ck tbok 3 ⟨61, [(0, .own 1000000), (3, vi (w64 (j5.1 + 1)))], [(1000000, oa 9 1 eS j5.2)]⟩ ?_
  refine SRun.nil ?_
  obtain rfl := inj h
  exact q_l (Le.sub0)
  refine swp_exit ?_
  obtain rfl := inj h
  exact nx_e (q_re (q_bh (q_l (Le.sub0))))
  refine srk tbok ⟨61, [(2, .own 1000000)], [(1000000, oa 9 1 eS j1)]⟩ ?_
  refine swp_ret ?_
  obtain rfl := inj h
  exact q_fr (fin_io (f1 (fa)) (y := oa 9 1 eS j1) (by kernel_rfl) rfl (by kernel_rfl) (by kernel_rfl))
theorem ents116 : Ents Tryz.prog 116 := ents_of Tryz.func116 (by kernel_rfl) rfl
noncomputable def impl_sorted (aList : (List ByteArray)) : Option ((List ByteArray)) :=
  ((slices_Sort_string aList).bind fun x1 => ((slices_Compact_string x1).bind fun x2 => some x2))
theorem impl_sorted_run (aList : (List ByteArray)) (r : (List ByteArray)) (h : impl_sorted aList = some r) : SCall Tryz.prog 70 [.o (oa 9 1 eS aList)] ⟨[.arg 0], [(0, oa 9 1 eS r)], false⟩ := by
  refine scall_in Tryz.func70 rfl [(.tmp 2)] rfl (fun r => ⟨[.arg 0], [(0, oa 9 1 eS r)], false⟩) (r := r) ?_
  unfold impl_sorted at h
  refine srk tbok ⟨7, [(0, .own 1000000)], [(1000000, oa 9 1 eS aList)]⟩ ?_
  refine sr ?_
  refine SRun.ck tbok 1 ⟨7, [(0, .own 1000000), (3, .own 1000000)], [(1000000, oa 9 1 eS aList)]⟩ ?_
  obtain ⟨x1, hx1, h⟩ := bind_some h
  refine SRun.estep (xe ents115 (slices_Sort_string_run aList _ hx1)) ?_
  refine SRun.nx ?_
  refine sr ?_
  refine SRun.ck tbok 1 ⟨7, [(5, .own 1000000)], [(1000000, oa 9 1 eS x1)]⟩ ?_
  obtain ⟨x2, hx2, h⟩ := bind_some h
  refine SRun.estep (xa ents116 (slices_Compact_string_run x1 _ hx2)) ?_
  refine ckn tbok 1 ⟨7, [(2, .own 1000000)], [(1000000, oa 9 1 eS x2)]⟩ ?_
  refine swp_ret ?_
  obtain rfl := inj h
  exact q_fr (fin_io (f1 (fa)) (y := oa 9 1 eS x2) (by kernel_rfl) rfl (by kernel_rfl) (by kernel_rfl))
theorem ents70 : Ents Tryz.prog 70 := ents_of Tryz.func70 (by kernel_rfl) rfl
noncomputable def impl_ExactAnswers (aList : (List Candidate)) (aText : ByteArray) (aSites : (List Site)) (aDescriptions : (List Description)) : Option ((List ByteArray) × Int) :=
  ((impl_AnswersOf aList aText aSites aDescriptions).bind fun x1 => (((forS (x1.1.length : Int) (fun (i4 : Int) (s4 : (List ByteArray)) => ((at' x1.1 i4).bind fun x8 => (((bif (x8.Distance == 0) then ((impl_length_Description aDescriptions).bind fun x9 => some (x8.Satisfied == x9)) else some false)).bind fun (j10 : Bool) => (bif j10 then ((app' s4 ([x8.Code] : List ByteArray)).bind fun x12 => some x12) else some s4)))) (fun (s4 : (List ByteArray)) => s4) 0 ([] : List ByteArray))).bind fun (j2 : (List ByteArray)) => ((impl_sorted j2).bind fun x13 => some (x13, x1.2))))
theorem impl_ExactAnswers_run (aList : (List Candidate)) (aText : ByteArray) (aSites : (List Site)) (aDescriptions : (List Description)) (r : (List ByteArray) × Int) (h : impl_ExactAnswers aList aText aSites aDescriptions = some r) : SCall Tryz.prog 25 [.v (vl eCandidate aList), .v (vs aText), .v (vl eSite aSites), .v (vl eDescription aDescriptions)] ⟨[.own 9 1 r.1.length (r.1.map eS), .v (vi r.2)], [], false⟩ := by
  refine scall_in Tryz.func25 rfl [(.tmp 8), (.tmp 9)] rfl (fun r => ⟨[.own 9 1 r.1.length (r.1.map eS), .v (vi r.2)], [], false⟩) (r := r) ?_
  unfold impl_ExactAnswers at h
  refine srk tbok ⟨48, [(0, vl eCandidate aList), (1, vs aText), (2, vl eSite aSites), (3, vl eDescription aDescriptions)], []⟩ ?_
  refine sr ?_
  refine SRun.ck tbok 4 ⟨48, [(3, vl eDescription aDescriptions), (16, vl eCandidate aList), (17, vs aText), (18, vl eSite aSites), (19, vl eDescription aDescriptions)], []⟩ ?_
  obtain ⟨x1, hx1, h⟩ := bind_some h
  refine SRun.ls (xc ents38 (impl_AnswersOf_run aList aText aSites aDescriptions _ hx1)) ?_
  refine ckn tbok 5 ⟨48, [(3, vl eDescription aDescriptions), (10, .own 20), (11, vi x1.2)], [(20, oa 59 3 eAnswer x1.1)]⟩ ?_
  refine srk tbok ⟨48, [(3, vl eDescription aDescriptions), (10, .own 20), (11, vi x1.2), (12, .own 12)], [(12, oa 9 1 eS ([] : List ByteArray)), (20, oa 59 3 eAnswer x1.1)]⟩ ?_
  refine swp_seq ?_
  refine srk tbok ⟨48, [(3, vl eDescription aDescriptions), (11, vi x1.2), (12, .own 12), (23, .own 20), (24, vi (x1.1.length : Int)), (25, vi 0)], [(12, oa 9 1 eS ([] : List ByteArray)), (20, oa 59 3 eAnswer x1.1)]⟩ ?_
  refine swp_seqJ h (fun j2 => ⟨48, [(11, vi x1.2), (12, .own 12)], [(12, oa 9 1 eS j2)]⟩) (fun v3 h => ?_) (fun j2 h => ?_)
  refine swp_blk (a := v3) ?_
  refine swp_lpL (r := v3) (s := (0, ([] : List ByteArray))) _ (fun s4 => ⟨48, [(3, vl eDescription aDescriptions), (11, vi x1.2), (12, .own 12), (23, .own 23), (24, vi (x1.1.length : Int)), (25, vi s4.1)], [(12, oa 9 1 eS s4.2), (23, oa 59 3 eAnswer x1.1)]⟩) _ (Le.rr [12, 20] [(20, 23)]) h (fun s4 v5 h => ?_)
  refine srk tbok ⟨48, [(3, vl eDescription aDescriptions), (11, vi x1.2), (12, .own 12), (23, .own 23), (24, vi (x1.1.length : Int)), (25, vi s4.1), (26, vb (decide (s4.1 < (x1.1.length : Int))))], [(12, oa 9 1 eS s4.2), (23, oa 59 3 eAnswer x1.1)]⟩ ?_
  refine swp_seq ?_
  refine swp_cd h (fun h => ?_) fun h => ?_
  refine swp_skip ?_
  refine nx_n ?_
  refine swp_seq ?_
  refine swp_seqJ h (fun j6 => ⟨48, [(3, vl eDescription aDescriptions), (11, vi x1.2), (12, .own 12), (23, .own 23), (24, vi (x1.1.length : Int)), (25, vi s4.1)], [(12, oa 9 1 eS j6), (23, oa 59 3 eAnswer x1.1)]⟩) (fun v7 h => ?_) (fun j6 h => ?_)
  refine swp_blk (a := v7) ?_
  refine sr ?_
  obtain ⟨x8, hx8, h⟩ := bind_some h
  refine SRun.ls (x_index_own (d := 23) (L := x1.1) (f := eAnswer) (ti := ti62) (tj := ti59) (e := 59) (e' := 59) (m := 3) (k := .i64) tbok rfl hx8) ?_
  refine SRun.ls (x_load_own (d := 23) (m := 3) (j := 0) (L := x1.1) (f := eAnswer) (ti := ti59) (e := 59) (v := .agg (tc eAnswer x8)) tbok rfl hx8) ?_
  refine ckn tbok 2 ⟨48, [(3, vl eDescription aDescriptions), (11, vi x1.2), (12, .own 12), (14, .ref 14 0), (23, .own 23), (24, vi (x1.1.length : Int)), (25, vi s4.1)], [(12, oa 9 1 eS s4.2), (14, .box (tc eAnswer x8)), (23, oa 59 3 eAnswer x1.1)]⟩ ?_
  refine swp_seq ?_
  refine swp_drJ mixed h (fun j10 => ⟨48, [(3, vl eDescription aDescriptions), (11, vi x1.2), (12, .own 12), (14, .ref 14 0), (23, .own 23), (24, vi (x1.1.length : Int)), (25, vi s4.1), (38, vb j10)], [(12, oa 9 1 eS s4.2), (14, .box (tc eAnswer x8)), (23, oa 59 3 eAnswer x1.1)]⟩) (fun v11 h => ?_) (fun j10 h => ?_)
  refine DGo.ck tbok false 4 ⟨48, [(3, vl eDescription aDescriptions), (11, vi x1.2), (12, .own 12), (14, .ref 14 0), (23, .own 23), (24, vi (x1.1.length : Int)), (25, vi s4.1), (32, vb (x8.Distance == 0))], [(12, oa 9 1 eS s4.2), (14, .box (tc eAnswer x8)), (23, oa 59 3 eAnswer x1.1)]⟩ ?_
  refine DGo.cu [(32, fun b => b)] h (fun h => ?_) fun h => ?_
  refine DGo.ck tbok false 3 ⟨48, [(3, vl eDescription aDescriptions), (11, vi x1.2), (12, .own 12), (14, .ref 14 0), (23, .own 23), (24, vi (x1.1.length : Int)), (25, vi s4.1), (32, vb true), (34, vi x8.Satisfied), (35, vl eDescription aDescriptions)], [(12, oa 9 1 eS s4.2), (14, .box (tc eAnswer x8)), (23, oa 59 3 eAnswer x1.1)]⟩ ?_
  obtain ⟨x9, hx9, h⟩ := bind_some h
  refine DGo.step (xc ents69 (impl_length_Description_run aDescriptions _ hx9)) ?_
  refine DGo.ck tbok false 2 ⟨48, [(3, vl eDescription aDescriptions), (11, vi x1.2), (12, .own 12), (14, .ref 14 0), (23, .own 23), (24, vi (x1.1.length : Int)), (25, vi s4.1), (38, vb (x8.Satisfied == x9))], [(12, oa 9 1 eS s4.2), (14, .box (tc eAnswer x8)), (23, oa 59 3 eAnswer x1.1)]⟩ ?_
  refine DGo.nil (by kernel_rfl) ?_
  obtain rfl := inj h
  exact Le.sub0
  refine DGo.ck tbok false 6 ⟨48, [(3, vl eDescription aDescriptions), (11, vi x1.2), (12, .own 12), (14, .ref 14 0), (23, .own 23), (24, vi (x1.1.length : Int)), (25, vi s4.1), (38, vb false)], [(12, oa 9 1 eS s4.2), (14, .box (tc eAnswer x8)), (23, oa 59 3 eAnswer x1.1)]⟩ ?_
  refine DGo.nil (by kernel_rfl) ?_
  obtain rfl := inj h
  exact Le.sub0
  refine swp_cd h (fun h => ?_) fun h => ?_
  refine swp_reg ?_
  refine SRun.ck tbok 4 ⟨48, [(3, vl eDescription aDescriptions), (11, vi x1.2), (23, .own 23), (24, vi (x1.1.length : Int)), (25, vi s4.1), (39, .own 12), (42, .own 42)], [(12, oa 9 1 eS s4.2), (23, oa 59 3 eAnswer x1.1), (42, oa 9 1 eS ([x8.Code] : List ByteArray))]⟩ ?_
  obtain ⟨x12, hx12, h⟩ := bind_some h
  refine SRun.estep (x_append (f := eS) (t := 28) (ti := ti28) (tj := ti9) (zs := [.string (ByteArray.mk #[])]) (e := 9) (m := 1) (d := 12) (xv := .own 42) hx12 tbok rfl rfl rfl rfl (x_src_o (e := 9))) ?_
  refine SRun.ck tbok 1 ⟨48, [(3, vl eDescription aDescriptions), (11, vi x1.2), (12, .own 43), (23, .own 23), (24, vi (x1.1.length : Int)), (25, vi s4.1)], [(23, oa 59 3 eAnswer x1.1), (43, oa 9 1 eS x12)]⟩ ?_
  refine SRun.nil ?_
  obtain rfl := inj h
  exact q_bn (q_j (Le.rr [23, 43] [(43, 12)]))
  refine swp_skip ?_
  obtain rfl := inj h
  exact q_bn (q_j (Le.sub0))
  refine swp_reg ?_
  refine SRun.ck tbok 2 ⟨48, [(3, vl eDescription aDescriptions), (11, vi x1.2), (12, .own 12), (23, .own 23), (24, vi (x1.1.length : Int)), (25, vi (w64 (s4.1 + 1)))], [(12, oa 9 1 eS j6), (23, oa 59 3 eAnswer x1.1)]⟩ ?_
  refine SRun.nil ?_
  obtain rfl := inj h
  exact q_l (Le.sub0)
  refine swp_exit ?_
  obtain rfl := inj h
  exact nx_e (q_re (q_bh (q_j (Le.sub0))))
  refine sr ?_
  refine SRun.ck tbok 1 ⟨48, [(11, vi x1.2), (45, .own 12)], [(12, oa 9 1 eS j2)]⟩ ?_
  obtain ⟨x13, hx13, h⟩ := bind_some h
  refine SRun.estep (xa ents70 (impl_sorted_run j2 _ hx13)) ?_
  refine ckn tbok 3 ⟨48, [(8, .own 12), (9, vi x1.2)], [(12, oa 9 1 eS x13)]⟩ ?_
  refine swp_ret ?_
  obtain rfl := inj h
  exact q_fr (f2 (fo eS_flat) fv)
theorem ents25 : Ents Tryz.prog 25 := ents_of Tryz.func25 (by kernel_rfl) rfl
noncomputable def spec_l08Insert (aList : (List ByteArray)) (aS : ByteArray) : Option ((List ByteArray)) :=
  (((loop (fun (s3 : Int) => (((bif (decide (s3 < (aList.length : Int))) then ((at' aList s3).bind fun x5 => some (Op.bytesLess x5.toList aS.toList)) else some false)).bind fun (j6 : Bool) => (bif j6 then some (.inl (w64 (s3 + 1))) else some (.inr s3)))) 0)).bind fun (j1 : Int) => (((bif (decide (j1 < (aList.length : Int))) then ((at' aList j1).bind fun x8 => some (x8.toList == aS.toList)) else some false)).bind fun (j9 : Bool) => (bif j9 then some aList else ((part' aList 0 j1).bind fun x11 => ((app' ([] : List ByteArray) x11).bind fun x12 => ((app' x12 ([aS] : List ByteArray)).bind fun x13 => ((part' aList j1 (aList.length : Int)).bind fun x14 => ((app' x13 x14).bind fun x15 => some x15))))))))
theorem spec_l08Insert_run (aList : (List ByteArray)) (aS : ByteArray) (r : (List ByteArray)) (h : spec_l08Insert aList aS = some r) : SCall Tryz.prog 68 [.v (vl eS aList), .v (vs aS)] ⟨[.v (vl eS r)], [], true⟩ := by
  refine scall_in Tryz.func68 rfl [(.tmp 4)] rfl (fun r => ⟨[.v (vl eS r)], [], true⟩) (r := r) ?_
  unfold spec_l08Insert at h
  refine srk tbok ⟨45, [(0, vl eS aList), (1, vs aS)], []⟩ ?_
  refine srk tbok ⟨45, [(0, vl eS aList), (1, vs aS), (5, vi 0)], []⟩ ?_
  refine swp_seq ?_
  refine swp_seqJ h (fun j1 => ⟨45, [(0, vl eS aList), (1, vs aS), (5, vi j1)], []⟩) (fun v2 h => ?_) (fun j1 h => ?_)
  refine swp_blk (a := v2) ?_
  refine swp_lpL (r := v2) (s := 0) _ (fun s3 => ⟨45, [(0, vl eS aList), (1, vs aS), (5, vi s3)], []⟩) _ (Le.sub0) h (fun s3 v4 h => ?_)
  refine swp_seq ?_
  refine swp_seq ?_
  refine swp_regJ h (fun j6 => ⟨45, [(0, vl eS aList), (1, vs aS), (5, vi s3), (17, vb j6)], []⟩) (fun v7 h => ?_) (fun j6 h => ?_)
  refine SRun.ck tbok 5 ⟨45, [(0, vl eS aList), (1, vs aS), (5, vi s3), (10, vb (decide (s3 < (aList.length : Int))))], []⟩ ?_
  refine SRun.cu [(10, fun b => b)] h (fun h => ?_) fun h => ?_
  refine SRun.ck tbok 2 ⟨45, [(0, vl eS aList), (1, vs aS), (5, vi s3), (10, vb true), (11, vl eS aList), (12, vi s3)], []⟩ ?_
  obtain ⟨x5, hx5, h⟩ := bind_some h
  refine SRun.ls (x_index (L := aList) (f := eS) (ti := ti28) (tj := ti9) (e := 9) (k := .i64) tbok rfl hx5) ?_
  refine SRun.ck tbok 4 ⟨45, [(0, vl eS aList), (1, vs aS), (5, vi s3), (17, vb (Op.bytesLess x5.toList aS.toList))], []⟩ ?_
  refine SRun.nil ?_
  obtain rfl := inj h
  exact Le.sub0
  refine SRun.ck tbok 7 ⟨45, [(0, vl eS aList), (1, vs aS), (5, vi s3), (17, vb false)], []⟩ ?_
  refine SRun.nil ?_
  obtain rfl := inj h
  exact Le.sub0
  refine swp_cd h (fun h => ?_) fun h => ?_
  refine swp_skip ?_
  refine nx_n ?_
  refine swp_blk (a := v4) ?_
  refine swp_reg ?_
  refine SRun.ck tbok 3 ⟨45, [(0, vl eS aList), (1, vs aS), (5, vi (w64 (s3 + 1)))], []⟩ ?_
  refine SRun.nil ?_
  obtain rfl := inj h
  exact q_bn (q_l (Le.sub0))
  refine swp_exit ?_
  obtain rfl := inj h
  exact nx_e (q_re (q_bh (q_j (Le.sub0))))
  refine swp_seq ?_
  refine swp_seq ?_
  refine swp_regJ h (fun j9 => ⟨45, [(0, vl eS aList), (1, vs aS), (5, vi j1), (31, vb j9)], []⟩) (fun v10 h => ?_) (fun j9 h => ?_)
  refine SRun.ck tbok 5 ⟨45, [(0, vl eS aList), (1, vs aS), (5, vi j1), (24, vb (decide (j1 < (aList.length : Int))))], []⟩ ?_
  refine SRun.cu [(24, fun b => b)] h (fun h => ?_) fun h => ?_
  refine SRun.ck tbok 2 ⟨45, [(0, vl eS aList), (1, vs aS), (5, vi j1), (24, vb true), (25, vl eS aList), (26, vi j1)], []⟩ ?_
  obtain ⟨x8, hx8, h⟩ := bind_some h
  refine SRun.ls (x_index (L := aList) (f := eS) (ti := ti28) (tj := ti9) (e := 9) (k := .i64) tbok rfl hx8) ?_
  refine SRun.ck tbok 4 ⟨45, [(0, vl eS aList), (1, vs aS), (5, vi j1), (31, vb (x8.toList == aS.toList))], []⟩ ?_
  refine SRun.nil ?_
  obtain rfl := inj h
  exact Le.sub0
  refine SRun.ck tbok 7 ⟨45, [(0, vl eS aList), (1, vs aS), (5, vi j1), (31, vb false)], []⟩ ?_
  refine SRun.nil ?_
  obtain rfl := inj h
  exact Le.sub0
  refine swp_cd h (fun h => ?_) fun h => ?_
  refine srk tbok ⟨45, [(4, vl eS aList)], []⟩ ?_
  refine swp_ret ?_
  obtain rfl := inj h
  exact nx_r (q_fr (f1 ft))
  refine swp_skip ?_
  refine nx_n ?_
  refine swp_seq ?_
  obtain ⟨x11, hx11, h⟩ := bind_some h
  obtain ⟨x12, hx12, h⟩ := bind_some h
  obtain ⟨x13, hx13, h⟩ := bind_some h
  obtain ⟨x14, hx14, h⟩ := bind_some h
  obtain ⟨x15, hx15, h⟩ := bind_some h
  refine swp_dr mixed ?_
  refine DGo.enum (σE := ⟨45, [(4, .own 44)], [(44, oa 9 1 eS x15)]⟩) (n := 13) (L0 := #[false, false, false, false, false, false, false, false, false, false, false, false, false]) (by kernel_rfl) (by kernel_rfl) (fun K hk => ?_) ?_
  refine DE.share (fuel := 0) (L := #[true, true, true, true, true, true, true, true, true, true, true, true, true]) (σ := ⟨45, [(4, .own 44)], [(44, oa 9 1 eS x15)]⟩) ?_ (fun d28 => ?_)
  exact DE.done (by kernel_rfl) hk
  refine DE.share (fuel := 1) (L := #[true, true, true, true, true, true, true, true, true, true, true, true, false]) (σ := ⟨45, [(44, .own 44)], [(44, oa 9 1 eS x15)]⟩) ?_ (fun d27 => ?_)
  exact DE.take (i := 12) (L' := #[true, true, true, true, true, true, true, true, true, true, true, true, true]) rfl (.inr rfl) rfl (by kernel_rfl) (by kernel_rfl) (by kernel_rfl) (EStep.le (EStep.ofN2 tbok (σ' := ⟨45, [(4, .own 44), (44, .own 44)], [(44, oa 9 1 eS x15)]⟩) (by kernel_rfl)) Le.sub0) (by kernel_rfl) d28
  refine DE.share (fuel := 2) (L := #[true, true, true, true, true, true, true, true, true, true, true, false, false]) (σ := ⟨45, [(40, .own 40), (43, vl eS x14)], [(40, oa 9 1 eS x13)]⟩) ?_ (fun d26 => ?_)
  exact DE.all [11] (by kernel_rfl) (by simp) (List.forall_mem_cons.2 ⟨DEs.mk (i := 11) (L' := #[true, true, true, true, true, true, true, true, true, true, true, true, false]) rfl (EStep.le (x_append (f := eS) (t := 28) (ti := ti28) (tj := ti9) (zs := [.string (ByteArray.mk #[])]) (e := 9) (m := 1) (d := 40) (xv := vl eS x14) hx15 tbok rfl rfl rfl rfl (src_e (fun _ => rfl))) Le.sub0) (by kernel_rfl) d27, (fun _ h => absurd h List.not_mem_nil)⟩)
  refine DE.share (fuel := 3) (L := #[true, true, true, true, true, true, true, false, true, true, true, false, false]) (σ := ⟨45, [(37, .own 37), (39, .own 39), (43, vl eS x14)], [(37, oa 9 1 eS x12), (39, oa 9 1 eS ([aS] : List ByteArray))]⟩) ?_ (fun d25 => ?_)
  exact DE.all [7] (by kernel_rfl) (by simp) (List.forall_mem_cons.2 ⟨DEs.mk (i := 7) (L' := #[true, true, true, true, true, true, true, true, true, true, true, false, false]) rfl (EStep.le (x_append (f := eS) (t := 28) (ti := ti28) (tj := ti9) (zs := [.string (ByteArray.mk #[])]) (e := 9) (m := 1) (d := 37) (xv := .own 39) hx13 tbok rfl rfl rfl rfl (x_src_o (e := 9))) Le.sub0) (by kernel_rfl) d26, (fun _ h => absurd h List.not_mem_nil)⟩)
  refine DE.share (fuel := 3) (L := #[true, true, true, true, true, true, true, true, true, true, false, false, false]) (σ := ⟨45, [(40, .own 40), (41, vl eS aList), (42, vi j1)], [(40, oa 9 1 eS x13)]⟩) ?_ (fun d24 => ?_)
  exact DE.all [10] (by kernel_rfl) (by simp) (List.forall_mem_cons.2 ⟨DEs.mk (i := 10) (L' := #[true, true, true, true, true, true, true, true, true, true, true, false, false]) rfl (EStep.le (EStep.ofL (x_slice (m := 1) (f := eS) (ti := ti28) (tj := ti9) (e := 9) hx14 (fun _ => rfl) tbok rfl) (by kernel_rfl)) Le.sub0) (by kernel_rfl) d26, (fun _ h => absurd h List.not_mem_nil)⟩)
  refine DE.share (fuel := 4) (L := #[true, true, true, true, false, true, true, false, true, true, true, false, false]) (σ := ⟨45, [(33, .own 33), (36, vl eS x11), (39, .own 39), (43, vl eS x14)], [(33, oa 9 1 eS ([] : List ByteArray)), (39, oa 9 1 eS ([aS] : List ByteArray))]⟩) ?_ (fun d23 => ?_)
  exact DE.all [4] (by kernel_rfl) (by simp) (List.forall_mem_cons.2 ⟨DEs.mk (i := 4) (L' := #[true, true, true, true, true, true, true, false, true, true, true, false, false]) rfl (EStep.le (x_append (f := eS) (t := 28) (ti := ti28) (tj := ti9) (zs := [.string (ByteArray.mk #[])]) (e := 9) (m := 1) (d := 33) (xv := vl eS x11) hx12 tbok rfl rfl rfl rfl (src_e (fun _ => rfl))) Le.sub0) (by kernel_rfl) d25, (fun _ h => absurd h List.not_mem_nil)⟩)
  refine DE.share (fuel := 4) (L := #[true, true, true, true, true, true, false, false, true, true, true, false, false]) (σ := ⟨45, [(37, .own 37), (38, vs aS), (43, vl eS x14)], [(37, oa 9 1 eS x12)]⟩) ?_ (fun d22 => ?_)
  exact DE.all [6] (by kernel_rfl) (by simp) (List.forall_mem_cons.2 ⟨DEs.mk (i := 6) (L' := #[true, true, true, true, true, true, true, false, true, true, true, false, false]) rfl (EStep.le (EStep.ofN2 tbok (σ' := ⟨45, [(39, .own 39), (37, .own 37), (38, vs aS), (43, vl eS x14)], [(39, oa 9 1 eS ([aS] : List ByteArray)), (37, oa 9 1 eS x12)]⟩) (by kernel_rfl)) Le.sub0) (by kernel_rfl) d25, (fun _ h => absurd h List.not_mem_nil)⟩)
  refine DE.share (fuel := 4) (L := #[true, true, true, true, true, true, true, false, true, true, false, false, false]) (σ := ⟨45, [(37, .own 37), (39, .own 39), (41, vl eS aList), (42, vi j1)], [(37, oa 9 1 eS x12), (39, oa 9 1 eS ([aS] : List ByteArray))]⟩) ?_ (fun d21 => ?_)
  exact DE.all [7, 10] (by kernel_rfl) (by simp) (List.forall_mem_cons.2 ⟨DEs.mk (i := 7) (L' := #[true, true, true, true, true, true, true, true, true, true, false, false, false]) rfl (EStep.le (x_append (f := eS) (t := 28) (ti := ti28) (tj := ti9) (zs := [.string (ByteArray.mk #[])]) (e := 9) (m := 1) (d := 37) (xv := .own 39) hx13 tbok rfl rfl rfl rfl (x_src_o (e := 9))) Le.sub0) (by kernel_rfl) d24, (List.forall_mem_cons.2 ⟨DEs.mk (i := 10) (L' := #[true, true, true, true, true, true, true, false, true, true, true, false, false]) rfl (EStep.le (EStep.ofL (x_slice (m := 1) (f := eS) (ti := ti28) (tj := ti9) (e := 9) hx14 (fun _ => rfl) tbok rfl) (by kernel_rfl)) Le.sub0) (by kernel_rfl) d25, (fun _ h => absurd h List.not_mem_nil)⟩)⟩)
  refine DE.share (fuel := 5) (L := #[false, true, true, true, false, true, true, false, true, true, true, false, false]) (σ := ⟨45, [(36, vl eS x11), (39, .own 39), (43, vl eS x14)], [(39, oa 9 1 eS ([aS] : List ByteArray))]⟩) ?_ (fun d20 => ?_)
  exact DE.all [0] (by kernel_rfl) (by simp) (List.forall_mem_cons.2 ⟨DEs.mk (i := 0) (L' := #[true, true, true, true, false, true, true, false, true, true, true, false, false]) rfl (EStep.ofN2 tbok (σ' := ⟨45, [(33, .own 33), (36, vl eS x11), (39, .own 39), (43, vl eS x14)], [(33, oa 9 1 eS ([] : List ByteArray)), (39, oa 9 1 eS ([aS] : List ByteArray))]⟩) (by kernel_rfl)) (by kernel_rfl) d23, (fun _ h => absurd h List.not_mem_nil)⟩)
  refine DE.share (fuel := 5) (L := #[true, true, true, false, false, true, true, false, true, true, true, false, false]) (σ := ⟨45, [(33, .own 33), (34, vl eS aList), (35, vi j1), (39, .own 39), (43, vl eS x14)], [(33, oa 9 1 eS ([] : List ByteArray)), (39, oa 9 1 eS ([aS] : List ByteArray))]⟩) ?_ (fun d19 => ?_)
  exact DE.all [3] (by kernel_rfl) (by simp) (List.forall_mem_cons.2 ⟨DEs.mk (i := 3) (L' := #[true, true, true, true, false, true, true, false, true, true, true, false, false]) rfl (EStep.le (EStep.ofL (x_slice (m := 1) (f := eS) (ti := ti28) (tj := ti9) (e := 9) hx11 (fun _ => rfl) tbok rfl) (by kernel_rfl)) Le.sub0) (by kernel_rfl) d23, (fun _ h => absurd h List.not_mem_nil)⟩)
  refine DE.share (fuel := 5) (L := #[true, true, true, true, false, true, false, false, true, true, true, false, false]) (σ := ⟨45, [(33, .own 33), (36, vl eS x11), (38, vs aS), (43, vl eS x14)], [(33, oa 9 1 eS ([] : List ByteArray))]⟩) ?_ (fun d18 => ?_)
  exact DE.all [4, 6] (by kernel_rfl) (by simp) (List.forall_mem_cons.2 ⟨DEs.mk (i := 4) (L' := #[true, true, true, true, true, true, false, false, true, true, true, false, false]) rfl (EStep.le (x_append (f := eS) (t := 28) (ti := ti28) (tj := ti9) (zs := [.string (ByteArray.mk #[])]) (e := 9) (m := 1) (d := 33) (xv := vl eS x11) hx12 tbok rfl rfl rfl rfl (src_e (fun _ => rfl))) Le.sub0) (by kernel_rfl) d22, (List.forall_mem_cons.2 ⟨DEs.mk (i := 6) (L' := #[true, true, true, true, false, true, true, false, true, true, true, false, false]) rfl (EStep.le (EStep.ofN2 tbok (σ' := ⟨45, [(39, .own 39), (33, .own 33), (36, vl eS x11), (38, vs aS), (43, vl eS x14)], [(39, oa 9 1 eS ([aS] : List ByteArray)), (33, oa 9 1 eS ([] : List ByteArray))]⟩) (by kernel_rfl)) Le.sub0) (by kernel_rfl) d23, (fun _ h => absurd h List.not_mem_nil)⟩)⟩)
  refine DE.share (fuel := 5) (L := #[true, true, true, true, false, true, true, false, true, true, false, false, false]) (σ := ⟨45, [(33, .own 33), (36, vl eS x11), (39, .own 39), (41, vl eS aList), (42, vi j1)], [(33, oa 9 1 eS ([] : List ByteArray)), (39, oa 9 1 eS ([aS] : List ByteArray))]⟩) ?_ (fun d17 => ?_)
  exact DE.all [4, 10] (by kernel_rfl) (by simp) (List.forall_mem_cons.2 ⟨DEs.mk (i := 4) (L' := #[true, true, true, true, true, true, true, false, true, true, false, false, false]) rfl (EStep.le (x_append (f := eS) (t := 28) (ti := ti28) (tj := ti9) (zs := [.string (ByteArray.mk #[])]) (e := 9) (m := 1) (d := 33) (xv := vl eS x11) hx12 tbok rfl rfl rfl rfl (src_e (fun _ => rfl))) Le.sub0) (by kernel_rfl) d21, (List.forall_mem_cons.2 ⟨DEs.mk (i := 10) (L' := #[true, true, true, true, false, true, true, false, true, true, true, false, false]) rfl (EStep.le (EStep.ofL (x_slice (m := 1) (f := eS) (ti := ti28) (tj := ti9) (e := 9) hx14 (fun _ => rfl) tbok rfl) (by kernel_rfl)) Le.sub0) (by kernel_rfl) d23, (fun _ h => absurd h List.not_mem_nil)⟩)⟩)
  refine DE.share (fuel := 5) (L := #[true, true, true, true, true, true, false, false, true, true, false, false, false]) (σ := ⟨45, [(37, .own 37), (38, vs aS), (41, vl eS aList), (42, vi j1)], [(37, oa 9 1 eS x12)]⟩) ?_ (fun d16 => ?_)
  exact DE.all [6, 10] (by kernel_rfl) (by simp) (List.forall_mem_cons.2 ⟨DEs.mk (i := 6) (L' := #[true, true, true, true, true, true, true, false, true, true, false, false, false]) rfl (EStep.le (EStep.ofN2 tbok (σ' := ⟨45, [(39, .own 39), (37, .own 37), (38, vs aS), (41, vl eS aList), (42, vi j1)], [(39, oa 9 1 eS ([aS] : List ByteArray)), (37, oa 9 1 eS x12)]⟩) (by kernel_rfl)) Le.sub0) (by kernel_rfl) d21, (List.forall_mem_cons.2 ⟨DEs.mk (i := 10) (L' := #[true, true, true, true, true, true, false, false, true, true, true, false, false]) rfl (EStep.le (EStep.ofL (x_slice (m := 1) (f := eS) (ti := ti28) (tj := ti9) (e := 9) hx14 (fun _ => rfl) tbok rfl) (by kernel_rfl)) Le.sub0) (by kernel_rfl) d22, (fun _ h => absurd h List.not_mem_nil)⟩)⟩)
  refine DE.share (fuel := 6) (L := #[false, true, true, false, false, true, true, false, true, true, true, false, false]) (σ := ⟨45, [(34, vl eS aList), (35, vi j1), (39, .own 39), (43, vl eS x14)], [(39, oa 9 1 eS ([aS] : List ByteArray))]⟩) ?_ (fun d15 => ?_)
  exact DE.all [0, 3] (by kernel_rfl) (by simp) (List.forall_mem_cons.2 ⟨DEs.mk (i := 0) (L' := #[true, true, true, false, false, true, true, false, true, true, true, false, false]) rfl (EStep.ofN2 tbok (σ' := ⟨45, [(33, .own 33), (34, vl eS aList), (35, vi j1), (39, .own 39), (43, vl eS x14)], [(33, oa 9 1 eS ([] : List ByteArray)), (39, oa 9 1 eS ([aS] : List ByteArray))]⟩) (by kernel_rfl)) (by kernel_rfl) d19, (List.forall_mem_cons.2 ⟨DEs.mk (i := 3) (L' := #[false, true, true, true, false, true, true, false, true, true, true, false, false]) rfl (EStep.le (EStep.ofL (x_slice (m := 1) (f := eS) (ti := ti28) (tj := ti9) (e := 9) hx11 (fun _ => rfl) tbok rfl) (by kernel_rfl)) Le.sub0) (by kernel_rfl) d20, (fun _ h => absurd h List.not_mem_nil)⟩)⟩)
  refine DE.share (fuel := 6) (L := #[false, true, true, true, false, true, false, false, true, true, true, false, false]) (σ := ⟨45, [(36, vl eS x11), (38, vs aS), (43, vl eS x14)], []⟩) ?_ (fun d14 => ?_)
  exact DE.all [0, 6] (by kernel_rfl) (by simp) (List.forall_mem_cons.2 ⟨DEs.mk (i := 0) (L' := #[true, true, true, true, false, true, false, false, true, true, true, false, false]) rfl (EStep.ofN2 tbok (σ' := ⟨45, [(33, .own 33), (36, vl eS x11), (38, vs aS), (43, vl eS x14)], [(33, oa 9 1 eS ([] : List ByteArray))]⟩) (by kernel_rfl)) (by kernel_rfl) d18, (List.forall_mem_cons.2 ⟨DEs.mk (i := 6) (L' := #[false, true, true, true, false, true, true, false, true, true, true, false, false]) rfl (EStep.le (EStep.ofN2 tbok (σ' := ⟨45, [(39, .own 39), (36, vl eS x11), (38, vs aS), (43, vl eS x14)], [(39, oa 9 1 eS ([aS] : List ByteArray))]⟩) (by kernel_rfl)) Le.sub0) (by kernel_rfl) d20, (fun _ h => absurd h List.not_mem_nil)⟩)⟩)
  refine DE.share (fuel := 6) (L := #[false, true, true, true, false, true, true, false, true, true, false, false, false]) (σ := ⟨45, [(36, vl eS x11), (39, .own 39), (41, vl eS aList), (42, vi j1)], [(39, oa 9 1 eS ([aS] : List ByteArray))]⟩) ?_ (fun d13 => ?_)
  exact DE.all [0, 10] (by kernel_rfl) (by simp) (List.forall_mem_cons.2 ⟨DEs.mk (i := 0) (L' := #[true, true, true, true, false, true, true, false, true, true, false, false, false]) rfl (EStep.ofN2 tbok (σ' := ⟨45, [(33, .own 33), (36, vl eS x11), (39, .own 39), (41, vl eS aList), (42, vi j1)], [(33, oa 9 1 eS ([] : List ByteArray)), (39, oa 9 1 eS ([aS] : List ByteArray))]⟩) (by kernel_rfl)) (by kernel_rfl) d17, (List.forall_mem_cons.2 ⟨DEs.mk (i := 10) (L' := #[false, true, true, true, false, true, true, false, true, true, true, false, false]) rfl (EStep.le (EStep.ofL (x_slice (m := 1) (f := eS) (ti := ti28) (tj := ti9) (e := 9) hx14 (fun _ => rfl) tbok rfl) (by kernel_rfl)) Le.sub0) (by kernel_rfl) d20, (fun _ h => absurd h List.not_mem_nil)⟩)⟩)
  refine DE.share (fuel := 6) (L := #[true, true, true, false, false, true, false, false, true, true, true, false, false]) (σ := ⟨45, [(33, .own 33), (34, vl eS aList), (35, vi j1), (38, vs aS), (43, vl eS x14)], [(33, oa 9 1 eS ([] : List ByteArray))]⟩) ?_ (fun d12 => ?_)
  exact DE.all [3, 6] (by kernel_rfl) (by simp) (List.forall_mem_cons.2 ⟨DEs.mk (i := 3) (L' := #[true, true, true, true, false, true, false, false, true, true, true, false, false]) rfl (EStep.le (EStep.ofL (x_slice (m := 1) (f := eS) (ti := ti28) (tj := ti9) (e := 9) hx11 (fun _ => rfl) tbok rfl) (by kernel_rfl)) Le.sub0) (by kernel_rfl) d18, (List.forall_mem_cons.2 ⟨DEs.mk (i := 6) (L' := #[true, true, true, false, false, true, true, false, true, true, true, false, false]) rfl (EStep.le (EStep.ofN2 tbok (σ' := ⟨45, [(39, .own 39), (33, .own 33), (34, vl eS aList), (35, vi j1), (38, vs aS), (43, vl eS x14)], [(39, oa 9 1 eS ([aS] : List ByteArray)), (33, oa 9 1 eS ([] : List ByteArray))]⟩) (by kernel_rfl)) Le.sub0) (by kernel_rfl) d19, (fun _ h => absurd h List.not_mem_nil)⟩)⟩)
  refine DE.share (fuel := 6) (L := #[true, true, true, false, false, true, true, false, true, true, false, false, false]) (σ := ⟨45, [(33, .own 33), (34, vl eS aList), (35, vi j1), (39, .own 39), (41, vl eS aList), (42, vi j1)], [(33, oa 9 1 eS ([] : List ByteArray)), (39, oa 9 1 eS ([aS] : List ByteArray))]⟩) ?_ (fun d11 => ?_)
  exact DE.all [3, 10] (by kernel_rfl) (by simp) (List.forall_mem_cons.2 ⟨DEs.mk (i := 3) (L' := #[true, true, true, true, false, true, true, false, true, true, false, false, false]) rfl (EStep.le (EStep.ofL (x_slice (m := 1) (f := eS) (ti := ti28) (tj := ti9) (e := 9) hx11 (fun _ => rfl) tbok rfl) (by kernel_rfl)) Le.sub0) (by kernel_rfl) d17, (List.forall_mem_cons.2 ⟨DEs.mk (i := 10) (L' := #[true, true, true, false, false, true, true, false, true, true, true, false, false]) rfl (EStep.le (EStep.ofL (x_slice (m := 1) (f := eS) (ti := ti28) (tj := ti9) (e := 9) hx14 (fun _ => rfl) tbok rfl) (by kernel_rfl)) Le.sub0) (by kernel_rfl) d19, (fun _ h => absurd h List.not_mem_nil)⟩)⟩)
  refine DE.share (fuel := 6) (L := #[true, true, true, true, false, true, false, false, true, true, false, false, false]) (σ := ⟨45, [(33, .own 33), (36, vl eS x11), (38, vs aS), (41, vl eS aList), (42, vi j1)], [(33, oa 9 1 eS ([] : List ByteArray))]⟩) ?_ (fun d10 => ?_)
  exact DE.all [4, 6, 10] (by kernel_rfl) (by simp) (List.forall_mem_cons.2 ⟨DEs.mk (i := 4) (L' := #[true, true, true, true, true, true, false, false, true, true, false, false, false]) rfl (EStep.le (x_append (f := eS) (t := 28) (ti := ti28) (tj := ti9) (zs := [.string (ByteArray.mk #[])]) (e := 9) (m := 1) (d := 33) (xv := vl eS x11) hx12 tbok rfl rfl rfl rfl (src_e (fun _ => rfl))) Le.sub0) (by kernel_rfl) d16, (List.forall_mem_cons.2 ⟨DEs.mk (i := 6) (L' := #[true, true, true, true, false, true, true, false, true, true, false, false, false]) rfl (EStep.le (EStep.ofN2 tbok (σ' := ⟨45, [(39, .own 39), (33, .own 33), (36, vl eS x11), (38, vs aS), (41, vl eS aList), (42, vi j1)], [(39, oa 9 1 eS ([aS] : List ByteArray)), (33, oa 9 1 eS ([] : List ByteArray))]⟩) (by kernel_rfl)) Le.sub0) (by kernel_rfl) d17, (List.forall_mem_cons.2 ⟨DEs.mk (i := 10) (L' := #[true, true, true, true, false, true, false, false, true, true, true, false, false]) rfl (EStep.le (EStep.ofL (x_slice (m := 1) (f := eS) (ti := ti28) (tj := ti9) (e := 9) hx14 (fun _ => rfl) tbok rfl) (by kernel_rfl)) Le.sub0) (by kernel_rfl) d18, (fun _ h => absurd h List.not_mem_nil)⟩)⟩)⟩)
  refine DE.share (fuel := 7) (L := #[false, true, true, false, false, true, false, false, true, true, true, false, false]) (σ := ⟨45, [(34, vl eS aList), (35, vi j1), (38, vs aS), (43, vl eS x14)], []⟩) ?_ (fun d9 => ?_)
  exact DE.all [0, 3, 6] (by kernel_rfl) (by simp) (List.forall_mem_cons.2 ⟨DEs.mk (i := 0) (L' := #[true, true, true, false, false, true, false, false, true, true, true, false, false]) rfl (EStep.ofN2 tbok (σ' := ⟨45, [(33, .own 33), (34, vl eS aList), (35, vi j1), (38, vs aS), (43, vl eS x14)], [(33, oa 9 1 eS ([] : List ByteArray))]⟩) (by kernel_rfl)) (by kernel_rfl) d12, (List.forall_mem_cons.2 ⟨DEs.mk (i := 3) (L' := #[false, true, true, true, false, true, false, false, true, true, true, false, false]) rfl (EStep.le (EStep.ofL (x_slice (m := 1) (f := eS) (ti := ti28) (tj := ti9) (e := 9) hx11 (fun _ => rfl) tbok rfl) (by kernel_rfl)) Le.sub0) (by kernel_rfl) d14, (List.forall_mem_cons.2 ⟨DEs.mk (i := 6) (L' := #[false, true, true, false, false, true, true, false, true, true, true, false, false]) rfl (EStep.le (EStep.ofN2 tbok (σ' := ⟨45, [(39, .own 39), (34, vl eS aList), (35, vi j1), (38, vs aS), (43, vl eS x14)], [(39, oa 9 1 eS ([aS] : List ByteArray))]⟩) (by kernel_rfl)) Le.sub0) (by kernel_rfl) d15, (fun _ h => absurd h List.not_mem_nil)⟩)⟩)⟩)
  refine DE.share (fuel := 7) (L := #[false, true, true, false, false, true, true, false, true, true, false, false, false]) (σ := ⟨45, [(34, vl eS aList), (35, vi j1), (39, .own 39), (41, vl eS aList), (42, vi j1)], [(39, oa 9 1 eS ([aS] : List ByteArray))]⟩) ?_ (fun d8 => ?_)
  exact DE.all [0, 3, 10] (by kernel_rfl) (by simp) (List.forall_mem_cons.2 ⟨DEs.mk (i := 0) (L' := #[true, true, true, false, false, true, true, false, true, true, false, false, false]) rfl (EStep.ofN2 tbok (σ' := ⟨45, [(33, .own 33), (34, vl eS aList), (35, vi j1), (39, .own 39), (41, vl eS aList), (42, vi j1)], [(33, oa 9 1 eS ([] : List ByteArray)), (39, oa 9 1 eS ([aS] : List ByteArray))]⟩) (by kernel_rfl)) (by kernel_rfl) d11, (List.forall_mem_cons.2 ⟨DEs.mk (i := 3) (L' := #[false, true, true, true, false, true, true, false, true, true, false, false, false]) rfl (EStep.le (EStep.ofL (x_slice (m := 1) (f := eS) (ti := ti28) (tj := ti9) (e := 9) hx11 (fun _ => rfl) tbok rfl) (by kernel_rfl)) Le.sub0) (by kernel_rfl) d13, (List.forall_mem_cons.2 ⟨DEs.mk (i := 10) (L' := #[false, true, true, false, false, true, true, false, true, true, true, false, false]) rfl (EStep.le (EStep.ofL (x_slice (m := 1) (f := eS) (ti := ti28) (tj := ti9) (e := 9) hx14 (fun _ => rfl) tbok rfl) (by kernel_rfl)) Le.sub0) (by kernel_rfl) d15, (fun _ h => absurd h List.not_mem_nil)⟩)⟩)⟩)
  refine DE.share (fuel := 7) (L := #[false, true, true, true, false, true, false, false, true, true, false, false, false]) (σ := ⟨45, [(36, vl eS x11), (38, vs aS), (41, vl eS aList), (42, vi j1)], []⟩) ?_ (fun d7 => ?_)
  exact DE.all [0, 6, 10] (by kernel_rfl) (by simp) (List.forall_mem_cons.2 ⟨DEs.mk (i := 0) (L' := #[true, true, true, true, false, true, false, false, true, true, false, false, false]) rfl (EStep.ofN2 tbok (σ' := ⟨45, [(33, .own 33), (36, vl eS x11), (38, vs aS), (41, vl eS aList), (42, vi j1)], [(33, oa 9 1 eS ([] : List ByteArray))]⟩) (by kernel_rfl)) (by kernel_rfl) d10, (List.forall_mem_cons.2 ⟨DEs.mk (i := 6) (L' := #[false, true, true, true, false, true, true, false, true, true, false, false, false]) rfl (EStep.le (EStep.ofN2 tbok (σ' := ⟨45, [(39, .own 39), (36, vl eS x11), (38, vs aS), (41, vl eS aList), (42, vi j1)], [(39, oa 9 1 eS ([aS] : List ByteArray))]⟩) (by kernel_rfl)) Le.sub0) (by kernel_rfl) d13, (List.forall_mem_cons.2 ⟨DEs.mk (i := 10) (L' := #[false, true, true, true, false, true, false, false, true, true, true, false, false]) rfl (EStep.le (EStep.ofL (x_slice (m := 1) (f := eS) (ti := ti28) (tj := ti9) (e := 9) hx14 (fun _ => rfl) tbok rfl) (by kernel_rfl)) Le.sub0) (by kernel_rfl) d14, (fun _ h => absurd h List.not_mem_nil)⟩)⟩)⟩)
  refine DE.share (fuel := 7) (L := #[true, true, true, false, false, true, false, false, true, true, false, false, false]) (σ := ⟨45, [(33, .own 33), (34, vl eS aList), (35, vi j1), (38, vs aS), (41, vl eS aList), (42, vi j1)], [(33, oa 9 1 eS ([] : List ByteArray))]⟩) ?_ (fun d6 => ?_)
  exact DE.all [3, 6, 10] (by kernel_rfl) (by simp) (List.forall_mem_cons.2 ⟨DEs.mk (i := 3) (L' := #[true, true, true, true, false, true, false, false, true, true, false, false, false]) rfl (EStep.le (EStep.ofL (x_slice (m := 1) (f := eS) (ti := ti28) (tj := ti9) (e := 9) hx11 (fun _ => rfl) tbok rfl) (by kernel_rfl)) Le.sub0) (by kernel_rfl) d10, (List.forall_mem_cons.2 ⟨DEs.mk (i := 6) (L' := #[true, true, true, false, false, true, true, false, true, true, false, false, false]) rfl (EStep.le (EStep.ofN2 tbok (σ' := ⟨45, [(39, .own 39), (33, .own 33), (34, vl eS aList), (35, vi j1), (38, vs aS), (41, vl eS aList), (42, vi j1)], [(39, oa 9 1 eS ([aS] : List ByteArray)), (33, oa 9 1 eS ([] : List ByteArray))]⟩) (by kernel_rfl)) Le.sub0) (by kernel_rfl) d11, (List.forall_mem_cons.2 ⟨DEs.mk (i := 10) (L' := #[true, true, true, false, false, true, false, false, true, true, true, false, false]) rfl (EStep.le (EStep.ofL (x_slice (m := 1) (f := eS) (ti := ti28) (tj := ti9) (e := 9) hx14 (fun _ => rfl) tbok rfl) (by kernel_rfl)) Le.sub0) (by kernel_rfl) d12, (fun _ h => absurd h List.not_mem_nil)⟩)⟩)⟩)
  refine DE.share (fuel := 8) (L := #[false, true, true, false, false, true, false, false, true, true, false, false, false]) (σ := ⟨45, [(34, vl eS aList), (35, vi j1), (38, vs aS), (41, vl eS aList), (42, vi j1)], []⟩) ?_ (fun d5 => ?_)
  exact DE.all [0, 3, 6, 10] (by kernel_rfl) (by simp) (List.forall_mem_cons.2 ⟨DEs.mk (i := 0) (L' := #[true, true, true, false, false, true, false, false, true, true, false, false, false]) rfl (EStep.ofN2 tbok (σ' := ⟨45, [(33, .own 33), (34, vl eS aList), (35, vi j1), (38, vs aS), (41, vl eS aList), (42, vi j1)], [(33, oa 9 1 eS ([] : List ByteArray))]⟩) (by kernel_rfl)) (by kernel_rfl) d6, (List.forall_mem_cons.2 ⟨DEs.mk (i := 3) (L' := #[false, true, true, true, false, true, false, false, true, true, false, false, false]) rfl (EStep.le (EStep.ofL (x_slice (m := 1) (f := eS) (ti := ti28) (tj := ti9) (e := 9) hx11 (fun _ => rfl) tbok rfl) (by kernel_rfl)) Le.sub0) (by kernel_rfl) d7, (List.forall_mem_cons.2 ⟨DEs.mk (i := 6) (L' := #[false, true, true, false, false, true, true, false, true, true, false, false, false]) rfl (EStep.le (EStep.ofN2 tbok (σ' := ⟨45, [(39, .own 39), (34, vl eS aList), (35, vi j1), (38, vs aS), (41, vl eS aList), (42, vi j1)], [(39, oa 9 1 eS ([aS] : List ByteArray))]⟩) (by kernel_rfl)) Le.sub0) (by kernel_rfl) d8, (List.forall_mem_cons.2 ⟨DEs.mk (i := 10) (L' := #[false, true, true, false, false, true, false, false, true, true, true, false, false]) rfl (EStep.le (EStep.ofL (x_slice (m := 1) (f := eS) (ti := ti28) (tj := ti9) (e := 9) hx14 (fun _ => rfl) tbok rfl) (by kernel_rfl)) Le.sub0) (by kernel_rfl) d9, (fun _ h => absurd h List.not_mem_nil)⟩)⟩)⟩)⟩)
  refine DE.share (fuel := 9) (L := #[false, true, true, false, false, true, false, false, true, false, false, false, false]) (σ := ⟨45, [(5, vi j1), (34, vl eS aList), (35, vi j1), (38, vs aS), (41, vl eS aList)], []⟩) ?_ (fun d4 => ?_)
  exact DE.take (i := 9) (L' := #[false, true, true, false, false, true, false, false, true, true, false, false, false]) rfl (.inl rfl) rfl (by kernel_rfl) (by kernel_rfl) (by kernel_rfl) (EStep.le (EStep.ofN2 tbok (σ' := ⟨45, [(42, vi j1), (5, vi j1), (34, vl eS aList), (35, vi j1), (38, vs aS), (41, vl eS aList)], []⟩) (by kernel_rfl)) Le.sub0) (by kernel_rfl) d5
  refine DE.share (fuel := 10) (L := #[false, true, true, false, false, true, false, false, false, false, false, false, false]) (σ := ⟨45, [(0, vl eS aList), (5, vi j1), (34, vl eS aList), (35, vi j1), (38, vs aS)], []⟩) ?_ (fun d3 => ?_)
  exact DE.take (i := 8) (L' := #[false, true, true, false, false, true, false, false, true, false, false, false, false]) rfl (.inl rfl) rfl (by kernel_rfl) (by kernel_rfl) (by kernel_rfl) (EStep.le (EStep.ofN2 tbok (σ' := ⟨45, [(41, vl eS aList), (0, vl eS aList), (5, vi j1), (34, vl eS aList), (35, vi j1), (38, vs aS)], []⟩) (by kernel_rfl)) Le.sub0) (by kernel_rfl) d4
  refine DE.share (fuel := 11) (L := #[false, true, true, false, false, false, false, false, false, false, false, false, false]) (σ := ⟨45, [(0, vl eS aList), (1, vs aS), (5, vi j1), (34, vl eS aList), (35, vi j1)], []⟩) ?_ (fun d2 => ?_)
  exact DE.take (i := 5) (L' := #[false, true, true, false, false, true, false, false, false, false, false, false, false]) rfl (.inl rfl) rfl (by kernel_rfl) (by kernel_rfl) (by kernel_rfl) (EStep.le (EStep.ofN2 tbok (σ' := ⟨45, [(38, vs aS), (0, vl eS aList), (1, vs aS), (5, vi j1), (34, vl eS aList), (35, vi j1)], []⟩) (by kernel_rfl)) Le.sub0) (by kernel_rfl) d3
  refine DE.share (fuel := 12) (L := #[false, true, false, false, false, false, false, false, false, false, false, false, false]) (σ := ⟨45, [(0, vl eS aList), (1, vs aS), (5, vi j1), (34, vl eS aList)], []⟩) ?_ (fun d1 => ?_)
  exact DE.take (i := 2) (L' := #[false, true, true, false, false, false, false, false, false, false, false, false, false]) rfl (.inl rfl) rfl (by kernel_rfl) (by kernel_rfl) (by kernel_rfl) (EStep.le (EStep.ofN2 tbok (σ' := ⟨45, [(35, vi j1), (0, vl eS aList), (1, vs aS), (5, vi j1), (34, vl eS aList)], []⟩) (by kernel_rfl)) Le.sub0) (by kernel_rfl) d2
  exact DE.take (i := 1) (L' := #[false, true, false, false, false, false, false, false, false, false, false, false, false]) rfl (.inl rfl) rfl (by kernel_rfl) (by kernel_rfl) (by kernel_rfl) (EStep.le (EStep.ofN2 tbok (σ' := ⟨45, [(34, vl eS aList), (0, vl eS aList), (1, vs aS), (5, vi j1), (31, vb j9)], []⟩) (by kernel_rfl)) Le.sub0) (by kernel_rfl) d1
  refine nx_n ?_
  refine swp_le (Le.frz' (d := 44) (e := 9) (m := 1) (n := x15.length) (es := x15.map eS) (by kernel_rfl) (by kernel_rfl)) ?_
  refine swp_ret ?_
  obtain rfl := inj h
  exact q_fr (f1 ft)
theorem ents68 : Ents Tryz.prog 68 := ents_of Tryz.func68 (by kernel_rfl) rfl
noncomputable def spec_ExactAnswers (aList : (List Candidate)) (aText : ByteArray) (aSites : (List Site)) (aDescriptions : (List Description)) : Option ((List ByteArray) × Int) :=
  ((spec_l30Code aList aText aSites aDescriptions).bind fun x1 => (bif (x1 != 0) then some (([] : List ByteArray), x1) else (((forS (aList.length : Int) (fun (i4 : Int) (s4 : (List ByteArray)) => ((at' aList i4).bind fun x8 => ((spec_l30Answer x8 aText aSites aDescriptions).bind fun x9 => (bif ((x9.Distance == 0) && (x9.Satisfied == (aDescriptions.length : Int))) then ((spec_l08Insert s4 x9.Code).bind fun x10 => some x10) else some s4)))) (fun (s4 : (List ByteArray)) => s4) 0 ([] : List ByteArray))).bind fun (j2 : (List ByteArray)) => some (j2, 0))))
theorem spec_ExactAnswers_run (aList : (List Candidate)) (aText : ByteArray) (aSites : (List Site)) (aDescriptions : (List Description)) (r : (List ByteArray) × Int) (h : spec_ExactAnswers aList aText aSites aDescriptions = some r) : SCall Tryz.prog 24 [.v (vl eCandidate aList), .v (vs aText), .v (vl eSite aSites), .v (vl eDescription aDescriptions)] ⟨[.v (vl eS r.1), .v (vi r.2)], [], true⟩ := by
  refine scall_in Tryz.func24 rfl [(.tmp 8), (.tmp 9)] rfl (fun r => ⟨[.v (vl eS r.1), .v (vi r.2)], [], true⟩) (r := r) ?_
  unfold spec_ExactAnswers at h
  refine srk tbok ⟨52, [(0, vl eCandidate aList), (1, vs aText), (2, vl eSite aSites), (3, vl eDescription aDescriptions)], []⟩ ?_
  refine sr ?_
  refine SRun.ck tbok 4 ⟨52, [(0, vl eCandidate aList), (1, vs aText), (2, vl eSite aSites), (3, vl eDescription aDescriptions), (14, vl eCandidate aList), (15, vs aText), (16, vl eSite aSites), (17, vl eDescription aDescriptions)], []⟩ ?_
  obtain ⟨x1, hx1, h⟩ := bind_some h
  refine SRun.ls (xc ents66 (spec_l30Code_run aList aText aSites aDescriptions _ hx1)) ?_
  refine ckn tbok 1 ⟨52, [(0, vl eCandidate aList), (1, vs aText), (2, vl eSite aSites), (3, vl eDescription aDescriptions), (10, vi x1)], []⟩ ?_
  refine swp_seq ?_
  refine srk tbok ⟨52, [(0, vl eCandidate aList), (1, vs aText), (2, vl eSite aSites), (3, vl eDescription aDescriptions), (10, vi x1), (20, vb (x1 != 0))], []⟩ ?_
  refine swp_cd h (fun h => ?_) fun h => ?_
  refine srk tbok ⟨52, [(8, .own 8), (9, vi x1)], [(8, oa 9 1 eS ([] : List ByteArray))]⟩ ?_
  refine swp_le (Le.frz' (d := 8) (e := 9) (m := 1) (n := ([] : List ByteArray).length) (es := ([] : List ByteArray).map eS) (by kernel_rfl) (by kernel_rfl)) ?_
  refine swp_ret ?_
  obtain rfl := inj h
  exact nx_r (q_fr (f2 ft ft))
  refine swp_skip ?_
  refine nx_n ?_
  refine srk tbok ⟨52, [(0, vl eCandidate aList), (1, vs aText), (2, vl eSite aSites), (3, vl eDescription aDescriptions), (11, .own 22)], [(22, oa 9 1 eS ([] : List ByteArray))]⟩ ?_
  refine swp_seq ?_
  refine srk tbok ⟨52, [(0, vl eCandidate aList), (1, vs aText), (2, vl eSite aSites), (3, vl eDescription aDescriptions), (11, .own 22), (12, vi 0)], [(22, oa 9 1 eS ([] : List ByteArray))]⟩ ?_
  refine swp_seqJ h (fun j2 => ⟨52, [(11, vl eS j2)], []⟩) (fun v3 h => ?_) (fun j2 h => ?_)
  refine swp_blk (a := v3) ?_
  refine swp_le (Le.frz' (d := 22) (e := 9) (m := 1) (n := ([] : List ByteArray).length) (es := ([] : List ByteArray).map eS) (by kernel_rfl) (by kernel_rfl)) ?_
  refine swp_lpL (r := v3) (s := (0, ([] : List ByteArray))) _ (fun s4 => ⟨52, [(0, vl eCandidate aList), (1, vs aText), (2, vl eSite aSites), (3, vl eDescription aDescriptions), (11, vl eS s4.2), (12, vi s4.1)], []⟩) _ (Le.sub0) h (fun s4 v5 h => ?_)
  refine swp_seq ?_
  refine srk tbok ⟨52, [(0, vl eCandidate aList), (1, vs aText), (2, vl eSite aSites), (3, vl eDescription aDescriptions), (11, vl eS s4.2), (12, vi s4.1), (26, vb (decide (s4.1 < (aList.length : Int))))], []⟩ ?_
  refine swp_cd h (fun h => ?_) fun h => ?_
  refine swp_skip ?_
  refine nx_n ?_
  refine swp_seq ?_
  refine swp_seqJ h (fun j6 => ⟨52, [(0, vl eCandidate aList), (1, vs aText), (2, vl eSite aSites), (3, vl eDescription aDescriptions), (11, vl eS j6), (12, vi s4.1)], []⟩) (fun v7 h => ?_) (fun j6 h => ?_)
  refine swp_blk (a := v7) ?_
  refine sr ?_
  refine SRun.ck tbok 2 ⟨52, [(0, vl eCandidate aList), (1, vs aText), (2, vl eSite aSites), (3, vl eDescription aDescriptions), (11, vl eS s4.2), (12, vi s4.1), (29, vl eCandidate aList), (30, vi s4.1)], []⟩ ?_
  obtain ⟨x8, hx8, h⟩ := bind_some h
  refine SRun.ls (x_index (L := aList) (f := eCandidate) (ti := ti31) (tj := ti87) (e := 87) (k := .i64) tbok rfl hx8) ?_
  refine SRun.ck tbok 4 ⟨52, [(0, vl eCandidate aList), (1, vs aText), (2, vl eSite aSites), (3, vl eDescription aDescriptions), (11, vl eS s4.2), (12, vi s4.1), (32, .agg (tc eCandidate x8)), (33, vs aText), (34, vl eSite aSites), (35, vl eDescription aDescriptions)], []⟩ ?_
  obtain ⟨x9, hx9, h⟩ := bind_some h
  refine SRun.ls (xc ents67 (spec_l30Answer_run x8 aText aSites aDescriptions _ hx9)) ?_
  refine ckn tbok 2 ⟨52, [(0, vl eCandidate aList), (1, vs aText), (2, vl eSite aSites), (3, vl eDescription aDescriptions), (11, vl eS s4.2), (12, vi s4.1), (13, .ref 13 0)], [(13, .box (tc eAnswer x9))]⟩ ?_
  refine swp_seq ?_
  refine swp_regP ⟨52, [(0, vl eCandidate aList), (1, vs aText), (2, vl eSite aSites), (3, vl eDescription aDescriptions), (11, vl eS s4.2), (12, vi s4.1), (13, .ref 13 0), (46, vb ((x9.Distance == 0) && (x9.Satisfied == (aDescriptions.length : Int))))], [(13, .box (tc eAnswer x9))]⟩ ?_ ?_
  refine SRun.ck tbok 4 ⟨52, [(0, vl eCandidate aList), (1, vs aText), (2, vl eSite aSites), (3, vl eDescription aDescriptions), (11, vl eS s4.2), (12, vi s4.1), (13, .ref 13 0), (40, vb (x9.Distance == 0))], [(13, .box (tc eAnswer x9))]⟩ ?_
  generalize (x9.Distance == 0) = bb
  cases bb
  refine SRun.ck tbok 6 ⟨52, [(0, vl eCandidate aList), (1, vs aText), (2, vl eSite aSites), (3, vl eDescription aDescriptions), (11, vl eS s4.2), (12, vi s4.1), (13, .ref 13 0), (46, vb false)], [(13, .box (tc eAnswer x9))]⟩ ?_
  exact SRun.nil (Le.sub0)
  refine SRun.ck tbok 6 ⟨52, [(0, vl eCandidate aList), (1, vs aText), (2, vl eSite aSites), (3, vl eDescription aDescriptions), (11, vl eS s4.2), (12, vi s4.1), (13, .ref 13 0), (46, vb (x9.Satisfied == (aDescriptions.length : Int)))], [(13, .box (tc eAnswer x9))]⟩ ?_
  exact SRun.nil (Le.sub0)
  refine swp_cd h (fun h => ?_) fun h => ?_
  refine swp_reg ?_
  refine SRun.ck tbok 3 ⟨52, [(0, vl eCandidate aList), (1, vs aText), (2, vl eSite aSites), (3, vl eDescription aDescriptions), (12, vi s4.1), (47, vl eS s4.2), (49, vs x9.Code)], []⟩ ?_
  obtain ⟨x10, hx10, h⟩ := bind_some h
  refine SRun.ls (xc ents68 (spec_l08Insert_run s4.2 x9.Code _ hx10)) ?_
  refine SRun.ck tbok 1 ⟨52, [(0, vl eCandidate aList), (1, vs aText), (2, vl eSite aSites), (3, vl eDescription aDescriptions), (11, vl eS x10), (12, vi s4.1)], []⟩ ?_
  refine SRun.nil ?_
  obtain rfl := inj h
  exact q_bn (q_j (Le.sub0))
  refine swp_skip ?_
  obtain rfl := inj h
  exact q_bn (q_j (Le.sub0))
  refine swp_reg ?_
  refine SRun.ck tbok 3 ⟨52, [(0, vl eCandidate aList), (1, vs aText), (2, vl eSite aSites), (3, vl eDescription aDescriptions), (11, vl eS j6), (12, vi (w64 (s4.1 + 1)))], []⟩ ?_
  refine SRun.nil ?_
  obtain rfl := inj h
  exact q_l (Le.sub0)
  refine swp_exit ?_
  obtain rfl := inj h
  exact nx_e (q_re (q_bh (q_j (Le.sub0))))
  refine srk tbok ⟨52, [(8, vl eS j2), (9, vi 0)], []⟩ ?_
  refine swp_ret ?_
  obtain rfl := inj h
  exact q_fr (f2 ft ft)
theorem ents24 : Ents Tryz.prog 24 := ents_of Tryz.func24 (by kernel_rfl) rfl
noncomputable def spec_DrawAnswerFor (aCode : (List Int)) : Option ((List Candidate) × ByteArray × ByteArray × (List Site) × (List Description)) :=
  ((spec_l01From aCode).bind fun x1 => ((spec_l30Draw aCode).bind fun x2 => ((spec_l01Next x1 4).bind fun x3 => ((at' ([(ByteArray.mk #[111, 110, 101]), (ByteArray.mk #[116, 119, 111]), (ByteArray.mk #[116, 104, 114, 101, 101]), (ByteArray.mk #[110, 111, 110, 101])] : List ByteArray) x3.1).bind fun x4 => some (x2.1, x4, x2.2.1, x2.2.2.1, x2.2.2.2)))))
theorem spec_DrawAnswerFor_run (aCode : (List Int)) (r : (List Candidate) × ByteArray × ByteArray × (List Site) × (List Description)) (h : spec_DrawAnswerFor aCode = some r) : SCall Tryz.prog 40 [.v (vl (eI .u8) aCode)] ⟨[.own 87 4 r.1.length (r.1.map eCandidate), .v (vs r.2.1), .v (vs r.2.2.1), .v (vl eSite r.2.2.2.1), .v (vl eDescription r.2.2.2.2)], [], true⟩ := by
  refine scall_in Tryz.func40 rfl [(.tmp 2), (.tmp 3), (.tmp 4), (.tmp 5), (.tmp 6)] rfl (fun r => ⟨[.own 87 4 r.1.length (r.1.map eCandidate), .v (vs r.2.1), .v (vs r.2.2.1), .v (vl eSite r.2.2.2.1), .v (vl eDescription r.2.2.2.2)], [], true⟩) (r := r) ?_
  unfold spec_DrawAnswerFor at h
  refine srk tbok ⟨32, [(0, vl (eI .u8) aCode)], []⟩ ?_
  refine sr ?_
  refine SRun.ck tbok 1 ⟨32, [(0, vl (eI .u8) aCode), (13, vl (eI .u8) aCode)], []⟩ ?_
  obtain ⟨x1, hx1, h⟩ := bind_some h
  refine SRun.ls (xc ents71 (spec_l01From_run aCode _ hx1)) ?_
  refine ckn tbok 1 ⟨32, [(0, vl (eI .u8) aCode), (7, .ref 14 0)], [(14, .box (tc el01Source x1))]⟩ ?_
  refine sr ?_
  refine SRun.ck tbok 1 ⟨32, [(7, .ref 14 0), (16, vl (eI .u8) aCode)], [(14, .box (tc el01Source x1))]⟩ ?_
  obtain ⟨x2, hx2, h⟩ := bind_some h
  refine SRun.ls (xc ents78 (spec_l30Draw_run aCode _ hx2)) ?_
  refine ckn tbok 9 ⟨32, [(7, .ref 14 0), (8, .own 17), (9, vs x2.2.1), (10, vl eSite x2.2.2.1), (11, vl eDescription x2.2.2.2)], [(14, .box (tc el01Source x1)), (17, oa 87 4 eCandidate x2.1)]⟩ ?_
  refine sr ?_
  refine SRun.ck tbok 2 ⟨32, [(8, .own 17), (9, vs x2.2.1), (10, vl eSite x2.2.2.1), (11, vl eDescription x2.2.2.2), (22, .own 22), (23, .ref 14 0)], [(14, .box (tc el01Source x1)), (17, oa 87 4 eCandidate x2.1), (22, oa 9 1 eS ([(ByteArray.mk #[111, 110, 101]), (ByteArray.mk #[116, 119, 111]), (ByteArray.mk #[116, 104, 114, 101, 101]), (ByteArray.mk #[110, 111, 110, 101])] : List ByteArray))]⟩ ?_
  obtain ⟨x3, hx3, h⟩ := bind_some h
  refine SRun.estep (xe ents73 (spec_l01Next_run x1 4 _ hx3)) ?_
  obtain ⟨x4, hx4, h⟩ := bind_some h
  refine SRun.ls (x_index_own (d := 22) (L := ([(ByteArray.mk #[111, 110, 101]), (ByteArray.mk #[116, 119, 111]), (ByteArray.mk #[116, 104, 114, 101, 101]), (ByteArray.mk #[110, 111, 110, 101])] : List ByteArray)) (f := eS) (ti := ti28) (tj := ti9) (e := 9) (e' := 9) (m := 1) (k := .i64) tbok rfl hx4) ?_
  refine SRun.ls (x_load_own (d := 22) (m := 1) (j := 0) (L := ([(ByteArray.mk #[111, 110, 101]), (ByteArray.mk #[116, 119, 111]), (ByteArray.mk #[116, 104, 114, 101, 101]), (ByteArray.mk #[110, 111, 110, 101])] : List ByteArray)) (f := eS) (ti := ti9) (e := 9) (v := vs x4) tbok rfl hx4) ?_
  refine ckn tbok 1 ⟨32, [(8, .own 17), (9, vs x2.2.1), (10, vl eSite x2.2.2.1), (11, vl eDescription x2.2.2.2), (12, vs x4)], [(17, oa 87 4 eCandidate x2.1)]⟩ ?_
  refine srk tbok ⟨32, [(2, .own 17), (3, vs x4), (4, vs x2.2.1), (5, vl eSite x2.2.2.1), (6, vl eDescription x2.2.2.2)], [(17, oa 87 4 eCandidate x2.1)]⟩ ?_
  refine swp_ret ?_
  obtain rfl := inj h
  exact q_fr (fin5 (by kernel_rfl) (finOT (d := 17) (holds_t (by kernel_rfl)) (by kernel_rfl) (by kernel_rfl)) ft ft ft ft)
theorem ents40 : Ents Tryz.prog 40 := ents_of Tryz.func40 (by kernel_rfl) rfl
noncomputable def impl_AnswerFor (aList : (List Candidate)) (aCode : ByteArray) (aText : ByteArray) (aSites : (List Site)) (aDescriptions : (List Description)) : Option (Answer × Int) :=
  ((impl_question_code (question.mk aText aSites aDescriptions) aList).bind fun x1 => (bif (x1 != 0) then some ((Answer.mk (ByteArray.mk #[]) 0 0), x1) else ((impl_findCandidate aList aCode).bind fun x2 => (bif (decide (x2 < 0)) then some ((Answer.mk (ByteArray.mk #[]) 0 0), 4) else ((at' aList x2).bind fun x3 => ((impl_question_answer (question.mk aText aSites aDescriptions) x3).bind fun x4 => some (x4, 0)))))))
theorem impl_AnswerFor_run (aList : (List Candidate)) (aCode : ByteArray) (aText : ByteArray) (aSites : (List Site)) (aDescriptions : (List Description)) (r : Answer × Int) (h : impl_AnswerFor aList aCode aText aSites aDescriptions = some r) : SCall Tryz.prog 36 [.v (vl eCandidate aList), .v (vs aCode), .v (vs aText), .v (vl eSite aSites), .v (vl eDescription aDescriptions)] ⟨[.v (.agg (tc eAnswer r.1)), .v (vi r.2)], [], false⟩ := by
  refine scall_in Tryz.func36 rfl [(.cell 10 59), (.tmp 11)] rfl (fun r => ⟨[.v (.agg (tc eAnswer r.1)), .v (vi r.2)], [], false⟩) (r := r) ?_
  unfold impl_AnswerFor at h
  refine srk tbok ⟨38, [(0, vl eCandidate aList), (1, vs aCode), (2, vs aText), (3, vl eSite aSites), (4, vl eDescription aDescriptions), (10, .ref 10 0)], [(10, .box [vs (ByteArray.mk #[]), vi 0, vi 0])]⟩ ?_
  refine sr ?_
  refine SRun.ck tbok 3 ⟨38, [(0, vl eCandidate aList), (1, vs aCode), (10, .ref 10 0), (15, vs aText), (16, vl eSite aSites), (17, vl eDescription aDescriptions)], [(10, .box [vs (ByteArray.mk #[]), vi 0, vi 0])]⟩ ?_
  refine SRun.ls (x_lstep_build (v := .agg [vs aText, vl eSite aSites, vl eDescription aDescriptions]) tbok rfl) ?_
  refine ckn tbok 2 ⟨38, [(0, vl eCandidate aList), (1, vs aCode), (10, .ref 10 0), (12, .ref 12 0)], [(10, .box [vs (ByteArray.mk #[]), vi 0, vi 0]), (12, .box [vs aText, vl eSite aSites, vl eDescription aDescriptions])]⟩ ?_
  refine swp_seq ?_
  refine sr ?_
  refine SRun.ck tbok 2 ⟨38, [(0, vl eCandidate aList), (1, vs aCode), (10, .ref 10 0), (12, .ref 12 0), (19, .agg [vs aText, vl eSite aSites, vl eDescription aDescriptions]), (20, vl eCandidate aList)], [(10, .box [vs (ByteArray.mk #[]), vi 0, vi 0]), (12, .box [vs aText, vl eSite aSites, vl eDescription aDescriptions])]⟩ ?_
  obtain ⟨x1, hx1, h⟩ := bind_some h
  refine SRun.ls (xc ents79 (impl_question_code_run (question.mk aText aSites aDescriptions) aList _ hx1)) ?_
  refine ckn tbok 1 ⟨38, [(0, vl eCandidate aList), (1, vs aCode), (10, .ref 10 0), (12, .ref 12 0), (13, vi x1)], [(10, .box [vs (ByteArray.mk #[]), vi 0, vi 0]), (12, .box [vs aText, vl eSite aSites, vl eDescription aDescriptions])]⟩ ?_
  refine srk tbok ⟨38, [(0, vl eCandidate aList), (1, vs aCode), (10, .ref 10 0), (12, .ref 12 0), (13, vi x1), (23, vb (x1 != 0))], [(10, .box [vs (ByteArray.mk #[]), vi 0, vi 0]), (12, .box [vs aText, vl eSite aSites, vl eDescription aDescriptions])]⟩ ?_
  refine swp_cd h (fun h => ?_) fun h => ?_
  refine sr ?_
  refine SRun.ls (x_lstep_build (v := .agg [vs (ByteArray.mk #[]), vi 0, vi 0]) tbok rfl) ?_
  refine ckn tbok 3 ⟨38, [(10, .ref 10 0), (11, vi x1)], [(10, .box [vs (ByteArray.mk #[]), vi 0, vi 0])]⟩ ?_
  refine swp_ret ?_
  obtain rfl := inj h
  exact nx_r (q_fr (f2 (fc tbok) fv))
  refine swp_skip ?_
  refine nx_n ?_
  refine sr ?_
  refine SRun.ck tbok 2 ⟨38, [(0, vl eCandidate aList), (10, .ref 10 0), (12, .ref 12 0), (26, vl eCandidate aList), (27, vs aCode)], [(10, .box [vs (ByteArray.mk #[]), vi 0, vi 0]), (12, .box [vs aText, vl eSite aSites, vl eDescription aDescriptions])]⟩ ?_
  obtain ⟨x2, hx2, h⟩ := bind_some h
  refine SRun.ls (xc ents59 (impl_findCandidate_run aList aCode _ hx2)) ?_
  refine ckn tbok 1 ⟨38, [(0, vl eCandidate aList), (10, .ref 10 0), (12, .ref 12 0), (14, vi x2)], [(10, .box [vs (ByteArray.mk #[]), vi 0, vi 0]), (12, .box [vs aText, vl eSite aSites, vl eDescription aDescriptions])]⟩ ?_
  refine swp_seq ?_
  refine srk tbok ⟨38, [(0, vl eCandidate aList), (10, .ref 10 0), (12, .ref 12 0), (14, vi x2), (30, vb (decide (x2 < 0)))], [(10, .box [vs (ByteArray.mk #[]), vi 0, vi 0]), (12, .box [vs aText, vl eSite aSites, vl eDescription aDescriptions])]⟩ ?_
  refine swp_cd h (fun h => ?_) fun h => ?_
  refine sr ?_
  refine SRun.ls (x_lstep_build (v := .agg [vs (ByteArray.mk #[]), vi 0, vi 0]) tbok rfl) ?_
  refine ckn tbok 2 ⟨38, [(10, .ref 10 0), (11, vi 4)], [(10, .box [vs (ByteArray.mk #[]), vi 0, vi 0])]⟩ ?_
  refine swp_ret ?_
  obtain rfl := inj h
  exact nx_r (q_fr (f2 (fc tbok) fv))
  refine swp_skip ?_
  refine nx_n ?_
  refine swp_seq ?_
  refine swp_dr mixed ?_
  refine DGo.ck tbok false 3 ⟨38, [(10, .ref 10 0), (32, .agg [vs aText, vl eSite aSites, vl eDescription aDescriptions]), (33, vl eCandidate aList), (34, vi x2)], [(10, .box [vs (ByteArray.mk #[]), vi 0, vi 0])]⟩ ?_
  obtain ⟨x3, hx3, h⟩ := bind_some h
  refine DGo.step (x_index (L := aList) (f := eCandidate) (ti := ti31) (tj := ti87) (e := 87) (k := .i64) tbok rfl hx3) ?_
  refine DGo.ck tbok false 1 ⟨38, [(10, .ref 10 0), (32, .agg [vs aText, vl eSite aSites, vl eDescription aDescriptions]), (36, .agg (tc eCandidate x3))], [(10, .box [vs (ByteArray.mk #[]), vi 0, vi 0])]⟩ ?_
  obtain ⟨x4, hx4, h⟩ := bind_some h
  refine DGo.step (xc ents83 (impl_question_answer_run (question.mk aText aSites aDescriptions) x3 _ hx4)) ?_
  refine DGo.seq (by kernel_rfl) (by kernel_rfl) ?_
  refine ckn tbok 2 ⟨38, [(10, .ref 10 0), (11, vi 0)], [(10, .box (tc eAnswer x4))]⟩ ?_
  refine swp_ret ?_
  obtain rfl := inj h
  exact q_fr (f2 (fc tbok) fv)
theorem ents36 : Ents Tryz.prog 36 := ents_of Tryz.func36 (by kernel_rfl) rfl
noncomputable def spec_l30Named (aList : (List Candidate)) (aCode : ByteArray) (aText : ByteArray) (aSites : (List Site)) (aDescriptions : (List Description)) : Option (Int) :=
  ((spec_l30Code aList aText aSites aDescriptions).bind fun x1 => (((bif (x1 == 0) then ((spec_l30Find aList aCode).bind fun x2 => some (decide (x2 < 0))) else some false)).bind fun (j3 : Bool) => (bif j3 then some 4 else some x1)))
theorem spec_l30Named_run (aList : (List Candidate)) (aCode : ByteArray) (aText : ByteArray) (aSites : (List Site)) (aDescriptions : (List Description)) (r : Int) (h : spec_l30Named aList aCode aText aSites aDescriptions = some r) : SCall Tryz.prog 51 [.v (vl eCandidate aList), .v (vs aCode), .v (vs aText), .v (vl eSite aSites), .v (vl eDescription aDescriptions)] ⟨[.v (vi r)], [], false⟩ := by
  refine scall_in Tryz.func51 rfl [(.tmp 10)] rfl (fun r => ⟨[.v (vi r)], [], false⟩) (r := r) ?_
  unfold spec_l30Named at h
  refine srk tbok ⟨26, [(0, vl eCandidate aList), (1, vs aCode), (2, vs aText), (3, vl eSite aSites), (4, vl eDescription aDescriptions)], []⟩ ?_
  refine sr ?_
  refine SRun.ck tbok 4 ⟨26, [(0, vl eCandidate aList), (1, vs aCode), (12, vl eCandidate aList), (13, vs aText), (14, vl eSite aSites), (15, vl eDescription aDescriptions)], []⟩ ?_
  obtain ⟨x1, hx1, h⟩ := bind_some h
  refine SRun.ls (xc ents66 (spec_l30Code_run aList aText aSites aDescriptions _ hx1)) ?_
  refine ckn tbok 1 ⟨26, [(0, vl eCandidate aList), (1, vs aCode), (11, vi x1)], []⟩ ?_
  refine swp_seq ?_
  refine swp_seq ?_
  refine swp_regJ h (fun j3 => ⟨26, [(11, vi x1), (24, vb j3)], []⟩) (fun v4 h => ?_) (fun j3 h => ?_)
  refine SRun.ck tbok 3 ⟨26, [(0, vl eCandidate aList), (1, vs aCode), (11, vi x1), (19, vb (x1 == 0))], []⟩ ?_
  refine SRun.cu [(19, fun b => b)] h (fun h => ?_) fun h => ?_
  refine SRun.ck tbok 2 ⟨26, [(11, vi x1), (19, vb true), (20, vl eCandidate aList), (21, vs aCode)], []⟩ ?_
  obtain ⟨x2, hx2, h⟩ := bind_some h
  refine SRun.ls (xc ents53 (spec_l30Find_run aList aCode _ hx2)) ?_
  refine SRun.ck tbok 2 ⟨26, [(11, vi x1), (24, vb (decide (x2 < 0)))], []⟩ ?_
  refine SRun.nil ?_
  obtain rfl := inj h
  exact Le.sub0
  refine SRun.ck tbok 5 ⟨26, [(11, vi x1), (24, vb false)], []⟩ ?_
  refine SRun.nil ?_
  obtain rfl := inj h
  exact Le.sub0
  refine swp_cd h (fun h => ?_) fun h => ?_
  refine srk tbok ⟨26, [(10, vi 4)], []⟩ ?_
  refine swp_ret ?_
  obtain rfl := inj h
  exact nx_r (q_fr (f1 fv))
  refine swp_skip ?_
  refine nx_n ?_
  refine srk tbok ⟨26, [(10, vi x1)], []⟩ ?_
  refine swp_ret ?_
  obtain rfl := inj h
  exact q_fr (f1 fv)
theorem ents51 : Ents Tryz.prog 51 := ents_of Tryz.func51 (by kernel_rfl) rfl
noncomputable def spec_AnswerFor (aList : (List Candidate)) (aCode : ByteArray) (aText : ByteArray) (aSites : (List Site)) (aDescriptions : (List Description)) : Option (Answer × Int) :=
  ((spec_l30Named aList aCode aText aSites aDescriptions).bind fun x1 => (bif (x1 != 0) then some ((Answer.mk (ByteArray.mk #[]) 0 0), x1) else ((spec_l30Find aList aCode).bind fun x2 => ((at' aList x2).bind fun x3 => ((spec_l30Answer x3 aText aSites aDescriptions).bind fun x4 => some (x4, 0))))))
theorem spec_AnswerFor_run (aList : (List Candidate)) (aCode : ByteArray) (aText : ByteArray) (aSites : (List Site)) (aDescriptions : (List Description)) (r : Answer × Int) (h : spec_AnswerFor aList aCode aText aSites aDescriptions = some r) : SCall Tryz.prog 41 [.v (vl eCandidate aList), .v (vs aCode), .v (vs aText), .v (vl eSite aSites), .v (vl eDescription aDescriptions)] ⟨[.v (.agg (tc eAnswer r.1)), .v (vi r.2)], [], false⟩ := by
  refine scall_in Tryz.func41 rfl [(.cell 10 59), (.tmp 11)] rfl (fun r => ⟨[.v (.agg (tc eAnswer r.1)), .v (vi r.2)], [], false⟩) (r := r) ?_
  unfold spec_AnswerFor at h
  refine srk tbok ⟨33, [(0, vl eCandidate aList), (1, vs aCode), (2, vs aText), (3, vl eSite aSites), (4, vl eDescription aDescriptions), (10, .ref 10 0)], [(10, .box [vs (ByteArray.mk #[]), vi 0, vi 0])]⟩ ?_
  refine sr ?_
  refine SRun.ck tbok 5 ⟨33, [(0, vl eCandidate aList), (1, vs aCode), (2, vs aText), (3, vl eSite aSites), (4, vl eDescription aDescriptions), (10, .ref 10 0), (13, vl eCandidate aList), (14, vs aCode), (15, vs aText), (16, vl eSite aSites), (17, vl eDescription aDescriptions)], [(10, .box [vs (ByteArray.mk #[]), vi 0, vi 0])]⟩ ?_
  obtain ⟨x1, hx1, h⟩ := bind_some h
  refine SRun.ls (xc ents51 (spec_l30Named_run aList aCode aText aSites aDescriptions _ hx1)) ?_
  refine ckn tbok 1 ⟨33, [(0, vl eCandidate aList), (1, vs aCode), (2, vs aText), (3, vl eSite aSites), (4, vl eDescription aDescriptions), (10, .ref 10 0), (12, vi x1)], [(10, .box [vs (ByteArray.mk #[]), vi 0, vi 0])]⟩ ?_
  refine swp_seq ?_
  refine srk tbok ⟨33, [(0, vl eCandidate aList), (1, vs aCode), (2, vs aText), (3, vl eSite aSites), (4, vl eDescription aDescriptions), (10, .ref 10 0), (12, vi x1), (20, vb (x1 != 0))], [(10, .box [vs (ByteArray.mk #[]), vi 0, vi 0])]⟩ ?_
  refine swp_cd h (fun h => ?_) fun h => ?_
  refine sr ?_
  refine SRun.ls (x_lstep_build (v := .agg [vs (ByteArray.mk #[]), vi 0, vi 0]) tbok rfl) ?_
  refine ckn tbok 3 ⟨33, [(10, .ref 10 0), (11, vi x1)], [(10, .box [vs (ByteArray.mk #[]), vi 0, vi 0])]⟩ ?_
  refine swp_ret ?_
  obtain rfl := inj h
  exact nx_r (q_fr (f2 (fc tbok) fv))
  refine swp_skip ?_
  refine nx_n ?_
  refine sr ?_
  refine SRun.ck tbok 3 ⟨33, [(2, vs aText), (3, vl eSite aSites), (4, vl eDescription aDescriptions), (10, .ref 10 0), (23, vl eCandidate aList), (24, vl eCandidate aList), (25, vs aCode)], [(10, .box [vs (ByteArray.mk #[]), vi 0, vi 0])]⟩ ?_
  obtain ⟨x2, hx2, h⟩ := bind_some h
  refine SRun.ls (xc ents53 (spec_l30Find_run aList aCode _ hx2)) ?_
  obtain ⟨x3, hx3, h⟩ := bind_some h
  refine SRun.ls (x_index (L := aList) (f := eCandidate) (ti := ti31) (tj := ti87) (e := 87) (k := .i64) tbok rfl hx3) ?_
  refine SRun.ck tbok 4 ⟨33, [(10, .ref 10 0), (28, .agg (tc eCandidate x3)), (29, vs aText), (30, vl eSite aSites), (31, vl eDescription aDescriptions)], [(10, .box [vs (ByteArray.mk #[]), vi 0, vi 0])]⟩ ?_
  obtain ⟨x4, hx4, h⟩ := bind_some h
  refine SRun.ls (xc ents67 (spec_l30Answer_run x3 aText aSites aDescriptions _ hx4)) ?_
  refine ckn tbok 2 ⟨33, [(10, .ref 10 0), (11, vi 0)], [(10, .box (tc eAnswer x4))]⟩ ?_
  refine swp_ret ?_
  obtain rfl := inj h
  exact q_fr (f2 (fc tbok) fv)
theorem ents41 : Ents Tryz.prog 41 := ents_of Tryz.func41 (by kernel_rfl) rfl
noncomputable def impl_RankOf_1 (aA : Answer) (c0 : ByteArray) : Option (Bool) :=
  some (aA.Code.toList == c0.toList)
theorem impl_RankOf_1_run (aA : Answer) (c0 : ByteArray) (r : Bool) (h : impl_RankOf_1 aA c0 = some r) : SCall Tryz.prog 85 [.v (.agg (tc eAnswer aA)), .v (.ptr [vs c0] 0)] ⟨[.v (vb r)], [], false⟩ := by
  refine scall_in Tryz.func85 rfl [(.tmp 3)] rfl (fun r => ⟨[.v (vb r)], [], false⟩) (r := r) ?_
  unfold impl_RankOf_1 at h
  refine srk tbok ⟨8, [(1, .ptr [vs c0] 0), (2, .ref 2 0)], [(2, .box (tc eAnswer aA))]⟩ ?_
  refine srk tbok ⟨8, [(3, vb (aA.Code.toList == c0.toList))], []⟩ ?_
  refine swp_ret ?_
  obtain rfl := inj h
  exact q_fr (f1 fv)
theorem ents85 : Ents Tryz.prog 85 := ents_of Tryz.func85 (by kernel_rfl) rfl
noncomputable def slices_IndexFunc_Answer_impl_RankOf_1 (aS : (List Answer)) (aF0 : ByteArray) : Option (Int) :=
  (((forN (aS.length : Int) (fun (i3 : Int) (_ : Unit) => ((at' aS i3).bind fun x7 => ((impl_RankOf_1 x7 aF0).bind fun x8 => (bif x8 then some (.inr (.inr i3)) else some (.inl ()))))) (fun (_ : Unit) => .inl ()) 0 ())).bind (Sum.elim (fun (_ : Unit) => some (-1)) some))
theorem slices_IndexFunc_Answer_impl_RankOf_1_run (aS : (List Answer)) (aF0 : ByteArray) (r : Int) (h : slices_IndexFunc_Answer_impl_RankOf_1 aS aF0 = some r) : SCall Tryz.prog 84 [.v (vl eAnswer aS), .v (.clo 85 [.ptr [vs aF0] 0])] ⟨[.v (vi r)], [], false⟩ := by
  refine scall_in Tryz.func84 rfl [(.tmp 4)] rfl (fun r => ⟨[.v (vi r)], [], false⟩) (r := r) ?_
  unfold slices_IndexFunc_Answer_impl_RankOf_1 at h
  refine srk tbok ⟨19, [(0, vl eAnswer aS), (1, .clo 85 [.ptr [vs aF0] 0])], []⟩ ?_
  refine swp_seq ?_
  refine srk tbok ⟨19, [(0, vl eAnswer aS), (1, .clo 85 [.ptr [vs aF0] 0]), (7, vi (aS.length : Int)), (8, vi 0)], []⟩ ?_
  refine swp_seqE (r := r) h (fun j1 => ⟨19, [], []⟩) (fun v2 h => ?_) (fun j1 h => ?_)
  refine swp_blk (a := v2) ?_
  refine swp_lpL (r := v2) (s := (0, ())) _ (fun s3 => ⟨19, [(0, vl eAnswer aS), (1, .clo 85 [.ptr [vs aF0] 0]), (7, vi (aS.length : Int)), (8, vi s3.1)], []⟩) _ (Le.sub0) h (fun s3 v4 h => ?_)
  refine srk tbok ⟨19, [(0, vl eAnswer aS), (1, .clo 85 [.ptr [vs aF0] 0]), (7, vi (aS.length : Int)), (8, vi s3.1), (9, vb (decide (s3.1 < (aS.length : Int))))], []⟩ ?_
  refine swp_seq ?_
  refine swp_cd h (fun h => ?_) fun h => ?_
  refine swp_skip ?_
  refine nx_n ?_
  refine swp_seq ?_
  refine swp_seqL (r := v4) h (fun j5 => ⟨19, [(0, vl eAnswer aS), (1, .clo 85 [.ptr [vs aF0] 0]), (7, vi (aS.length : Int)), (8, vi s3.1)], []⟩) (fun v6 h => ?_) (fun j5 h => ?_)
  refine swp_blk (a := v6) ?_
  refine srk tbok ⟨19, [(0, vl eAnswer aS), (1, .clo 85 [.ptr [vs aF0] 0]), (5, vi s3.1), (7, vi (aS.length : Int)), (8, vi s3.1)], []⟩ ?_
  refine sr ?_
  refine SRun.ck tbok 3 ⟨19, [(0, vl eAnswer aS), (1, .clo 85 [.ptr [vs aF0] 0]), (5, vi s3.1), (7, vi (aS.length : Int)), (8, vi s3.1), (11, .clo 85 [.ptr [vs aF0] 0]), (12, vl eAnswer aS), (13, vi s3.1)], []⟩ ?_
  obtain ⟨x7, hx7, h⟩ := bind_some h
  refine SRun.ls (x_index (L := aS) (f := eAnswer) (ti := ti62) (tj := ti59) (e := 59) (k := .i64) tbok rfl hx7) ?_
  refine SRun.ck tbok 1 ⟨19, [(0, vl eAnswer aS), (1, .clo 85 [.ptr [vs aF0] 0]), (5, vi s3.1), (7, vi (aS.length : Int)), (8, vi s3.1), (11, .clo 85 [.ptr [vs aF0] 0]), (15, .agg (tc eAnswer x7))], []⟩ ?_
  obtain ⟨x8, hx8, h⟩ := bind_some h
  refine SRun.ls (xc ents85 (impl_RankOf_1_run x7 aF0 _ hx8)) ?_
  refine SRun.nx ?_
  refine swp_cd h (fun h => ?_) fun h => ?_
  refine srk tbok ⟨19, [(4, vi s3.1)], []⟩ ?_
  refine swp_ret ?_
  obtain rfl := inj h
  exact q_br (q_rr (q_rr (q_br (q_rr (q_fr (f1 fv))))))
  refine swp_skip ?_
  obtain rfl := inj h
  exact q_bn (q_l (Le.sub0))
  refine swp_reg ?_
  refine SRun.ck tbok 2 ⟨19, [(0, vl eAnswer aS), (1, .clo 85 [.ptr [vs aF0] 0]), (7, vi (aS.length : Int)), (8, vi (w64 (s3.1 + 1)))], []⟩ ?_
  refine SRun.nil ?_
  obtain rfl := inj h
  exact q_l (Le.sub0)
  refine swp_exit ?_
  obtain rfl := inj h
  exact nx_e (q_re (q_bh (q_l (Le.sub0))))
  refine srk tbok ⟨19, [(4, vi (-1))], []⟩ ?_
  refine swp_ret ?_
  obtain rfl := inj h
  exact q_fr (f1 fv)
theorem ents84 : Ents Tryz.prog 84 := ents_of Tryz.func84 (by kernel_rfl) rfl
noncomputable def impl_RankOf (aList : (List Candidate)) (aCode : ByteArray) (aText : ByteArray) (aSites : (List Site)) (aDescriptions : (List Description)) : Option (Int × Int) :=
  ((impl_AnswersOf aList aText aSites aDescriptions).bind fun x1 => (bif (x1.2 != 0) then some (0, x1.2) else ((slices_IndexFunc_Answer_impl_RankOf_1 x1.1 aCode).bind fun x2 => (bif (decide (x2 < 0)) then some (0, 4) else some (x2, 0)))))
theorem impl_RankOf_run (aList : (List Candidate)) (aCode : ByteArray) (aText : ByteArray) (aSites : (List Site)) (aDescriptions : (List Description)) (r : Int × Int) (h : impl_RankOf aList aCode aText aSites aDescriptions = some r) : SCall Tryz.prog 42 [.v (vl eCandidate aList), .v (vs aCode), .v (vs aText), .v (vl eSite aSites), .v (vl eDescription aDescriptions)] ⟨[.v (vi r.1), .v (vi r.2)], [], false⟩ := by
  refine scall_in Tryz.func42 rfl [(.tmp 10), (.tmp 11)] rfl (fun r => ⟨[.v (vi r.1), .v (vi r.2)], [], false⟩) (r := r) ?_
  unfold impl_RankOf at h
  refine srk tbok ⟨32, [(0, vl eCandidate aList), (2, vs aText), (3, vl eSite aSites), (4, vl eDescription aDescriptions), (6, .ref 6 0)], [(6, .box [vs aCode])]⟩ ?_
  refine sr ?_
  refine SRun.ck tbok 4 ⟨32, [(6, .ref 6 0), (16, vl eCandidate aList), (17, vs aText), (18, vl eSite aSites), (19, vl eDescription aDescriptions)], [(6, .box [vs aCode])]⟩ ?_
  obtain ⟨x1, hx1, h⟩ := bind_some h
  refine SRun.ls (xc ents38 (impl_AnswersOf_run aList aText aSites aDescriptions _ hx1)) ?_
  refine ckn tbok 5 ⟨32, [(6, .ref 6 0), (12, .own 20), (13, vi x1.2)], [(6, .box [vs aCode]), (20, oa 59 3 eAnswer x1.1)]⟩ ?_
  refine swp_seq ?_
  refine srk tbok ⟨32, [(6, .ref 6 0), (12, .own 20), (13, vi x1.2), (24, vb (x1.2 != 0))], [(6, .box [vs aCode]), (20, oa 59 3 eAnswer x1.1)]⟩ ?_
  refine swp_cd h (fun h => ?_) fun h => ?_
  refine srk tbok ⟨32, [(10, vi 0), (11, vi x1.2)], []⟩ ?_
  refine swp_ret ?_
  obtain rfl := inj h
  exact nx_r (q_fr (f2 fv fv))
  refine swp_skip ?_
  refine nx_n ?_
  refine sr ?_
  refine SRun.ck tbok 2 ⟨32, [(26, .own 20), (27, .clo 85 [.ref 6 0])], [(6, .box [vs aCode]), (20, oa 59 3 eAnswer x1.1)]⟩ ?_
  obtain ⟨x2, hx2, h⟩ := bind_some h
  refine SRun.ls (xc ents84 (slices_IndexFunc_Answer_impl_RankOf_1_run x1.1 aCode _ hx2)) ?_
  refine ckn tbok 1 ⟨32, [(14, vi x2)], []⟩ ?_
  refine swp_seq ?_
  refine srk tbok ⟨32, [(14, vi x2), (30, vb (decide (x2 < 0)))], []⟩ ?_
  refine swp_cd h (fun h => ?_) fun h => ?_
  refine srk tbok ⟨32, [(10, vi 0), (11, vi 4)], []⟩ ?_
  refine swp_ret ?_
  obtain rfl := inj h
  exact nx_r (q_fr (f2 fv fv))
  refine swp_skip ?_
  refine nx_n ?_
  refine srk tbok ⟨32, [(10, vi x2), (11, vi 0)], []⟩ ?_
  refine swp_ret ?_
  obtain rfl := inj h
  exact q_fr (f2 fv fv)
theorem ents42 : Ents Tryz.prog 42 := ents_of Tryz.func42 (by kernel_rfl) rfl
noncomputable def spec_RankOf (aList : (List Candidate)) (aCode : ByteArray) (aText : ByteArray) (aSites : (List Site)) (aDescriptions : (List Description)) : Option (Int × Int) :=
  ((spec_l30Named aList aCode aText aSites aDescriptions).bind fun x1 => (bif (x1 != 0) then some (0, x1) else ((spec_l30Ranked aList aText aSites aDescriptions).bind fun x2 => (((loop (fun (s5 : Int) => ((at' x2 s5).bind fun x7 => (bif (!(x7.Code.toList == aCode.toList)) then some (.inl (w64 (s5 + 1))) else some (.inr s5)))) 0)).bind fun (j3 : Int) => some (j3, 0)))))
theorem spec_RankOf_run (aList : (List Candidate)) (aCode : ByteArray) (aText : ByteArray) (aSites : (List Site)) (aDescriptions : (List Description)) (r : Int × Int) (h : spec_RankOf aList aCode aText aSites aDescriptions = some r) : SCall Tryz.prog 43 [.v (vl eCandidate aList), .v (vs aCode), .v (vs aText), .v (vl eSite aSites), .v (vl eDescription aDescriptions)] ⟨[.v (vi r.1), .v (vi r.2)], [], false⟩ := by
  refine scall_in Tryz.func43 rfl [(.tmp 10), (.tmp 11)] rfl (fun r => ⟨[.v (vi r.1), .v (vi r.2)], [], false⟩) (r := r) ?_
  unfold spec_RankOf at h
  refine srk tbok ⟨39, [(0, vl eCandidate aList), (1, vs aCode), (2, vs aText), (3, vl eSite aSites), (4, vl eDescription aDescriptions)], []⟩ ?_
  refine sr ?_
  refine SRun.ck tbok 5 ⟨39, [(0, vl eCandidate aList), (1, vs aCode), (2, vs aText), (3, vl eSite aSites), (4, vl eDescription aDescriptions), (15, vl eCandidate aList), (16, vs aCode), (17, vs aText), (18, vl eSite aSites), (19, vl eDescription aDescriptions)], []⟩ ?_
  obtain ⟨x1, hx1, h⟩ := bind_some h
  refine SRun.ls (xc ents51 (spec_l30Named_run aList aCode aText aSites aDescriptions _ hx1)) ?_
  refine ckn tbok 1 ⟨39, [(0, vl eCandidate aList), (1, vs aCode), (2, vs aText), (3, vl eSite aSites), (4, vl eDescription aDescriptions), (12, vi x1)], []⟩ ?_
  refine swp_seq ?_
  refine srk tbok ⟨39, [(0, vl eCandidate aList), (1, vs aCode), (2, vs aText), (3, vl eSite aSites), (4, vl eDescription aDescriptions), (12, vi x1), (22, vb (x1 != 0))], []⟩ ?_
  refine swp_cd h (fun h => ?_) fun h => ?_
  refine srk tbok ⟨39, [(10, vi 0), (11, vi x1)], []⟩ ?_
  refine swp_ret ?_
  obtain rfl := inj h
  exact nx_r (q_fr (f2 fv fv))
  refine swp_skip ?_
  refine nx_n ?_
  refine sr ?_
  refine SRun.ck tbok 4 ⟨39, [(1, vs aCode), (24, vl eCandidate aList), (25, vs aText), (26, vl eSite aSites), (27, vl eDescription aDescriptions)], []⟩ ?_
  obtain ⟨x2, hx2, h⟩ := bind_some h
  refine SRun.ls (xc ents82 (spec_l30Ranked_run aList aText aSites aDescriptions _ hx2)) ?_
  refine ckn tbok 1 ⟨39, [(1, vs aCode), (13, .own 28)], [(28, oa 59 3 eAnswer x2)]⟩ ?_
  refine srk tbok ⟨39, [(1, vs aCode), (13, .own 28), (14, vi 0)], [(28, oa 59 3 eAnswer x2)]⟩ ?_
  refine swp_seq ?_
  refine swp_seqJ h (fun j3 => ⟨39, [(14, vi j3)], []⟩) (fun v4 h => ?_) (fun j3 h => ?_)
  refine swp_blk (a := v4) ?_
  refine swp_lpL (r := v4) (s := 0) _ (fun s5 => ⟨39, [(1, vs aCode), (13, .own 13), (14, vi s5)], [(13, oa 59 3 eAnswer x2)]⟩) _ (Le.rr [28] [(28, 13)]) h (fun s5 v6 h => ?_)
  refine swp_seq ?_
  refine sr ?_
  refine SRun.ck tbok 2 ⟨39, [(1, vs aCode), (13, .own 13), (14, vi s5), (29, .own 13), (30, vi s5)], [(13, oa 59 3 eAnswer x2)]⟩ ?_
  obtain ⟨x7, hx7, h⟩ := bind_some h
  refine SRun.ls (x_index_own (d := 13) (L := x2) (f := eAnswer) (ti := ti62) (tj := ti59) (e := 59) (e' := 59) (m := 3) (k := .i64) tbok rfl hx7) ?_
  refine SRun.ck tbok 1 ⟨39, [(1, vs aCode), (13, .own 13), (14, vi s5), (32, .eref 13 3 (Int.toNat s5) 0)], [(13, oa 59 3 eAnswer x2)]⟩ ?_
  refine SRun.ls (x_load_own (d := 13) (m := 3) (j := 0) (L := x2) (f := eAnswer) (ti := ti9) (e := 59) (v := vs x7.Code) tbok rfl hx7) ?_
  refine ckn tbok 2 ⟨39, [(1, vs aCode), (13, .own 13), (14, vi s5), (35, vb (!(x7.Code.toList == aCode.toList)))], [(13, oa 59 3 eAnswer x2)]⟩ ?_
  refine swp_cd h (fun h => ?_) fun h => ?_
  refine swp_skip ?_
  refine nx_n ?_
  refine swp_blk (a := v6) ?_
  refine swp_reg ?_
  refine SRun.ck tbok 3 ⟨39, [(1, vs aCode), (13, .own 13), (14, vi (w64 (s5 + 1)))], [(13, oa 59 3 eAnswer x2)]⟩ ?_
  refine SRun.nil ?_
  obtain rfl := inj h
  exact q_bn (q_l (Le.sub0))
  refine swp_exit ?_
  obtain rfl := inj h
  exact nx_e (q_re (q_bh (q_j (Le.sub0))))
  refine srk tbok ⟨39, [(10, vi j3), (11, vi 0)], []⟩ ?_
  refine swp_ret ?_
  obtain rfl := inj h
  exact q_fr (f2 fv fv)
theorem ents43 : Ents Tryz.prog 43 := ents_of Tryz.func43 (by kernel_rfl) rfl
noncomputable def laws_likeAnswers (aA : (List Answer)) (aB : (List Answer)) : Option (Bool) :=
  (bif ((aA.length : Int) != (aB.length : Int)) then some false else (((forN (aA.length : Int) (fun (i3 : Int) (_ : Unit) => ((at' aA i3).bind fun x7 => ((at' aB i3).bind fun x8 => (bif (!((x7.Code.toList == x8.Code.toList) && ((x7.Distance == x8.Distance) && (x7.Satisfied == x8.Satisfied)))) then some (.inr (.inr false)) else some (.inl ()))))) (fun (_ : Unit) => .inl ()) 0 ())).bind (Sum.elim (fun (_ : Unit) => some true) some)))
theorem laws_likeAnswers_run (aA : (List Answer)) (aB : (List Answer)) (r : Bool) (h : laws_likeAnswers aA aB = some r) : SCall Tryz.prog 44 [.v (vl eAnswer aA), .v (vl eAnswer aB)] ⟨[.v (vb r)], [], false⟩ := by
  refine scall_in Tryz.func44 rfl [(.tmp 4)] rfl (fun r => ⟨[.v (vb r)], [], false⟩) (r := r) ?_
  unfold laws_likeAnswers at h
  refine srk tbok ⟨26, [(0, vl eAnswer aA), (1, vl eAnswer aB)], []⟩ ?_
  refine swp_seq ?_
  refine srk tbok ⟨26, [(0, vl eAnswer aA), (1, vl eAnswer aB), (10, vb ((aA.length : Int) != (aB.length : Int)))], []⟩ ?_
  refine swp_cd h (fun h => ?_) fun h => ?_
  refine srk tbok ⟨26, [(4, vb false)], []⟩ ?_
  refine swp_ret ?_
  obtain rfl := inj h
  exact nx_r (q_fr (f1 fv))
  refine swp_skip ?_
  refine nx_n ?_
  refine swp_seq ?_
  refine srk tbok ⟨26, [(0, vl eAnswer aA), (1, vl eAnswer aB), (5, vi 0)], []⟩ ?_
  refine swp_seqE (r := r) h (fun j1 => ⟨26, [], []⟩) (fun v2 h => ?_) (fun j1 h => ?_)
  refine swp_blk (a := v2) ?_
  refine swp_lpL (r := v2) (s := (0, ())) _ (fun s3 => ⟨26, [(0, vl eAnswer aA), (1, vl eAnswer aB), (5, vi s3.1)], []⟩) _ (Le.sub0) h (fun s3 v4 h => ?_)
  refine swp_seq ?_
  refine srk tbok ⟨26, [(0, vl eAnswer aA), (1, vl eAnswer aB), (5, vi s3.1), (14, vb (decide (s3.1 < (aA.length : Int))))], []⟩ ?_
  refine swp_cd h (fun h => ?_) fun h => ?_
  refine swp_skip ?_
  refine nx_n ?_
  refine swp_seq ?_
  refine swp_seqL (r := v4) h (fun j5 => ⟨26, [(0, vl eAnswer aA), (1, vl eAnswer aB), (5, vi s3.1)], []⟩) (fun v6 h => ?_) (fun j5 h => ?_)
  refine swp_blk (a := v6) ?_
  refine swp_seq ?_
  refine swp_dr mixed ?_
  refine DGo.ck tbok false 2 ⟨26, [(0, vl eAnswer aA), (1, vl eAnswer aB), (5, vi s3.1), (17, vl eAnswer aA), (18, vi s3.1)], []⟩ ?_
  obtain ⟨x7, hx7, h⟩ := bind_some h
  refine DGo.step (x_index (L := aA) (f := eAnswer) (ti := ti62) (tj := ti59) (e := 59) (k := .i64) tbok rfl hx7) ?_
  refine DGo.ck tbok false 3 ⟨26, [(0, vl eAnswer aA), (1, vl eAnswer aB), (5, vi s3.1), (20, .agg (tc eAnswer x7)), (21, vl eAnswer aB), (22, vi s3.1)], []⟩ ?_
  obtain ⟨x8, hx8, h⟩ := bind_some h
  refine DGo.step (x_index (L := aB) (f := eAnswer) (ti := ti62) (tj := ti59) (e := 59) (k := .i64) tbok rfl hx8) ?_
  refine DGo.ck tbok false 1 ⟨26, [(0, vl eAnswer aA), (1, vl eAnswer aB), (5, vi s3.1), (20, .agg (tc eAnswer x7)), (24, .agg (tc eAnswer x8))], []⟩ ?_
  refine DGo.step (x_lstep_eq tbok true (xs := [vs x7.Code, vi x7.Distance, vi x7.Satisfied]) (ys := [vs x8.Code, vi x8.Distance, vi x8.Satisfied]) (b := ((x7.Code.toList == x8.Code.toList) && ((x7.Distance == x8.Distance) && (x7.Satisfied == x8.Satisfied)))) rfl) ?_
  refine DGo.nx ?_
  refine swp_cd h (fun h => ?_) fun h => ?_
  refine srk tbok ⟨26, [(4, vb false)], []⟩ ?_
  refine swp_ret ?_
  obtain rfl := inj h
  exact q_br (q_rr (q_rr (q_br (q_rr (q_fr (f1 fv))))))
  refine swp_skip ?_
  obtain rfl := inj h
  exact q_bn (q_l (Le.sub0))
  refine swp_reg ?_
  refine SRun.ck tbok 3 ⟨26, [(0, vl eAnswer aA), (1, vl eAnswer aB), (5, vi (w64 (s3.1 + 1)))], []⟩ ?_
  refine SRun.nil ?_
  obtain rfl := inj h
  exact q_l (Le.sub0)
  refine swp_exit ?_
  obtain rfl := inj h
  exact nx_e (q_re (q_bh (q_l (Le.sub0))))
  refine srk tbok ⟨26, [(4, vb true)], []⟩ ?_
  refine swp_ret ?_
  obtain rfl := inj h
  exact q_fr (f1 fv)
theorem ents44 : Ents Tryz.prog 44 := ents_of Tryz.func44 (by kernel_rfl) rfl
noncomputable def laws_likeTexts (aA : (List ByteArray)) (aB : (List ByteArray)) : Option (Bool) :=
  (bif ((aA.length : Int) != (aB.length : Int)) then some false else (((forN (aA.length : Int) (fun (i3 : Int) (_ : Unit) => ((at' aA i3).bind fun x7 => ((at' aB i3).bind fun x8 => (bif (!(x7.toList == x8.toList)) then some (.inr (.inr false)) else some (.inl ()))))) (fun (_ : Unit) => .inl ()) 0 ())).bind (Sum.elim (fun (_ : Unit) => some true) some)))
theorem laws_likeTexts_run (aA : (List ByteArray)) (aB : (List ByteArray)) (r : Bool) (h : laws_likeTexts aA aB = some r) : SCall Tryz.prog 34 [.v (vl eS aA), .v (vl eS aB)] ⟨[.v (vb r)], [], false⟩ := by
  refine scall_in Tryz.func34 rfl [(.tmp 4)] rfl (fun r => ⟨[.v (vb r)], [], false⟩) (r := r) ?_
  unfold laws_likeTexts at h
  refine srk tbok ⟨26, [(0, vl eS aA), (1, vl eS aB)], []⟩ ?_
  refine swp_seq ?_
  refine srk tbok ⟨26, [(0, vl eS aA), (1, vl eS aB), (10, vb ((aA.length : Int) != (aB.length : Int)))], []⟩ ?_
  refine swp_cd h (fun h => ?_) fun h => ?_
  refine srk tbok ⟨26, [(4, vb false)], []⟩ ?_
  refine swp_ret ?_
  obtain rfl := inj h
  exact nx_r (q_fr (f1 fv))
  refine swp_skip ?_
  refine nx_n ?_
  refine swp_seq ?_
  refine srk tbok ⟨26, [(0, vl eS aA), (1, vl eS aB), (5, vi 0)], []⟩ ?_
  refine swp_seqE (r := r) h (fun j1 => ⟨26, [], []⟩) (fun v2 h => ?_) (fun j1 h => ?_)
  refine swp_blk (a := v2) ?_
  refine swp_lpL (r := v2) (s := (0, ())) _ (fun s3 => ⟨26, [(0, vl eS aA), (1, vl eS aB), (5, vi s3.1)], []⟩) _ (Le.sub0) h (fun s3 v4 h => ?_)
  refine swp_seq ?_
  refine srk tbok ⟨26, [(0, vl eS aA), (1, vl eS aB), (5, vi s3.1), (14, vb (decide (s3.1 < (aA.length : Int))))], []⟩ ?_
  refine swp_cd h (fun h => ?_) fun h => ?_
  refine swp_skip ?_
  refine nx_n ?_
  refine swp_seq ?_
  refine swp_seqL (r := v4) h (fun j5 => ⟨26, [(0, vl eS aA), (1, vl eS aB), (5, vi s3.1)], []⟩) (fun v6 h => ?_) (fun j5 h => ?_)
  refine swp_blk (a := v6) ?_
  refine swp_seq ?_
  refine swp_dr mixed ?_
  refine DGo.ck tbok false 2 ⟨26, [(0, vl eS aA), (1, vl eS aB), (5, vi s3.1), (17, vl eS aA), (18, vi s3.1)], []⟩ ?_
  obtain ⟨x7, hx7, h⟩ := bind_some h
  refine DGo.step (x_index (L := aA) (f := eS) (ti := ti28) (tj := ti9) (e := 9) (k := .i64) tbok rfl hx7) ?_
  refine DGo.ck tbok false 3 ⟨26, [(0, vl eS aA), (1, vl eS aB), (5, vi s3.1), (20, vs x7), (21, vl eS aB), (22, vi s3.1)], []⟩ ?_
  obtain ⟨x8, hx8, h⟩ := bind_some h
  refine DGo.step (x_index (L := aB) (f := eS) (ti := ti28) (tj := ti9) (e := 9) (k := .i64) tbok rfl hx8) ?_
  refine DGo.ck tbok false 2 ⟨26, [(0, vl eS aA), (1, vl eS aB), (5, vi s3.1), (25, vb (!(x7.toList == x8.toList)))], []⟩ ?_
  refine DGo.nx ?_
  refine swp_cd h (fun h => ?_) fun h => ?_
  refine srk tbok ⟨26, [(4, vb false)], []⟩ ?_
  refine swp_ret ?_
  obtain rfl := inj h
  exact q_br (q_rr (q_rr (q_br (q_rr (q_fr (f1 fv))))))
  refine swp_skip ?_
  obtain rfl := inj h
  exact q_bn (q_l (Le.sub0))
  refine swp_reg ?_
  refine SRun.ck tbok 3 ⟨26, [(0, vl eS aA), (1, vl eS aB), (5, vi (w64 (s3.1 + 1)))], []⟩ ?_
  refine SRun.nil ?_
  obtain rfl := inj h
  exact q_l (Le.sub0)
  refine swp_exit ?_
  obtain rfl := inj h
  exact nx_e (q_re (q_bh (q_l (Le.sub0))))
  refine srk tbok ⟨26, [(4, vb true)], []⟩ ?_
  refine swp_ret ?_
  obtain rfl := inj h
  exact q_fr (f1 fv)
theorem ents34 : Ents Tryz.prog 34 := ents_of Tryz.func34 (by kernel_rfl) rfl
noncomputable def laws_hasText (aList : (List ByteArray)) (aS : ByteArray) : Option (Bool) :=
  (((forN (aList.length : Int) (fun (i3 : Int) (_ : Unit) => ((at' aList i3).bind fun x7 => (bif (x7.toList == aS.toList) then some (.inr (.inr true)) else some (.inl ())))) (fun (_ : Unit) => .inl ()) 0 ())).bind (Sum.elim (fun (_ : Unit) => some false) some))
theorem laws_hasText_run (aList : (List ByteArray)) (aS : ByteArray) (r : Bool) (h : laws_hasText aList aS = some r) : SCall Tryz.prog 47 [.v (vl eS aList), .v (vs aS)] ⟨[.v (vb r)], [], false⟩ := by
  refine scall_in Tryz.func47 rfl [(.tmp 4)] rfl (fun r => ⟨[.v (vb r)], [], false⟩) (r := r) ?_
  unfold laws_hasText at h
  refine srk tbok ⟨18, [(0, vl eS aList), (1, vs aS)], []⟩ ?_
  refine swp_seq ?_
  refine srk tbok ⟨18, [(0, vl eS aList), (1, vs aS), (5, vi 0)], []⟩ ?_
  refine swp_seqE (r := r) h (fun j1 => ⟨18, [], []⟩) (fun v2 h => ?_) (fun j1 h => ?_)
  refine swp_blk (a := v2) ?_
  refine swp_lpL (r := v2) (s := (0, ())) _ (fun s3 => ⟨18, [(0, vl eS aList), (1, vs aS), (5, vi s3.1)], []⟩) _ (Le.sub0) h (fun s3 v4 h => ?_)
  refine swp_seq ?_
  refine srk tbok ⟨18, [(0, vl eS aList), (1, vs aS), (5, vi s3.1), (9, vb (decide (s3.1 < (aList.length : Int))))], []⟩ ?_
  refine swp_cd h (fun h => ?_) fun h => ?_
  refine swp_skip ?_
  refine nx_n ?_
  refine swp_seq ?_
  refine swp_seqL (r := v4) h (fun j5 => ⟨18, [(0, vl eS aList), (1, vs aS), (5, vi s3.1)], []⟩) (fun v6 h => ?_) (fun j5 h => ?_)
  refine swp_blk (a := v6) ?_
  refine sr ?_
  refine SRun.ck tbok 2 ⟨18, [(0, vl eS aList), (1, vs aS), (5, vi s3.1), (12, vl eS aList), (13, vi s3.1)], []⟩ ?_
  obtain ⟨x7, hx7, h⟩ := bind_some h
  refine SRun.ls (x_index (L := aList) (f := eS) (ti := ti28) (tj := ti9) (e := 9) (k := .i64) tbok rfl hx7) ?_
  refine ckn tbok 3 ⟨18, [(0, vl eS aList), (1, vs aS), (5, vi s3.1), (17, vb (x7.toList == aS.toList))], []⟩ ?_
  refine swp_cd h (fun h => ?_) fun h => ?_
  refine srk tbok ⟨18, [(4, vb true)], []⟩ ?_
  refine swp_ret ?_
  obtain rfl := inj h
  exact q_br (q_rr (q_rr (q_br (q_rr (q_fr (f1 fv))))))
  refine swp_skip ?_
  obtain rfl := inj h
  exact q_bn (q_l (Le.sub0))
  refine swp_reg ?_
  refine SRun.ck tbok 3 ⟨18, [(0, vl eS aList), (1, vs aS), (5, vi (w64 (s3.1 + 1)))], []⟩ ?_
  refine SRun.nil ?_
  obtain rfl := inj h
  exact q_l (Le.sub0)
  refine swp_exit ?_
  obtain rfl := inj h
  exact nx_e (q_re (q_bh (q_l (Le.sub0))))
  refine srk tbok ⟨18, [(4, vb false)], []⟩ ?_
  refine swp_ret ?_
  obtain rfl := inj h
  exact q_fr (f1 fv)
theorem ents47 : Ents Tryz.prog 47 := ents_of Tryz.func47 (by kernel_rfl) rfl
noncomputable def laws_FnAnswers (aCode : (List Int)) : Option (Bool) :=
  ((laws_big aCode).bind fun x1 => (bif x1 then some true else ((spec_DrawAnswersOf aCode).bind fun x2 => ((impl_AnswersOf x2.1 x2.2.1 x2.2.2.1 x2.2.2.2).bind fun x3 => ((spec_AnswersOf x2.1 x2.2.1 x2.2.2.1 x2.2.2.2).bind fun x4 => ((impl_ExactAnswers x2.1 x2.2.1 x2.2.2.1 x2.2.2.2).bind fun x5 => ((spec_ExactAnswers x2.1 x2.2.1 x2.2.2.1 x2.2.2.2).bind fun x6 => ((spec_DrawAnswerFor aCode).bind fun x7 => ((impl_AnswerFor x7.1 x7.2.1 x7.2.2.1 x7.2.2.2.1 x7.2.2.2.2).bind fun x8 => ((spec_AnswerFor x7.1 x7.2.1 x7.2.2.1 x7.2.2.2.1 x7.2.2.2.2).bind fun x9 => ((impl_RankOf x7.1 x7.2.1 x7.2.2.1 x7.2.2.2.1 x7.2.2.2.2).bind fun x10 => ((spec_RankOf x7.1 x7.2.1 x7.2.2.1 x7.2.2.2.1 x7.2.2.2.2).bind fun x11 => (((bif (x3.2 != x4.2) then some true else ((laws_likeAnswers x3.1 x4.1).bind fun x12 => (bif (!x12) then some true else (bif (x5.2 != x6.2) then some true else ((laws_likeTexts x5.1 x6.1).bind fun x13 => (bif (!x13) then some true else (bif (x8.2 != x9.2) then some true else (bif (!((x8.1.Code.toList == x9.1.Code.toList) && ((x8.1.Distance == x9.1.Distance) && (x8.1.Satisfied == x9.1.Satisfied)))) then some true else (bif (x10.2 != x11.2) then some true else (bif (x10.1 != x11.1) then some true else (bif (x5.2 != x3.2) then some true else (bif (x10.2 != x8.2) then some true else ((impl_AreCandidates x7.1).bind fun x14 => ((spec_AreCandidates x7.1).bind fun x15 => some (!(x14 == x15))))))))))))))))).bind fun (j16 : Bool) => (bif j16 then some false else (((bif (x8.2 == 0) then ((impl_AnswersOf x7.1 x7.2.2.1 x7.2.2.2.1 x7.2.2.2.2).bind fun x20 => (((bif (x20.2 != 0) then some true else ((at' x20.1 x10.1).bind fun x21 => some (!((x21.Code.toList == x8.1.Code.toList) && ((x21.Distance == x8.1.Distance) && (x21.Satisfied == x8.1.Satisfied))))))).bind fun (j22 : Bool) => (bif j22 then some (.inr false) else some (.inl ())))) else some (.inl ()))).bind (Sum.elim (fun (_ : Unit) => (bif (x3.2 != 0) then some true else (((forN (x5.1.length : Int) (fun (i26 : Int) (_ : Unit) => (((bif (decide (i26 ≥ (x3.1.length : Int))) then some true else ((at' x3.1 i26).bind fun x30 => ((laws_hasText x5.1 x30.Code).bind fun x31 => some (!x31))))).bind fun (j32 : Bool) => (bif j32 then some (.inr (.inr false)) else some (.inl ())))) (fun (_ : Unit) => .inl ()) 0 ())).bind (Sum.elim (fun (_ : Unit) => (((forN (x3.1.length : Int) (fun (i36 : Int) (_ : Unit) => ((at' x3.1 (w64 (i36 - 1))).bind fun x40 => ((at' x3.1 (w64 (i36 - 1))).bind fun x41 => ((at' x3.1 i36).bind fun x42 => ((at' x3.1 i36).bind fun x43 => (bif (decide ((w64 ((w64 (10 * x40.Satisfied)) - x41.Distance)) < (w64 ((w64 (10 * x42.Satisfied)) - x43.Distance)))) then some (.inr (.inr false)) else some (.inl ()))))))) (fun (_ : Unit) => .inl ()) 1 ())).bind (Sum.elim (fun (_ : Unit) => some ((x3.1.length : Int) == (x2.1.length : Int))) some))) some)))) some))))))))))))))))
theorem laws_FnAnswers_run (aCode : (List Int)) (r : Bool) (h : laws_FnAnswers aCode = some r) : SCall Tryz.prog 6 [.v (vl (eI .u8) aCode)] ⟨[.v (vb r)], [], false⟩ := by
  refine scall_in Tryz.func6 rfl [(.tmp 2)] rfl (fun r => ⟨[.v (vb r)], [], false⟩) (r := r) ?_
  unfold laws_FnAnswers at h
  refine srk tbok ⟨254, [(0, vl (eI .u8) aCode)], []⟩ ?_
  refine swp_seq ?_
  refine sr ?_
  refine SRun.ck tbok 1 ⟨254, [(0, vl (eI .u8) aCode), (32, vl (eI .u8) aCode)], []⟩ ?_
  obtain ⟨x1, hx1, h⟩ := bind_some h
  refine SRun.ls (xc ents26 (laws_big_run aCode _ hx1)) ?_
  refine SRun.nx ?_
  refine swp_cd h (fun h => ?_) fun h => ?_
  refine srk tbok ⟨254, [(2, vb true)], []⟩ ?_
  refine swp_ret ?_
  obtain rfl := inj h
  exact nx_r (q_fr (f1 fv))
  refine swp_skip ?_
  refine nx_n ?_
  refine sr ?_
  refine SRun.ck tbok 1 ⟨254, [(0, vl (eI .u8) aCode), (35, vl (eI .u8) aCode)], []⟩ ?_
  obtain ⟨x2, hx2, h⟩ := bind_some h
  refine SRun.ls (xc ents37 (spec_DrawAnswersOf_run aCode _ hx2)) ?_
  refine ckn tbok 9 ⟨254, [(0, vl (eI .u8) aCode), (3, .own 36), (4, vs x2.2.1), (5, vl eSite x2.2.2.1), (6, vl eDescription x2.2.2.2)], [(36, oa 87 4 eCandidate x2.1)]⟩ ?_
  refine sr ?_
  refine SRun.ck tbok 4 ⟨254, [(0, vl (eI .u8) aCode), (3, .own 36), (4, vs x2.2.1), (5, vl eSite x2.2.2.1), (6, vl eDescription x2.2.2.2), (42, .own 36), (43, vs x2.2.1), (44, vl eSite x2.2.2.1), (45, vl eDescription x2.2.2.2)], [(36, oa 87 4 eCandidate x2.1)]⟩ ?_
  obtain ⟨x3, hx3, h⟩ := bind_some h
  refine SRun.ls (xc ents38 (impl_AnswersOf_run x2.1 x2.2.1 x2.2.2.1 x2.2.2.2 _ hx3)) ?_
  refine ckn tbok 5 ⟨254, [(0, vl (eI .u8) aCode), (3, .own 36), (4, vs x2.2.1), (5, vl eSite x2.2.2.1), (6, vl eDescription x2.2.2.2), (7, .own 46), (8, vi x3.2)], [(36, oa 87 4 eCandidate x2.1), (46, oa 59 3 eAnswer x3.1)]⟩ ?_
  refine sr ?_
  refine SRun.ck tbok 4 ⟨254, [(0, vl (eI .u8) aCode), (3, .own 36), (4, vs x2.2.1), (5, vl eSite x2.2.2.1), (6, vl eDescription x2.2.2.2), (7, .own 46), (8, vi x3.2), (50, .own 36), (51, vs x2.2.1), (52, vl eSite x2.2.2.1), (53, vl eDescription x2.2.2.2)], [(36, oa 87 4 eCandidate x2.1), (46, oa 59 3 eAnswer x3.1)]⟩ ?_
  obtain ⟨x4, hx4, h⟩ := bind_some h
  refine SRun.ls (xc ents39 (spec_AnswersOf_run x2.1 x2.2.1 x2.2.2.1 x2.2.2.2 _ hx4)) ?_
  refine ckn tbok 5 ⟨254, [(0, vl (eI .u8) aCode), (3, .own 36), (4, vs x2.2.1), (5, vl eSite x2.2.2.1), (6, vl eDescription x2.2.2.2), (7, .own 46), (8, vi x3.2), (9, .own 54), (10, vi x4.2)], [(36, oa 87 4 eCandidate x2.1), (46, oa 59 3 eAnswer x3.1), (54, oa 59 3 eAnswer x4.1)]⟩ ?_
  refine sr ?_
  refine SRun.ck tbok 4 ⟨254, [(0, vl (eI .u8) aCode), (3, .own 36), (4, vs x2.2.1), (5, vl eSite x2.2.2.1), (6, vl eDescription x2.2.2.2), (7, .own 46), (8, vi x3.2), (9, .own 54), (10, vi x4.2), (58, .own 36), (59, vs x2.2.1), (60, vl eSite x2.2.2.1), (61, vl eDescription x2.2.2.2)], [(36, oa 87 4 eCandidate x2.1), (46, oa 59 3 eAnswer x3.1), (54, oa 59 3 eAnswer x4.1)]⟩ ?_
  obtain ⟨x5, hx5, h⟩ := bind_some h
  refine SRun.ls (xc ents25 (impl_ExactAnswers_run x2.1 x2.2.1 x2.2.2.1 x2.2.2.2 _ hx5)) ?_
  refine ckn tbok 5 ⟨254, [(0, vl (eI .u8) aCode), (3, .own 36), (4, vs x2.2.1), (5, vl eSite x2.2.2.1), (6, vl eDescription x2.2.2.2), (7, .own 46), (8, vi x3.2), (9, .own 54), (10, vi x4.2), (11, .own 62), (12, vi x5.2)], [(36, oa 87 4 eCandidate x2.1), (46, oa 59 3 eAnswer x3.1), (54, oa 59 3 eAnswer x4.1), (62, oa 9 1 eS x5.1)]⟩ ?_
  refine sr ?_
  refine SRun.ck tbok 4 ⟨254, [(0, vl (eI .u8) aCode), (3, .own 36), (7, .own 46), (8, vi x3.2), (9, .own 54), (10, vi x4.2), (11, .own 62), (12, vi x5.2), (66, .own 36), (67, vs x2.2.1), (68, vl eSite x2.2.2.1), (69, vl eDescription x2.2.2.2)], [(36, oa 87 4 eCandidate x2.1), (46, oa 59 3 eAnswer x3.1), (54, oa 59 3 eAnswer x4.1), (62, oa 9 1 eS x5.1)]⟩ ?_
  refine SRun.le (Le.frz' (d := 36) (e := 87) (m := 4) (n := x2.1.length) (es := x2.1.map eCandidate) (by kernel_rfl) (by kernel_rfl)) ?_
  obtain ⟨x6, hx6, h⟩ := bind_some h
  refine SRun.ls (xc ents24 (spec_ExactAnswers_run x2.1 x2.2.1 x2.2.2.1 x2.2.2.2 _ hx6)) ?_
  refine ckn tbok 5 ⟨254, [(0, vl (eI .u8) aCode), (3, vl eCandidate x2.1), (7, .own 46), (8, vi x3.2), (9, .own 54), (10, vi x4.2), (11, .own 62), (12, vi x5.2), (13, vl eS x6.1), (14, vi x6.2)], [(46, oa 59 3 eAnswer x3.1), (54, oa 59 3 eAnswer x4.1), (62, oa 9 1 eS x5.1)]⟩ ?_
  refine sr ?_
  refine SRun.ck tbok 1 ⟨254, [(3, vl eCandidate x2.1), (7, .own 46), (8, vi x3.2), (9, .own 54), (10, vi x4.2), (11, .own 62), (12, vi x5.2), (13, vl eS x6.1), (14, vi x6.2), (74, vl (eI .u8) aCode)], [(46, oa 59 3 eAnswer x3.1), (54, oa 59 3 eAnswer x4.1), (62, oa 9 1 eS x5.1)]⟩ ?_
  obtain ⟨x7, hx7, h⟩ := bind_some h
  refine SRun.ls (xc ents40 (spec_DrawAnswerFor_run aCode _ hx7)) ?_
  refine ckn tbok 11 ⟨254, [(3, vl eCandidate x2.1), (7, .own 46), (8, vi x3.2), (9, .own 54), (10, vi x4.2), (11, .own 62), (12, vi x5.2), (13, vl eS x6.1), (14, vi x6.2), (15, .own 75), (16, vs x7.2.1), (17, vs x7.2.2.1), (18, vl eSite x7.2.2.2.1), (19, vl eDescription x7.2.2.2.2)], [(46, oa 59 3 eAnswer x3.1), (54, oa 59 3 eAnswer x4.1), (62, oa 9 1 eS x5.1), (75, oa 87 4 eCandidate x7.1)]⟩ ?_
  refine sr ?_
  refine SRun.ck tbok 5 ⟨254, [(3, vl eCandidate x2.1), (7, .own 46), (8, vi x3.2), (9, .own 54), (10, vi x4.2), (11, .own 62), (12, vi x5.2), (13, vl eS x6.1), (14, vi x6.2), (15, .own 75), (16, vs x7.2.1), (17, vs x7.2.2.1), (18, vl eSite x7.2.2.2.1), (19, vl eDescription x7.2.2.2.2), (82, .own 75), (83, vs x7.2.1), (84, vs x7.2.2.1), (85, vl eSite x7.2.2.2.1), (86, vl eDescription x7.2.2.2.2)], [(46, oa 59 3 eAnswer x3.1), (54, oa 59 3 eAnswer x4.1), (62, oa 9 1 eS x5.1), (75, oa 87 4 eCandidate x7.1)]⟩ ?_
  obtain ⟨x8, hx8, h⟩ := bind_some h
  refine SRun.ls (xc ents36 (impl_AnswerFor_run x7.1 x7.2.1 x7.2.2.1 x7.2.2.2.1 x7.2.2.2.2 _ hx8)) ?_
  refine ckn tbok 6 ⟨254, [(3, vl eCandidate x2.1), (7, .own 46), (8, vi x3.2), (9, .own 54), (10, vi x4.2), (11, .own 62), (12, vi x5.2), (13, vl eS x6.1), (14, vi x6.2), (15, .own 75), (16, vs x7.2.1), (17, vs x7.2.2.1), (18, vl eSite x7.2.2.2.1), (19, vl eDescription x7.2.2.2.2), (20, .ref 20 0), (21, vi x8.2)], [(20, .box (tc eAnswer x8.1)), (46, oa 59 3 eAnswer x3.1), (54, oa 59 3 eAnswer x4.1), (62, oa 9 1 eS x5.1), (75, oa 87 4 eCandidate x7.1)]⟩ ?_
  refine sr ?_
  refine SRun.ck tbok 5 ⟨254, [(3, vl eCandidate x2.1), (7, .own 46), (8, vi x3.2), (9, .own 54), (10, vi x4.2), (11, .own 62), (12, vi x5.2), (13, vl eS x6.1), (14, vi x6.2), (15, .own 75), (16, vs x7.2.1), (17, vs x7.2.2.1), (18, vl eSite x7.2.2.2.1), (19, vl eDescription x7.2.2.2.2), (20, .ref 20 0), (21, vi x8.2), (91, .own 75), (92, vs x7.2.1), (93, vs x7.2.2.1), (94, vl eSite x7.2.2.2.1), (95, vl eDescription x7.2.2.2.2)], [(20, .box (tc eAnswer x8.1)), (46, oa 59 3 eAnswer x3.1), (54, oa 59 3 eAnswer x4.1), (62, oa 9 1 eS x5.1), (75, oa 87 4 eCandidate x7.1)]⟩ ?_
  obtain ⟨x9, hx9, h⟩ := bind_some h
  refine SRun.ls (xc ents41 (spec_AnswerFor_run x7.1 x7.2.1 x7.2.2.1 x7.2.2.2.1 x7.2.2.2.2 _ hx9)) ?_
  refine ckn tbok 6 ⟨254, [(3, vl eCandidate x2.1), (7, .own 46), (8, vi x3.2), (9, .own 54), (10, vi x4.2), (11, .own 62), (12, vi x5.2), (13, vl eS x6.1), (14, vi x6.2), (15, .own 75), (16, vs x7.2.1), (17, vs x7.2.2.1), (18, vl eSite x7.2.2.2.1), (19, vl eDescription x7.2.2.2.2), (20, .ref 20 0), (21, vi x8.2), (22, .ref 22 0), (23, vi x9.2)], [(20, .box (tc eAnswer x8.1)), (22, .box (tc eAnswer x9.1)), (46, oa 59 3 eAnswer x3.1), (54, oa 59 3 eAnswer x4.1), (62, oa 9 1 eS x5.1), (75, oa 87 4 eCandidate x7.1)]⟩ ?_
  refine sr ?_
  refine SRun.ck tbok 5 ⟨254, [(3, vl eCandidate x2.1), (7, .own 46), (8, vi x3.2), (9, .own 54), (10, vi x4.2), (11, .own 62), (12, vi x5.2), (13, vl eS x6.1), (14, vi x6.2), (15, .own 75), (16, vs x7.2.1), (17, vs x7.2.2.1), (18, vl eSite x7.2.2.2.1), (19, vl eDescription x7.2.2.2.2), (20, .ref 20 0), (21, vi x8.2), (22, .ref 22 0), (23, vi x9.2), (100, .own 75), (101, vs x7.2.1), (102, vs x7.2.2.1), (103, vl eSite x7.2.2.2.1), (104, vl eDescription x7.2.2.2.2)], [(20, .box (tc eAnswer x8.1)), (22, .box (tc eAnswer x9.1)), (46, oa 59 3 eAnswer x3.1), (54, oa 59 3 eAnswer x4.1), (62, oa 9 1 eS x5.1), (75, oa 87 4 eCandidate x7.1)]⟩ ?_
  obtain ⟨x10, hx10, h⟩ := bind_some h
  refine SRun.ls (xc ents42 (impl_RankOf_run x7.1 x7.2.1 x7.2.2.1 x7.2.2.2.1 x7.2.2.2.2 _ hx10)) ?_
  refine ckn tbok 5 ⟨254, [(3, vl eCandidate x2.1), (7, .own 46), (8, vi x3.2), (9, .own 54), (10, vi x4.2), (11, .own 62), (12, vi x5.2), (13, vl eS x6.1), (14, vi x6.2), (15, .own 75), (16, vs x7.2.1), (17, vs x7.2.2.1), (18, vl eSite x7.2.2.2.1), (19, vl eDescription x7.2.2.2.2), (20, .ref 20 0), (21, vi x8.2), (22, .ref 22 0), (23, vi x9.2), (24, vi x10.1), (25, vi x10.2)], [(20, .box (tc eAnswer x8.1)), (22, .box (tc eAnswer x9.1)), (46, oa 59 3 eAnswer x3.1), (54, oa 59 3 eAnswer x4.1), (62, oa 9 1 eS x5.1), (75, oa 87 4 eCandidate x7.1)]⟩ ?_
  refine sr ?_
  refine SRun.ck tbok 5 ⟨254, [(3, vl eCandidate x2.1), (7, .own 46), (8, vi x3.2), (9, .own 54), (10, vi x4.2), (11, .own 62), (12, vi x5.2), (13, vl eS x6.1), (14, vi x6.2), (15, .own 75), (17, vs x7.2.2.1), (18, vl eSite x7.2.2.2.1), (19, vl eDescription x7.2.2.2.2), (20, .ref 20 0), (21, vi x8.2), (22, .ref 22 0), (23, vi x9.2), (24, vi x10.1), (25, vi x10.2), (109, .own 75), (110, vs x7.2.1), (111, vs x7.2.2.1), (112, vl eSite x7.2.2.2.1), (113, vl eDescription x7.2.2.2.2)], [(20, .box (tc eAnswer x8.1)), (22, .box (tc eAnswer x9.1)), (46, oa 59 3 eAnswer x3.1), (54, oa 59 3 eAnswer x4.1), (62, oa 9 1 eS x5.1), (75, oa 87 4 eCandidate x7.1)]⟩ ?_
  obtain ⟨x11, hx11, h⟩ := bind_some h
  refine SRun.ls (xc ents43 (spec_RankOf_run x7.1 x7.2.1 x7.2.2.1 x7.2.2.2.1 x7.2.2.2.2 _ hx11)) ?_
  refine ckn tbok 5 ⟨254, [(3, vl eCandidate x2.1), (7, .own 46), (8, vi x3.2), (9, .own 54), (10, vi x4.2), (11, .own 62), (12, vi x5.2), (13, vl eS x6.1), (14, vi x6.2), (15, .own 75), (17, vs x7.2.2.1), (18, vl eSite x7.2.2.2.1), (19, vl eDescription x7.2.2.2.2), (20, .ref 20 0), (21, vi x8.2), (22, .ref 22 0), (23, vi x9.2), (24, vi x10.1), (25, vi x10.2), (26, vi x11.1), (27, vi x11.2)], [(20, .box (tc eAnswer x8.1)), (22, .box (tc eAnswer x9.1)), (46, oa 59 3 eAnswer x3.1), (54, oa 59 3 eAnswer x4.1), (62, oa 9 1 eS x5.1), (75, oa 87 4 eCandidate x7.1)]⟩ ?_
  refine swp_seq ?_
  refine swp_seq ?_
  refine swp_regJ h (fun j16 => ⟨254, [(3, vl eCandidate x2.1), (7, .own 7), (8, vi x3.2), (11, .own 11), (15, .own 15), (17, vs x7.2.2.1), (18, vl eSite x7.2.2.2.1), (19, vl eDescription x7.2.2.2.2), (20, .ref 20 0), (21, vi x8.2), (24, vi x10.1), (173, vb j16)], [(20, .box (tc eAnswer x8.1)), (7, oa 59 3 eAnswer x3.1), (11, oa 9 1 eS x5.1), (15, oa 87 4 eCandidate x7.1)]⟩) (fun v17 h => ?_) (fun j16 h => ?_)
  refine SRun.ck tbok 4 ⟨254, [(3, vl eCandidate x2.1), (7, .own 46), (8, vi x3.2), (9, .own 54), (11, .own 62), (12, vi x5.2), (13, vl eS x6.1), (14, vi x6.2), (15, .own 75), (17, vs x7.2.2.1), (18, vl eSite x7.2.2.2.1), (19, vl eDescription x7.2.2.2.2), (20, .ref 20 0), (21, vi x8.2), (22, .ref 22 0), (23, vi x9.2), (24, vi x10.1), (25, vi x10.2), (26, vi x11.1), (27, vi x11.2), (120, vb (x3.2 != x4.2))], [(20, .box (tc eAnswer x8.1)), (22, .box (tc eAnswer x9.1)), (46, oa 59 3 eAnswer x3.1), (54, oa 59 3 eAnswer x4.1), (62, oa 9 1 eS x5.1), (75, oa 87 4 eCandidate x7.1)]⟩ ?_
  refine SRun.cu [(120, fun b => b)] h (fun h => ?_) fun h => ?_
  refine SRun.ck tbok 53 ⟨254, [(3, vl eCandidate x2.1), (7, .own 46), (8, vi x3.2), (11, .own 62), (15, .own 75), (17, vs x7.2.2.1), (18, vl eSite x7.2.2.2.1), (19, vl eDescription x7.2.2.2.2), (20, .ref 20 0), (21, vi x8.2), (24, vi x10.1), (173, vb true)], [(20, .box (tc eAnswer x8.1)), (46, oa 59 3 eAnswer x3.1), (62, oa 9 1 eS x5.1), (75, oa 87 4 eCandidate x7.1)]⟩ ?_
  refine SRun.nil ?_
  obtain rfl := inj h
  exact Le.rr [20, 46, 62, 75] [(46, 7), (62, 11), (75, 15)]
  refine SRun.ck tbok 2 ⟨254, [(3, vl eCandidate x2.1), (7, .own 46), (8, vi x3.2), (11, .own 62), (12, vi x5.2), (13, vl eS x6.1), (14, vi x6.2), (15, .own 75), (17, vs x7.2.2.1), (18, vl eSite x7.2.2.2.1), (19, vl eDescription x7.2.2.2.2), (20, .ref 20 0), (21, vi x8.2), (22, .ref 22 0), (23, vi x9.2), (24, vi x10.1), (25, vi x10.2), (26, vi x11.1), (27, vi x11.2), (120, vb false), (121, .own 46), (122, .own 54)], [(20, .box (tc eAnswer x8.1)), (22, .box (tc eAnswer x9.1)), (46, oa 59 3 eAnswer x3.1), (54, oa 59 3 eAnswer x4.1), (62, oa 9 1 eS x5.1), (75, oa 87 4 eCandidate x7.1)]⟩ ?_
  obtain ⟨x12, hx12, h⟩ := bind_some h
  refine SRun.ls (xc ents44 (laws_likeAnswers_run x3.1 x4.1 _ hx12)) ?_
  refine SRun.ck tbok 3 ⟨254, [(3, vl eCandidate x2.1), (7, .own 46), (8, vi x3.2), (11, .own 62), (12, vi x5.2), (13, vl eS x6.1), (14, vi x6.2), (15, .own 75), (17, vs x7.2.2.1), (18, vl eSite x7.2.2.2.1), (19, vl eDescription x7.2.2.2.2), (20, .ref 20 0), (21, vi x8.2), (22, .ref 22 0), (23, vi x9.2), (24, vi x10.1), (25, vi x10.2), (26, vi x11.1), (27, vi x11.2), (126, vb (!x12))], [(20, .box (tc eAnswer x8.1)), (22, .box (tc eAnswer x9.1)), (46, oa 59 3 eAnswer x3.1), (62, oa 9 1 eS x5.1), (75, oa 87 4 eCandidate x7.1)]⟩ ?_
  refine SRun.cu [(126, fun b => b)] h (fun h => ?_) fun h => ?_
  refine SRun.ck tbok 47 ⟨254, [(3, vl eCandidate x2.1), (7, .own 46), (8, vi x3.2), (11, .own 62), (15, .own 75), (17, vs x7.2.2.1), (18, vl eSite x7.2.2.2.1), (19, vl eDescription x7.2.2.2.2), (20, .ref 20 0), (21, vi x8.2), (24, vi x10.1), (173, vb true)], [(20, .box (tc eAnswer x8.1)), (46, oa 59 3 eAnswer x3.1), (62, oa 9 1 eS x5.1), (75, oa 87 4 eCandidate x7.1)]⟩ ?_
  refine SRun.nil ?_
  obtain rfl := inj h
  exact Le.rr [20, 46, 62, 75] [(46, 7), (62, 11), (75, 15)]
  refine SRun.ck tbok 5 ⟨254, [(3, vl eCandidate x2.1), (7, .own 46), (8, vi x3.2), (11, .own 62), (12, vi x5.2), (13, vl eS x6.1), (15, .own 75), (17, vs x7.2.2.1), (18, vl eSite x7.2.2.2.1), (19, vl eDescription x7.2.2.2.2), (20, .ref 20 0), (21, vi x8.2), (22, .ref 22 0), (23, vi x9.2), (24, vi x10.1), (25, vi x10.2), (26, vi x11.1), (27, vi x11.2), (131, vb (x5.2 != x6.2))], [(20, .box (tc eAnswer x8.1)), (22, .box (tc eAnswer x9.1)), (46, oa 59 3 eAnswer x3.1), (62, oa 9 1 eS x5.1), (75, oa 87 4 eCandidate x7.1)]⟩ ?_
  refine SRun.cu [(131, fun b => b)] h (fun h => ?_) fun h => ?_
  refine SRun.ck tbok 42 ⟨254, [(3, vl eCandidate x2.1), (7, .own 46), (8, vi x3.2), (11, .own 62), (15, .own 75), (17, vs x7.2.2.1), (18, vl eSite x7.2.2.2.1), (19, vl eDescription x7.2.2.2.2), (20, .ref 20 0), (21, vi x8.2), (24, vi x10.1), (173, vb true)], [(20, .box (tc eAnswer x8.1)), (46, oa 59 3 eAnswer x3.1), (62, oa 9 1 eS x5.1), (75, oa 87 4 eCandidate x7.1)]⟩ ?_
  refine SRun.nil ?_
  obtain rfl := inj h
  exact Le.rr [20, 46, 62, 75] [(46, 7), (62, 11), (75, 15)]
  refine SRun.ck tbok 2 ⟨254, [(3, vl eCandidate x2.1), (7, .own 46), (8, vi x3.2), (11, .own 62), (12, vi x5.2), (15, .own 75), (17, vs x7.2.2.1), (18, vl eSite x7.2.2.2.1), (19, vl eDescription x7.2.2.2.2), (20, .ref 20 0), (21, vi x8.2), (22, .ref 22 0), (23, vi x9.2), (24, vi x10.1), (25, vi x10.2), (26, vi x11.1), (27, vi x11.2), (131, vb false), (132, .own 62), (133, vl eS x6.1)], [(20, .box (tc eAnswer x8.1)), (22, .box (tc eAnswer x9.1)), (46, oa 59 3 eAnswer x3.1), (62, oa 9 1 eS x5.1), (75, oa 87 4 eCandidate x7.1)]⟩ ?_
  obtain ⟨x13, hx13, h⟩ := bind_some h
  refine SRun.ls (xc ents34 (laws_likeTexts_run x5.1 x6.1 _ hx13)) ?_
  refine SRun.ck tbok 3 ⟨254, [(3, vl eCandidate x2.1), (7, .own 46), (8, vi x3.2), (11, .own 62), (12, vi x5.2), (15, .own 75), (17, vs x7.2.2.1), (18, vl eSite x7.2.2.2.1), (19, vl eDescription x7.2.2.2.2), (20, .ref 20 0), (21, vi x8.2), (22, .ref 22 0), (23, vi x9.2), (24, vi x10.1), (25, vi x10.2), (26, vi x11.1), (27, vi x11.2), (137, vb (!x13))], [(20, .box (tc eAnswer x8.1)), (22, .box (tc eAnswer x9.1)), (46, oa 59 3 eAnswer x3.1), (62, oa 9 1 eS x5.1), (75, oa 87 4 eCandidate x7.1)]⟩ ?_
  refine SRun.cu [(137, fun b => b)] h (fun h => ?_) fun h => ?_
  refine SRun.ck tbok 36 ⟨254, [(3, vl eCandidate x2.1), (7, .own 46), (8, vi x3.2), (11, .own 62), (15, .own 75), (17, vs x7.2.2.1), (18, vl eSite x7.2.2.2.1), (19, vl eDescription x7.2.2.2.2), (20, .ref 20 0), (21, vi x8.2), (24, vi x10.1), (173, vb true)], [(20, .box (tc eAnswer x8.1)), (46, oa 59 3 eAnswer x3.1), (62, oa 9 1 eS x5.1), (75, oa 87 4 eCandidate x7.1)]⟩ ?_
  refine SRun.nil ?_
  obtain rfl := inj h
  exact Le.rr [20, 46, 62, 75] [(46, 7), (62, 11), (75, 15)]
  refine SRun.ck tbok 5 ⟨254, [(3, vl eCandidate x2.1), (7, .own 46), (8, vi x3.2), (11, .own 62), (12, vi x5.2), (15, .own 75), (17, vs x7.2.2.1), (18, vl eSite x7.2.2.2.1), (19, vl eDescription x7.2.2.2.2), (20, .ref 20 0), (21, vi x8.2), (22, .ref 22 0), (24, vi x10.1), (25, vi x10.2), (26, vi x11.1), (27, vi x11.2), (142, vb (x8.2 != x9.2))], [(20, .box (tc eAnswer x8.1)), (22, .box (tc eAnswer x9.1)), (46, oa 59 3 eAnswer x3.1), (62, oa 9 1 eS x5.1), (75, oa 87 4 eCandidate x7.1)]⟩ ?_
  refine SRun.cu [(142, fun b => b)] h (fun h => ?_) fun h => ?_
  refine SRun.ck tbok 31 ⟨254, [(3, vl eCandidate x2.1), (7, .own 46), (8, vi x3.2), (11, .own 62), (15, .own 75), (17, vs x7.2.2.1), (18, vl eSite x7.2.2.2.1), (19, vl eDescription x7.2.2.2.2), (20, .ref 20 0), (21, vi x8.2), (24, vi x10.1), (173, vb true)], [(20, .box (tc eAnswer x8.1)), (46, oa 59 3 eAnswer x3.1), (62, oa 9 1 eS x5.1), (75, oa 87 4 eCandidate x7.1)]⟩ ?_
  refine SRun.nil ?_
  obtain rfl := inj h
  exact Le.rr [20, 46, 62, 75] [(46, 7), (62, 11), (75, 15)]
  refine SRun.ck tbok 2 ⟨254, [(3, vl eCandidate x2.1), (7, .own 46), (8, vi x3.2), (11, .own 62), (12, vi x5.2), (15, .own 75), (17, vs x7.2.2.1), (18, vl eSite x7.2.2.2.1), (19, vl eDescription x7.2.2.2.2), (20, .ref 20 0), (21, vi x8.2), (24, vi x10.1), (25, vi x10.2), (26, vi x11.1), (27, vi x11.2), (142, vb false), (143, .agg (tc eAnswer x8.1)), (144, .agg (tc eAnswer x9.1))], [(20, .box (tc eAnswer x8.1)), (46, oa 59 3 eAnswer x3.1), (62, oa 9 1 eS x5.1), (75, oa 87 4 eCandidate x7.1)]⟩ ?_
  refine SRun.ls (x_lstep_eq tbok true (xs := [vs x8.1.Code, vi x8.1.Distance, vi x8.1.Satisfied]) (ys := [vs x9.1.Code, vi x9.1.Distance, vi x9.1.Satisfied]) (b := ((x8.1.Code.toList == x9.1.Code.toList) && ((x8.1.Distance == x9.1.Distance) && (x8.1.Satisfied == x9.1.Satisfied)))) rfl) ?_
  refine SRun.ck tbok 2 ⟨254, [(3, vl eCandidate x2.1), (7, .own 46), (8, vi x3.2), (11, .own 62), (12, vi x5.2), (15, .own 75), (17, vs x7.2.2.1), (18, vl eSite x7.2.2.2.1), (19, vl eDescription x7.2.2.2.2), (20, .ref 20 0), (21, vi x8.2), (24, vi x10.1), (25, vi x10.2), (26, vi x11.1), (27, vi x11.2), (147, vb (!((x8.1.Code.toList == x9.1.Code.toList) && ((x8.1.Distance == x9.1.Distance) && (x8.1.Satisfied == x9.1.Satisfied)))))], [(20, .box (tc eAnswer x8.1)), (46, oa 59 3 eAnswer x3.1), (62, oa 9 1 eS x5.1), (75, oa 87 4 eCandidate x7.1)]⟩ ?_
  refine SRun.cu [(147, fun b => b)] h (fun h => ?_) fun h => ?_
  refine SRun.ck tbok 26 ⟨254, [(3, vl eCandidate x2.1), (7, .own 46), (8, vi x3.2), (11, .own 62), (15, .own 75), (17, vs x7.2.2.1), (18, vl eSite x7.2.2.2.1), (19, vl eDescription x7.2.2.2.2), (20, .ref 20 0), (21, vi x8.2), (24, vi x10.1), (173, vb true)], [(20, .box (tc eAnswer x8.1)), (46, oa 59 3 eAnswer x3.1), (62, oa 9 1 eS x5.1), (75, oa 87 4 eCandidate x7.1)]⟩ ?_
  refine SRun.nil ?_
  obtain rfl := inj h
  exact Le.rr [20, 46, 62, 75] [(46, 7), (62, 11), (75, 15)]
  refine SRun.ck tbok 5 ⟨254, [(3, vl eCandidate x2.1), (7, .own 46), (8, vi x3.2), (11, .own 62), (12, vi x5.2), (15, .own 75), (17, vs x7.2.2.1), (18, vl eSite x7.2.2.2.1), (19, vl eDescription x7.2.2.2.2), (20, .ref 20 0), (21, vi x8.2), (24, vi x10.1), (25, vi x10.2), (26, vi x11.1), (152, vb (x10.2 != x11.2))], [(20, .box (tc eAnswer x8.1)), (46, oa 59 3 eAnswer x3.1), (62, oa 9 1 eS x5.1), (75, oa 87 4 eCandidate x7.1)]⟩ ?_
  refine SRun.cu [(152, fun b => b)] h (fun h => ?_) fun h => ?_
  refine SRun.ck tbok 21 ⟨254, [(3, vl eCandidate x2.1), (7, .own 46), (8, vi x3.2), (11, .own 62), (15, .own 75), (17, vs x7.2.2.1), (18, vl eSite x7.2.2.2.1), (19, vl eDescription x7.2.2.2.2), (20, .ref 20 0), (21, vi x8.2), (24, vi x10.1), (173, vb true)], [(20, .box (tc eAnswer x8.1)), (46, oa 59 3 eAnswer x3.1), (62, oa 9 1 eS x5.1), (75, oa 87 4 eCandidate x7.1)]⟩ ?_
  refine SRun.nil ?_
  obtain rfl := inj h
  exact Le.rr [20, 46, 62, 75] [(46, 7), (62, 11), (75, 15)]
  refine SRun.ck tbok 5 ⟨254, [(3, vl eCandidate x2.1), (7, .own 46), (8, vi x3.2), (11, .own 62), (12, vi x5.2), (15, .own 75), (17, vs x7.2.2.1), (18, vl eSite x7.2.2.2.1), (19, vl eDescription x7.2.2.2.2), (20, .ref 20 0), (21, vi x8.2), (24, vi x10.1), (25, vi x10.2), (157, vb (x10.1 != x11.1))], [(20, .box (tc eAnswer x8.1)), (46, oa 59 3 eAnswer x3.1), (62, oa 9 1 eS x5.1), (75, oa 87 4 eCandidate x7.1)]⟩ ?_
  refine SRun.cu [(157, fun b => b)] h (fun h => ?_) fun h => ?_
  refine SRun.ck tbok 16 ⟨254, [(3, vl eCandidate x2.1), (7, .own 46), (8, vi x3.2), (11, .own 62), (15, .own 75), (17, vs x7.2.2.1), (18, vl eSite x7.2.2.2.1), (19, vl eDescription x7.2.2.2.2), (20, .ref 20 0), (21, vi x8.2), (24, vi x10.1), (173, vb true)], [(20, .box (tc eAnswer x8.1)), (46, oa 59 3 eAnswer x3.1), (62, oa 9 1 eS x5.1), (75, oa 87 4 eCandidate x7.1)]⟩ ?_
  refine SRun.nil ?_
  obtain rfl := inj h
  exact Le.rr [20, 46, 62, 75] [(46, 7), (62, 11), (75, 15)]
  refine SRun.ck tbok 5 ⟨254, [(3, vl eCandidate x2.1), (7, .own 46), (8, vi x3.2), (11, .own 62), (15, .own 75), (17, vs x7.2.2.1), (18, vl eSite x7.2.2.2.1), (19, vl eDescription x7.2.2.2.2), (20, .ref 20 0), (21, vi x8.2), (24, vi x10.1), (25, vi x10.2), (162, vb (x5.2 != x3.2))], [(20, .box (tc eAnswer x8.1)), (46, oa 59 3 eAnswer x3.1), (62, oa 9 1 eS x5.1), (75, oa 87 4 eCandidate x7.1)]⟩ ?_
  refine SRun.cu [(162, fun b => b)] h (fun h => ?_) fun h => ?_
  refine SRun.ck tbok 11 ⟨254, [(3, vl eCandidate x2.1), (7, .own 46), (8, vi x3.2), (11, .own 62), (15, .own 75), (17, vs x7.2.2.1), (18, vl eSite x7.2.2.2.1), (19, vl eDescription x7.2.2.2.2), (20, .ref 20 0), (21, vi x8.2), (24, vi x10.1), (173, vb true)], [(20, .box (tc eAnswer x8.1)), (46, oa 59 3 eAnswer x3.1), (62, oa 9 1 eS x5.1), (75, oa 87 4 eCandidate x7.1)]⟩ ?_
  refine SRun.nil ?_
  obtain rfl := inj h
  exact Le.rr [20, 46, 62, 75] [(46, 7), (62, 11), (75, 15)]
  refine SRun.ck tbok 5 ⟨254, [(3, vl eCandidate x2.1), (7, .own 46), (8, vi x3.2), (11, .own 62), (15, .own 75), (17, vs x7.2.2.1), (18, vl eSite x7.2.2.2.1), (19, vl eDescription x7.2.2.2.2), (20, .ref 20 0), (21, vi x8.2), (24, vi x10.1), (167, vb (x10.2 != x8.2))], [(20, .box (tc eAnswer x8.1)), (46, oa 59 3 eAnswer x3.1), (62, oa 9 1 eS x5.1), (75, oa 87 4 eCandidate x7.1)]⟩ ?_
  refine SRun.cu [(167, fun b => b)] h (fun h => ?_) fun h => ?_
  refine SRun.ck tbok 6 ⟨254, [(3, vl eCandidate x2.1), (7, .own 46), (8, vi x3.2), (11, .own 62), (15, .own 75), (17, vs x7.2.2.1), (18, vl eSite x7.2.2.2.1), (19, vl eDescription x7.2.2.2.2), (20, .ref 20 0), (21, vi x8.2), (24, vi x10.1), (173, vb true)], [(20, .box (tc eAnswer x8.1)), (46, oa 59 3 eAnswer x3.1), (62, oa 9 1 eS x5.1), (75, oa 87 4 eCandidate x7.1)]⟩ ?_
  refine SRun.nil ?_
  obtain rfl := inj h
  exact Le.rr [20, 46, 62, 75] [(46, 7), (62, 11), (75, 15)]
  refine SRun.ck tbok 1 ⟨254, [(3, vl eCandidate x2.1), (7, .own 46), (8, vi x3.2), (11, .own 62), (15, .own 75), (17, vs x7.2.2.1), (18, vl eSite x7.2.2.2.1), (19, vl eDescription x7.2.2.2.2), (20, .ref 20 0), (21, vi x8.2), (24, vi x10.1), (167, vb false), (168, .own 75)], [(20, .box (tc eAnswer x8.1)), (46, oa 59 3 eAnswer x3.1), (62, oa 9 1 eS x5.1), (75, oa 87 4 eCandidate x7.1)]⟩ ?_
  obtain ⟨x14, hx14, h⟩ := bind_some h
  refine SRun.ls (xc ents45 (impl_AreCandidates_run x7.1 _ hx14)) ?_
  refine SRun.ck tbok 1 ⟨254, [(3, vl eCandidate x2.1), (7, .own 46), (8, vi x3.2), (11, .own 62), (15, .own 75), (17, vs x7.2.2.1), (18, vl eSite x7.2.2.2.1), (19, vl eDescription x7.2.2.2.2), (20, .ref 20 0), (21, vi x8.2), (24, vi x10.1), (167, vb false), (169, vb x14), (170, .own 75)], [(20, .box (tc eAnswer x8.1)), (46, oa 59 3 eAnswer x3.1), (62, oa 9 1 eS x5.1), (75, oa 87 4 eCandidate x7.1)]⟩ ?_
  obtain ⟨x15, hx15, h⟩ := bind_some h
  refine SRun.ls (xc ents46 (spec_AreCandidates_run x7.1 _ hx15)) ?_
  refine SRun.ls (x_lstep_eqb tbok (ti := ti4) (i := x14) (j := x15) true rfl) ?_
  refine SRun.ck tbok 1 ⟨254, [(3, vl eCandidate x2.1), (7, .own 46), (8, vi x3.2), (11, .own 62), (15, .own 75), (17, vs x7.2.2.1), (18, vl eSite x7.2.2.2.1), (19, vl eDescription x7.2.2.2.2), (20, .ref 20 0), (21, vi x8.2), (24, vi x10.1), (173, vb (!(x14 == x15)))], [(20, .box (tc eAnswer x8.1)), (46, oa 59 3 eAnswer x3.1), (62, oa 9 1 eS x5.1), (75, oa 87 4 eCandidate x7.1)]⟩ ?_
  refine SRun.nil ?_
  obtain rfl := inj h
  exact Le.rr [20, 46, 62, 75] [(46, 7), (62, 11), (75, 15)]
  refine swp_cd h (fun h => ?_) fun h => ?_
  refine srk tbok ⟨254, [(2, vb false)], []⟩ ?_
  refine swp_ret ?_
  obtain rfl := inj h
  exact nx_r (q_fr (f1 fv))
  refine swp_skip ?_
  refine nx_n ?_
  refine swp_seq ?_
  refine srk tbok ⟨254, [(3, vl eCandidate x2.1), (7, .own 7), (8, vi x3.2), (11, .own 11), (15, .own 15), (17, vs x7.2.2.1), (18, vl eSite x7.2.2.2.1), (19, vl eDescription x7.2.2.2.2), (20, .ref 20 0), (24, vi x10.1), (175, vb (x8.2 == 0))], [(7, oa 59 3 eAnswer x3.1), (11, oa 9 1 eS x5.1), (15, oa 87 4 eCandidate x7.1), (20, .box (tc eAnswer x8.1))]⟩ ?_
  refine swp_seqE (r := r) h (fun j18 => ⟨254, [(3, vl eCandidate x2.1), (7, .own 7), (8, vi x3.2), (11, .own 11)], [(7, oa 59 3 eAnswer x3.1), (11, oa 9 1 eS x5.1)]⟩) (fun v19 h => ?_) (fun j18 h => ?_)
  refine swp_cd h (fun h => ?_) fun h => ?_
  refine sr ?_
  refine SRun.ck tbok 4 ⟨254, [(3, vl eCandidate x2.1), (7, .own 7), (8, vi x3.2), (11, .own 11), (20, .ref 20 0), (24, vi x10.1), (177, .own 15), (178, vs x7.2.2.1), (179, vl eSite x7.2.2.2.1), (180, vl eDescription x7.2.2.2.2)], [(7, oa 59 3 eAnswer x3.1), (11, oa 9 1 eS x5.1), (15, oa 87 4 eCandidate x7.1), (20, .box (tc eAnswer x8.1))]⟩ ?_
  obtain ⟨x20, hx20, h⟩ := bind_some h
  refine SRun.ls (xc ents38 (impl_AnswersOf_run x7.1 x7.2.2.1 x7.2.2.2.1 x7.2.2.2.2 _ hx20)) ?_
  refine ckn tbok 5 ⟨254, [(3, vl eCandidate x2.1), (7, .own 7), (8, vi x3.2), (11, .own 11), (20, .ref 20 0), (24, vi x10.1), (28, .own 181), (29, vi x20.2)], [(7, oa 59 3 eAnswer x3.1), (11, oa 9 1 eS x5.1), (20, .box (tc eAnswer x8.1)), (181, oa 59 3 eAnswer x20.1)]⟩ ?_
  refine swp_seq ?_
  refine swp_drJ mixed h (fun j22 => ⟨254, [(3, vl eCandidate x2.1), (7, .own 7), (8, vi x3.2), (11, .own 11), (193, vb j22)], [(7, oa 59 3 eAnswer x3.1), (11, oa 9 1 eS x5.1)]⟩) (fun v23 h => ?_) (fun j22 h => ?_)
  refine DGo.ck tbok false 3 ⟨254, [(3, vl eCandidate x2.1), (7, .own 7), (8, vi x3.2), (11, .own 11), (20, .ref 20 0), (24, vi x10.1), (28, .own 181), (186, vb (x20.2 != 0))], [(7, oa 59 3 eAnswer x3.1), (11, oa 9 1 eS x5.1), (20, .box (tc eAnswer x8.1)), (181, oa 59 3 eAnswer x20.1)]⟩ ?_
  refine DGo.cu [(186, fun b => b)] h (fun h => ?_) fun h => ?_
  refine DGo.ck tbok false 7 ⟨254, [(3, vl eCandidate x2.1), (7, .own 7), (8, vi x3.2), (11, .own 11), (193, vb true)], [(7, oa 59 3 eAnswer x3.1), (11, oa 9 1 eS x5.1)]⟩ ?_
  refine DGo.nil (by kernel_rfl) ?_
  obtain rfl := inj h
  exact Le.sub0
  refine DGo.ck tbok false 2 ⟨254, [(3, vl eCandidate x2.1), (7, .own 7), (8, vi x3.2), (11, .own 11), (20, .ref 20 0), (186, vb false), (187, .own 181), (188, vi x10.1)], [(7, oa 59 3 eAnswer x3.1), (11, oa 9 1 eS x5.1), (20, .box (tc eAnswer x8.1)), (181, oa 59 3 eAnswer x20.1)]⟩ ?_
  obtain ⟨x21, hx21, h⟩ := bind_some h
  refine DGo.step (x_index_own (d := 181) (L := x20.1) (f := eAnswer) (ti := ti62) (tj := ti59) (e := 59) (e' := 59) (m := 3) (k := .i64) tbok rfl hx21) ?_
  refine DGo.step (x_load_own (d := 181) (m := 3) (j := 0) (L := x20.1) (f := eAnswer) (ti := ti59) (e := 59) (v := .agg (tc eAnswer x21)) tbok rfl hx21) ?_
  refine DGo.ck tbok false 1 ⟨254, [(3, vl eCandidate x2.1), (7, .own 7), (8, vi x3.2), (11, .own 11), (186, vb false), (190, .agg (tc eAnswer x21)), (191, .agg (tc eAnswer x8.1))], [(7, oa 59 3 eAnswer x3.1), (11, oa 9 1 eS x5.1)]⟩ ?_
  refine DGo.step (x_lstep_eq tbok true (xs := [vs x21.Code, vi x21.Distance, vi x21.Satisfied]) (ys := [vs x8.1.Code, vi x8.1.Distance, vi x8.1.Satisfied]) (b := ((x21.Code.toList == x8.1.Code.toList) && ((x21.Distance == x8.1.Distance) && (x21.Satisfied == x8.1.Satisfied)))) rfl) ?_
  refine DGo.ck tbok false 1 ⟨254, [(3, vl eCandidate x2.1), (7, .own 7), (8, vi x3.2), (11, .own 11), (193, vb (!((x21.Code.toList == x8.1.Code.toList) && ((x21.Distance == x8.1.Distance) && (x21.Satisfied == x8.1.Satisfied)))))], [(7, oa 59 3 eAnswer x3.1), (11, oa 9 1 eS x5.1)]⟩ ?_
  refine DGo.nil (by kernel_rfl) ?_
  obtain rfl := inj h
  exact Le.sub0
  refine swp_cd h (fun h => ?_) fun h => ?_
  refine srk tbok ⟨254, [(2, vb false)], []⟩ ?_
  refine swp_ret ?_
  obtain rfl := inj h
  exact q_rr (q_fr (f1 fv))
  refine swp_skip ?_
  obtain rfl := inj h
  exact q_l (Le.sub0)
  refine swp_skip ?_
  obtain rfl := inj h
  exact q_l (Le.sub0)
  refine swp_seq ?_
  refine srk tbok ⟨254, [(3, vl eCandidate x2.1), (7, .own 7), (11, .own 11), (195, vb (x3.2 != 0))], [(7, oa 59 3 eAnswer x3.1), (11, oa 9 1 eS x5.1)]⟩ ?_
  refine swp_cd h (fun h => ?_) fun h => ?_
  refine srk tbok ⟨254, [(2, vb true)], []⟩ ?_
  refine swp_ret ?_
  obtain rfl := inj h
  exact nx_r (q_fr (f1 fv))
  refine swp_skip ?_
  refine nx_n ?_
  refine swp_seq ?_
  refine srk tbok ⟨254, [(3, vl eCandidate x2.1), (7, .own 7), (11, .own 11), (30, vi 0)], [(7, oa 59 3 eAnswer x3.1), (11, oa 9 1 eS x5.1)]⟩ ?_
  refine swp_seqE (r := r) h (fun j24 => ⟨254, [(3, vl eCandidate x2.1), (7, .own 7)], [(7, oa 59 3 eAnswer x3.1)]⟩) (fun v25 h => ?_) (fun j24 h => ?_)
  refine swp_blk (a := v25) ?_
  refine swp_lpL (r := v25) (s := (0, ())) _ (fun s26 => ⟨254, [(3, vl eCandidate x2.1), (7, .own 7), (11, .own 11), (30, vi s26.1)], [(7, oa 59 3 eAnswer x3.1), (11, oa 9 1 eS x5.1)]⟩) _ (Le.sub0) h (fun s26 v27 h => ?_)
  refine swp_seq ?_
  refine srk tbok ⟨254, [(3, vl eCandidate x2.1), (7, .own 7), (11, .own 11), (30, vi s26.1), (199, vb (decide (s26.1 < (x5.1.length : Int))))], [(7, oa 59 3 eAnswer x3.1), (11, oa 9 1 eS x5.1)]⟩ ?_
  refine swp_cd h (fun h => ?_) fun h => ?_
  refine swp_skip ?_
  refine nx_n ?_
  refine swp_seq ?_
  refine swp_seqL (r := v27) h (fun j28 => ⟨254, [(3, vl eCandidate x2.1), (7, .own 7), (11, .own 11), (30, vi s26.1)], [(7, oa 59 3 eAnswer x3.1), (11, oa 9 1 eS x5.1)]⟩) (fun v29 h => ?_) (fun j28 h => ?_)
  refine swp_blk (a := v29) ?_
  refine swp_seq ?_
  refine swp_regJ h (fun j32 => ⟨254, [(3, vl eCandidate x2.1), (7, .own 7), (11, .own 11), (30, vi s26.1), (215, vb j32)], [(7, oa 59 3 eAnswer x3.1), (11, oa 9 1 eS x5.1)]⟩) (fun v33 h => ?_) (fun j32 h => ?_)
  refine SRun.ck tbok 5 ⟨254, [(3, vl eCandidate x2.1), (7, .own 7), (11, .own 11), (30, vi s26.1), (206, vb (decide (s26.1 ≥ (x3.1.length : Int))))], [(7, oa 59 3 eAnswer x3.1), (11, oa 9 1 eS x5.1)]⟩ ?_
  refine SRun.cu [(206, fun b => b)] h (fun h => ?_) fun h => ?_
  refine SRun.ck tbok 9 ⟨254, [(3, vl eCandidate x2.1), (7, .own 7), (11, .own 11), (30, vi s26.1), (215, vb true)], [(7, oa 59 3 eAnswer x3.1), (11, oa 9 1 eS x5.1)]⟩ ?_
  refine SRun.nil ?_
  obtain rfl := inj h
  exact Le.sub0
  refine SRun.ck tbok 3 ⟨254, [(3, vl eCandidate x2.1), (7, .own 7), (11, .own 11), (30, vi s26.1), (206, vb false), (207, .own 11), (208, .own 7), (209, vi s26.1)], [(7, oa 59 3 eAnswer x3.1), (11, oa 9 1 eS x5.1)]⟩ ?_
  obtain ⟨x30, hx30, h⟩ := bind_some h
  refine SRun.ls (x_index_own (d := 7) (L := x3.1) (f := eAnswer) (ti := ti62) (tj := ti59) (e := 59) (e' := 59) (m := 3) (k := .i64) tbok rfl hx30) ?_
  refine SRun.ck tbok 1 ⟨254, [(3, vl eCandidate x2.1), (7, .own 7), (11, .own 11), (30, vi s26.1), (206, vb false), (207, .own 11), (211, .eref 7 3 (Int.toNat s26.1) 0)], [(7, oa 59 3 eAnswer x3.1), (11, oa 9 1 eS x5.1)]⟩ ?_
  refine SRun.ls (x_load_own (d := 7) (m := 3) (j := 0) (L := x3.1) (f := eAnswer) (ti := ti9) (e := 59) (v := vs x30.Code) tbok rfl hx30) ?_
  obtain ⟨x31, hx31, h⟩ := bind_some h
  refine SRun.ls (xc ents47 (laws_hasText_run x5.1 x30.Code _ hx31)) ?_
  refine SRun.ck tbok 2 ⟨254, [(3, vl eCandidate x2.1), (7, .own 7), (11, .own 11), (30, vi s26.1), (215, vb (!x31))], [(7, oa 59 3 eAnswer x3.1), (11, oa 9 1 eS x5.1)]⟩ ?_
  refine SRun.nil ?_
  obtain rfl := inj h
  exact Le.sub0
  refine swp_cd h (fun h => ?_) fun h => ?_
  refine srk tbok ⟨254, [(2, vb false)], []⟩ ?_
  refine swp_ret ?_
  obtain rfl := inj h
  exact q_br (q_rr (q_rr (q_br (q_rr (q_fr (f1 fv))))))
  refine swp_skip ?_
  obtain rfl := inj h
  exact q_bn (q_l (Le.sub0))
  refine swp_reg ?_
  refine SRun.ck tbok 3 ⟨254, [(3, vl eCandidate x2.1), (7, .own 7), (11, .own 11), (30, vi (w64 (s26.1 + 1)))], [(7, oa 59 3 eAnswer x3.1), (11, oa 9 1 eS x5.1)]⟩ ?_
  refine SRun.nil ?_
  obtain rfl := inj h
  exact q_l (Le.sub0)
  refine swp_exit ?_
  obtain rfl := inj h
  exact nx_e (q_re (q_bh (q_l (Le.sub0))))
  refine swp_seq ?_
  refine srk tbok ⟨254, [(3, vl eCandidate x2.1), (7, .own 7), (31, vi 1)], [(7, oa 59 3 eAnswer x3.1)]⟩ ?_
  refine swp_seqE (r := r) h (fun j34 => ⟨254, [(3, vl eCandidate x2.1), (7, .own 7)], [(7, oa 59 3 eAnswer x3.1)]⟩) (fun v35 h => ?_) (fun j34 h => ?_)
  refine swp_blk (a := v35) ?_
  refine swp_lpL (r := v35) (s := (1, ())) _ (fun s36 => ⟨254, [(3, vl eCandidate x2.1), (7, .own 7), (31, vi s36.1)], [(7, oa 59 3 eAnswer x3.1)]⟩) _ (Le.sub0) h (fun s36 v37 h => ?_)
  refine swp_seq ?_
  refine srk tbok ⟨254, [(3, vl eCandidate x2.1), (7, .own 7), (31, vi s36.1), (219, vb (decide (s36.1 < (x3.1.length : Int))))], [(7, oa 59 3 eAnswer x3.1)]⟩ ?_
  refine swp_cd h (fun h => ?_) fun h => ?_
  refine swp_skip ?_
  refine nx_n ?_
  refine swp_seq ?_
  refine swp_seqL (r := v37) h (fun j38 => ⟨254, [(3, vl eCandidate x2.1), (7, .own 7), (31, vi s36.1)], [(7, oa 59 3 eAnswer x3.1)]⟩) (fun v39 h => ?_) (fun j38 h => ?_)
  refine swp_blk (a := v39) ?_
  refine swp_seq ?_
  refine swp_dr mixed ?_
  refine DGo.ck tbok false 3 ⟨254, [(3, vl eCandidate x2.1), (7, .own 7), (31, vi s36.1), (222, .own 7), (224, vi (w64 (s36.1 - 1)))], [(7, oa 59 3 eAnswer x3.1)]⟩ ?_
  obtain ⟨x40, hx40, h⟩ := bind_some h
  refine DGo.step (x_index_own (d := 7) (L := x3.1) (f := eAnswer) (ti := ti62) (tj := ti59) (e := 59) (e' := 59) (m := 3) (k := .i64) tbok rfl hx40) ?_
  refine DGo.ck tbok false 1 ⟨254, [(3, vl eCandidate x2.1), (7, .own 7), (31, vi s36.1), (226, .eref 7 3 (Int.toNat (w64 (s36.1 - 1))) 2)], [(7, oa 59 3 eAnswer x3.1)]⟩ ?_
  refine DGo.step (x_load_own (d := 7) (m := 3) (j := 2) (L := x3.1) (f := eAnswer) (ti := ti2) (e := 59) (v := vi x40.Satisfied) tbok rfl hx40) ?_
  refine DGo.ck tbok false 4 ⟨254, [(3, vl eCandidate x2.1), (7, .own 7), (31, vi s36.1), (228, vi (w64 (10 * x40.Satisfied))), (229, .own 7), (231, vi (w64 (s36.1 - 1)))], [(7, oa 59 3 eAnswer x3.1)]⟩ ?_
  obtain ⟨x41, hx41, h⟩ := bind_some h
  refine DGo.step (x_index_own (d := 7) (L := x3.1) (f := eAnswer) (ti := ti62) (tj := ti59) (e := 59) (e' := 59) (m := 3) (k := .i64) tbok rfl hx41) ?_
  refine DGo.ck tbok false 1 ⟨254, [(3, vl eCandidate x2.1), (7, .own 7), (31, vi s36.1), (228, vi (w64 (10 * x40.Satisfied))), (233, .eref 7 3 (Int.toNat (w64 (s36.1 - 1))) 1)], [(7, oa 59 3 eAnswer x3.1)]⟩ ?_
  refine DGo.step (x_load_own (d := 7) (m := 3) (j := 1) (L := x3.1) (f := eAnswer) (ti := ti2) (e := 59) (v := vi x41.Distance) tbok rfl hx41) ?_
  refine DGo.ck tbok false 3 ⟨254, [(3, vl eCandidate x2.1), (7, .own 7), (31, vi s36.1), (235, vi (w64 ((w64 (10 * x40.Satisfied)) - x41.Distance))), (236, .own 7), (237, vi s36.1)], [(7, oa 59 3 eAnswer x3.1)]⟩ ?_
  obtain ⟨x42, hx42, h⟩ := bind_some h
  refine DGo.step (x_index_own (d := 7) (L := x3.1) (f := eAnswer) (ti := ti62) (tj := ti59) (e := 59) (e' := 59) (m := 3) (k := .i64) tbok rfl hx42) ?_
  refine DGo.ck tbok false 1 ⟨254, [(3, vl eCandidate x2.1), (7, .own 7), (31, vi s36.1), (235, vi (w64 ((w64 (10 * x40.Satisfied)) - x41.Distance))), (239, .eref 7 3 (Int.toNat s36.1) 2)], [(7, oa 59 3 eAnswer x3.1)]⟩ ?_
  refine DGo.step (x_load_own (d := 7) (m := 3) (j := 2) (L := x3.1) (f := eAnswer) (ti := ti2) (e := 59) (v := vi x42.Satisfied) tbok rfl hx42) ?_
  refine DGo.ck tbok false 3 ⟨254, [(3, vl eCandidate x2.1), (7, .own 7), (31, vi s36.1), (235, vi (w64 ((w64 (10 * x40.Satisfied)) - x41.Distance))), (241, vi (w64 (10 * x42.Satisfied))), (242, .own 7), (243, vi s36.1)], [(7, oa 59 3 eAnswer x3.1)]⟩ ?_
  obtain ⟨x43, hx43, h⟩ := bind_some h
  refine DGo.step (x_index_own (d := 7) (L := x3.1) (f := eAnswer) (ti := ti62) (tj := ti59) (e := 59) (e' := 59) (m := 3) (k := .i64) tbok rfl hx43) ?_
  refine DGo.ck tbok false 1 ⟨254, [(3, vl eCandidate x2.1), (7, .own 7), (31, vi s36.1), (235, vi (w64 ((w64 (10 * x40.Satisfied)) - x41.Distance))), (241, vi (w64 (10 * x42.Satisfied))), (245, .eref 7 3 (Int.toNat s36.1) 1)], [(7, oa 59 3 eAnswer x3.1)]⟩ ?_
  refine DGo.step (x_load_own (d := 7) (m := 3) (j := 1) (L := x3.1) (f := eAnswer) (ti := ti2) (e := 59) (v := vi x43.Distance) tbok rfl hx43) ?_
  refine DGo.ck tbok false 2 ⟨254, [(3, vl eCandidate x2.1), (7, .own 7), (31, vi s36.1), (248, vb (decide ((w64 ((w64 (10 * x40.Satisfied)) - x41.Distance)) < (w64 ((w64 (10 * x42.Satisfied)) - x43.Distance)))))], [(7, oa 59 3 eAnswer x3.1)]⟩ ?_
  refine DGo.nx ?_
  refine swp_cd h (fun h => ?_) fun h => ?_
  refine srk tbok ⟨254, [(2, vb false)], []⟩ ?_
  refine swp_ret ?_
  obtain rfl := inj h
  exact q_br (q_rr (q_rr (q_br (q_rr (q_fr (f1 fv))))))
  refine swp_skip ?_
  obtain rfl := inj h
  exact q_bn (q_l (Le.sub0))
  refine swp_reg ?_
  refine SRun.ck tbok 3 ⟨254, [(3, vl eCandidate x2.1), (7, .own 7), (31, vi (w64 (s36.1 + 1)))], [(7, oa 59 3 eAnswer x3.1)]⟩ ?_
  refine SRun.nil ?_
  obtain rfl := inj h
  exact q_l (Le.sub0)
  refine swp_exit ?_
  obtain rfl := inj h
  exact nx_e (q_re (q_bh (q_l (Le.sub0))))
  refine srk tbok ⟨254, [(2, vb ((x3.1.length : Int) == (x2.1.length : Int)))], []⟩ ?_
  refine swp_ret ?_
  obtain rfl := inj h
  exact q_fr (f1 fv)
end Go.Proofs.YtodgenjlhiiieaaGreatDoor.Sh
