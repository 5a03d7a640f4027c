/- Typed functions and the calls that do what they say. -/
import Derived.Test.YtppehghiiahabaaGreatDoorGBp0
import Derived.Test.YtppehghiiahabaaGreatDoorFB
import Derived.Test.YtppehghiiahabaaGreatDoorKA
import Derived.Test.YtppehghiiahabaaGreatDoorKO
import Derived.Test.YtppehghiiahabaaGreatDoorKQ
import Derived.Test.YtppehghiiahabaaGreatDoorKS
import Derived.Test.YtppehghiiahabaaGreatDoorSF
import Derived.Test.YtppehghiiahabaaGreatDoorH1
import Derived.Test.YtppehghiiahabaaGreatDoorGA
namespace Go.Proofs.YtppehghiiahabaaGreatDoor.Sh
open Go.RowKit
set_option maxRecDepth 100000
set_option maxHeartbeats 4000000
noncomputable def spec_l08Insert (aList : (List ByteArray)) (aS : ByteArray) : Option ((List ByteArray)) :=
  (((loop (fun (s3 : Int) => (((bif (decide (s3 < (aList.length : Int))) then ((at' aList s3).bind fun x5 => some (Op.bytesLess x5.toList aS.toList)) else some false)).bind fun (j6 : Bool) => (bif j6 then some (.inl (w64 (s3 + 1))) else some (.inr s3)))) 0)).bind fun (j1 : Int) => (((bif (decide (j1 < (aList.length : Int))) then ((at' aList j1).bind fun x8 => some (x8.toList == aS.toList)) else some false)).bind fun (j9 : Bool) => (bif j9 then some aList else ((part' aList 0 j1).bind fun x11 => ((app' ([] : List ByteArray) x11).bind fun x12 => ((app' x12 ([aS] : List ByteArray)).bind fun x13 => ((part' aList j1 (aList.length : Int)).bind fun x14 => ((app' x13 x14).bind fun x15 => some x15))))))))
theorem spec_l08Insert_run (aList : (List ByteArray)) (aS : ByteArray) (r : (List ByteArray)) (h : spec_l08Insert aList aS = some r) : SCall Tryz.prog 60 [.v (vl eS aList), .v (vs aS)] ⟨[.v (vl eS r)], [], true⟩ := by
  refine scall_in Tryz.func60 rfl [(.tmp 4)] rfl (fun r => ⟨[.v (vl eS r)], [], true⟩) (r := r) ?_
  unfold spec_l08Insert at h
  refine srk tbokGB ⟨45, [(0, vl eS aList), (1, vs aS)], []⟩ ?_
  refine srk tbokGB ⟨45, [(0, vl eS aList), (1, vs aS), (5, vi 0)], []⟩ ?_
  refine swp_seq ?_
  refine swp_seqJ h (fun j1 => ⟨45, [(0, vl eS aList), (1, vs aS), (5, vi j1)], []⟩) (fun v2 h => ?_) (fun j1 h => ?_)
  refine swp_blk (a := v2) ?_
  refine swp_lpL (r := v2) (s := 0) _ (fun s3 => ⟨45, [(0, vl eS aList), (1, vs aS), (5, vi s3)], []⟩) _ (Le.sub0) h (fun s3 v4 h => ?_)
  refine swp_seq ?_
  refine swp_seq ?_
  refine swp_regJ h (fun j6 => ⟨45, [(0, vl eS aList), (1, vs aS), (5, vi s3), (17, vb j6)], []⟩) (fun v7 h => ?_) (fun j6 h => ?_)
  refine SRun.ck tbokGB 5 ⟨45, [(0, vl eS aList), (1, vs aS), (5, vi s3), (10, vb (decide (s3 < (aList.length : Int))))], []⟩ ?_
  refine SRun.cu [(10, fun b => b)] h (fun h => ?_) fun h => ?_
  refine SRun.ck tbokGB 2 ⟨45, [(0, vl eS aList), (1, vs aS), (5, vi s3), (10, vb true), (11, vl eS aList), (12, vi s3)], []⟩ ?_
  obtain ⟨x5, hx5, h⟩ := bind_some h
  refine SRun.ls (x_index (L := aList) (f := eS) (ti := ti52) (tj := ti9) (e := 9) (k := .i64) tbokGB rfl hx5) ?_
  refine SRun.ck tbokGB 4 ⟨45, [(0, vl eS aList), (1, vs aS), (5, vi s3), (17, vb (Op.bytesLess x5.toList aS.toList))], []⟩ ?_
  refine SRun.nil ?_
  obtain rfl := inj h
  exact Le.sub0
  refine SRun.ck tbokGB 7 ⟨45, [(0, vl eS aList), (1, vs aS), (5, vi s3), (17, vb false)], []⟩ ?_
  refine SRun.nil ?_
  obtain rfl := inj h
  exact Le.sub0
  refine swp_cd h (fun h => ?_) fun h => ?_
  refine swp_skip ?_
  refine nx_n ?_
  refine swp_blk (a := v4) ?_
  refine swp_reg ?_
  refine SRun.ck tbokGB 3 ⟨45, [(0, vl eS aList), (1, vs aS), (5, vi (w64 (s3 + 1)))], []⟩ ?_
  refine SRun.nil ?_
  obtain rfl := inj h
  exact q_bn (q_l (Le.sub0))
  refine swp_exit ?_
  obtain rfl := inj h
  exact nx_e (q_re (q_bh (q_j (Le.sub0))))
  refine swp_seq ?_
  refine swp_seq ?_
  refine swp_regJ h (fun j9 => ⟨45, [(0, vl eS aList), (1, vs aS), (5, vi j1), (31, vb j9)], []⟩) (fun v10 h => ?_) (fun j9 h => ?_)
  refine SRun.ck tbokGB 5 ⟨45, [(0, vl eS aList), (1, vs aS), (5, vi j1), (24, vb (decide (j1 < (aList.length : Int))))], []⟩ ?_
  refine SRun.cu [(24, fun b => b)] h (fun h => ?_) fun h => ?_
  refine SRun.ck tbokGB 2 ⟨45, [(0, vl eS aList), (1, vs aS), (5, vi j1), (24, vb true), (25, vl eS aList), (26, vi j1)], []⟩ ?_
  obtain ⟨x8, hx8, h⟩ := bind_some h
  refine SRun.ls (x_index (L := aList) (f := eS) (ti := ti52) (tj := ti9) (e := 9) (k := .i64) tbokGB rfl hx8) ?_
  refine SRun.ck tbokGB 4 ⟨45, [(0, vl eS aList), (1, vs aS), (5, vi j1), (31, vb (x8.toList == aS.toList))], []⟩ ?_
  refine SRun.nil ?_
  obtain rfl := inj h
  exact Le.sub0
  refine SRun.ck tbokGB 7 ⟨45, [(0, vl eS aList), (1, vs aS), (5, vi j1), (31, vb false)], []⟩ ?_
  refine SRun.nil ?_
  obtain rfl := inj h
  exact Le.sub0
  refine swp_cd h (fun h => ?_) fun h => ?_
  refine srk tbokGB ⟨45, [(4, vl eS aList)], []⟩ ?_
  refine swp_ret ?_
  obtain rfl := inj h
  exact nx_r (q_fr (f1 ft))
  refine swp_skip ?_
  refine nx_n ?_
  refine swp_seq ?_
  obtain ⟨x11, hx11, h⟩ := bind_some h
  obtain ⟨x12, hx12, h⟩ := bind_some h
  obtain ⟨x13, hx13, h⟩ := bind_some h
  obtain ⟨x14, hx14, h⟩ := bind_some h
  obtain ⟨x15, hx15, h⟩ := bind_some h
  refine swp_dr mixed ?_
  refine DGo.enum (σE := ⟨45, [(4, .own 44)], [(44, oa 9 1 eS x15)]⟩) (n := 13) (L0 := #[false, false, false, false, false, false, false, false, false, false, false, false, false]) (by kernel_rfl) (by kernel_rfl) (fun K hk => ?_) ?_
  refine DE.share (fuel := 0) (L := #[true, true, true, true, true, true, true, true, true, true, true, true, true]) (σ := ⟨45, [(4, .own 44)], [(44, oa 9 1 eS x15)]⟩) ?_ (fun d28 => ?_)
  exact DE.done (by kernel_rfl) hk
  refine DE.share (fuel := 1) (L := #[true, true, true, true, true, true, true, true, true, true, true, true, false]) (σ := ⟨45, [(44, .own 44)], [(44, oa 9 1 eS x15)]⟩) ?_ (fun d27 => ?_)
  exact DE.take (i := 12) (L' := #[true, true, true, true, true, true, true, true, true, true, true, true, true]) rfl (.inr rfl) rfl (by kernel_rfl) (by kernel_rfl) (by kernel_rfl) (EStep.le (EStep.ofN2 tbokGB (σ' := ⟨45, [(4, .own 44), (44, .own 44)], [(44, oa 9 1 eS x15)]⟩) (by kernel_rfl)) Le.sub0) (by kernel_rfl) d28
  refine DE.share (fuel := 2) (L := #[true, true, true, true, true, true, true, true, true, true, true, false, false]) (σ := ⟨45, [(40, .own 40), (43, vl eS x14)], [(40, oa 9 1 eS x13)]⟩) ?_ (fun d26 => ?_)
  exact DE.all [11] (by kernel_rfl) (by simp) (List.forall_mem_cons.2 ⟨DEs.mk (i := 11) (L' := #[true, true, true, true, true, true, true, true, true, true, true, true, false]) rfl (EStep.le (x_append (f := eS) (t := 52) (ti := ti52) (tj := ti9) (zs := [.string (ByteArray.mk #[])]) (e := 9) (m := 1) (d := 40) (xv := vl eS x14) hx15 tbokGB rfl rfl rfl rfl (src_e (fun _ => rfl))) Le.sub0) (by kernel_rfl) d27, (fun _ h => absurd h List.not_mem_nil)⟩)
  refine DE.share (fuel := 3) (L := #[true, true, true, true, true, true, true, false, true, true, true, false, false]) (σ := ⟨45, [(37, .own 37), (39, .own 39), (43, vl eS x14)], [(37, oa 9 1 eS x12), (39, oa 9 1 eS ([aS] : List ByteArray))]⟩) ?_ (fun d25 => ?_)
  exact DE.all [7] (by kernel_rfl) (by simp) (List.forall_mem_cons.2 ⟨DEs.mk (i := 7) (L' := #[true, true, true, true, true, true, true, true, true, true, true, false, false]) rfl (EStep.le (x_append (f := eS) (t := 52) (ti := ti52) (tj := ti9) (zs := [.string (ByteArray.mk #[])]) (e := 9) (m := 1) (d := 37) (xv := .own 39) hx13 tbokGB rfl rfl rfl rfl (x_src_o (e := 9))) Le.sub0) (by kernel_rfl) d26, (fun _ h => absurd h List.not_mem_nil)⟩)
  refine DE.share (fuel := 3) (L := #[true, true, true, true, true, true, true, true, true, true, false, false, false]) (σ := ⟨45, [(40, .own 40), (41, vl eS aList), (42, vi j1)], [(40, oa 9 1 eS x13)]⟩) ?_ (fun d24 => ?_)
  exact DE.all [10] (by kernel_rfl) (by simp) (List.forall_mem_cons.2 ⟨DEs.mk (i := 10) (L' := #[true, true, true, true, true, true, true, true, true, true, true, false, false]) rfl (EStep.le (EStep.ofL (x_slice (m := 1) (f := eS) (ti := ti52) (tj := ti9) (e := 9) hx14 (fun _ => rfl) tbokGB rfl) (by kernel_rfl)) Le.sub0) (by kernel_rfl) d26, (fun _ h => absurd h List.not_mem_nil)⟩)
  refine DE.share (fuel := 4) (L := #[true, true, true, true, false, true, true, false, true, true, true, false, false]) (σ := ⟨45, [(33, .own 33), (36, vl eS x11), (39, .own 39), (43, vl eS x14)], [(33, oa 9 1 eS ([] : List ByteArray)), (39, oa 9 1 eS ([aS] : List ByteArray))]⟩) ?_ (fun d23 => ?_)
  exact DE.all [4] (by kernel_rfl) (by simp) (List.forall_mem_cons.2 ⟨DEs.mk (i := 4) (L' := #[true, true, true, true, true, true, true, false, true, true, true, false, false]) rfl (EStep.le (x_append (f := eS) (t := 52) (ti := ti52) (tj := ti9) (zs := [.string (ByteArray.mk #[])]) (e := 9) (m := 1) (d := 33) (xv := vl eS x11) hx12 tbokGB rfl rfl rfl rfl (src_e (fun _ => rfl))) Le.sub0) (by kernel_rfl) d25, (fun _ h => absurd h List.not_mem_nil)⟩)
  refine DE.share (fuel := 4) (L := #[true, true, true, true, true, true, false, false, true, true, true, false, false]) (σ := ⟨45, [(37, .own 37), (38, vs aS), (43, vl eS x14)], [(37, oa 9 1 eS x12)]⟩) ?_ (fun d22 => ?_)
  exact DE.all [6] (by kernel_rfl) (by simp) (List.forall_mem_cons.2 ⟨DEs.mk (i := 6) (L' := #[true, true, true, true, true, true, true, false, true, true, true, false, false]) rfl (EStep.le (EStep.ofN2 tbokGB (σ' := ⟨45, [(39, .own 39), (37, .own 37), (38, vs aS), (43, vl eS x14)], [(39, oa 9 1 eS ([aS] : List ByteArray)), (37, oa 9 1 eS x12)]⟩) (by kernel_rfl)) Le.sub0) (by kernel_rfl) d25, (fun _ h => absurd h List.not_mem_nil)⟩)
  refine DE.share (fuel := 4) (L := #[true, true, true, true, true, true, true, false, true, true, false, false, false]) (σ := ⟨45, [(37, .own 37), (39, .own 39), (41, vl eS aList), (42, vi j1)], [(37, oa 9 1 eS x12), (39, oa 9 1 eS ([aS] : List ByteArray))]⟩) ?_ (fun d21 => ?_)
  exact DE.all [7, 10] (by kernel_rfl) (by simp) (List.forall_mem_cons.2 ⟨DEs.mk (i := 7) (L' := #[true, true, true, true, true, true, true, true, true, true, false, false, false]) rfl (EStep.le (x_append (f := eS) (t := 52) (ti := ti52) (tj := ti9) (zs := [.string (ByteArray.mk #[])]) (e := 9) (m := 1) (d := 37) (xv := .own 39) hx13 tbokGB rfl rfl rfl rfl (x_src_o (e := 9))) Le.sub0) (by kernel_rfl) d24, (List.forall_mem_cons.2 ⟨DEs.mk (i := 10) (L' := #[true, true, true, true, true, true, true, false, true, true, true, false, false]) rfl (EStep.le (EStep.ofL (x_slice (m := 1) (f := eS) (ti := ti52) (tj := ti9) (e := 9) hx14 (fun _ => rfl) tbokGB rfl) (by kernel_rfl)) Le.sub0) (by kernel_rfl) d25, (fun _ h => absurd h List.not_mem_nil)⟩)⟩)
  refine DE.share (fuel := 5) (L := #[false, true, true, true, false, true, true, false, true, true, true, false, false]) (σ := ⟨45, [(36, vl eS x11), (39, .own 39), (43, vl eS x14)], [(39, oa 9 1 eS ([aS] : List ByteArray))]⟩) ?_ (fun d20 => ?_)
  exact DE.all [0] (by kernel_rfl) (by simp) (List.forall_mem_cons.2 ⟨DEs.mk (i := 0) (L' := #[true, true, true, true, false, true, true, false, true, true, true, false, false]) rfl (EStep.ofN2 tbokGB (σ' := ⟨45, [(33, .own 33), (36, vl eS x11), (39, .own 39), (43, vl eS x14)], [(33, oa 9 1 eS ([] : List ByteArray)), (39, oa 9 1 eS ([aS] : List ByteArray))]⟩) (by kernel_rfl)) (by kernel_rfl) d23, (fun _ h => absurd h List.not_mem_nil)⟩)
  refine DE.share (fuel := 5) (L := #[true, true, true, false, false, true, true, false, true, true, true, false, false]) (σ := ⟨45, [(33, .own 33), (34, vl eS aList), (35, vi j1), (39, .own 39), (43, vl eS x14)], [(33, oa 9 1 eS ([] : List ByteArray)), (39, oa 9 1 eS ([aS] : List ByteArray))]⟩) ?_ (fun d19 => ?_)
  exact DE.all [3] (by kernel_rfl) (by simp) (List.forall_mem_cons.2 ⟨DEs.mk (i := 3) (L' := #[true, true, true, true, false, true, true, false, true, true, true, false, false]) rfl (EStep.le (EStep.ofL (x_slice (m := 1) (f := eS) (ti := ti52) (tj := ti9) (e := 9) hx11 (fun _ => rfl) tbokGB rfl) (by kernel_rfl)) Le.sub0) (by kernel_rfl) d23, (fun _ h => absurd h List.not_mem_nil)⟩)
  refine DE.share (fuel := 5) (L := #[true, true, true, true, false, true, false, false, true, true, true, false, false]) (σ := ⟨45, [(33, .own 33), (36, vl eS x11), (38, vs aS), (43, vl eS x14)], [(33, oa 9 1 eS ([] : List ByteArray))]⟩) ?_ (fun d18 => ?_)
  exact DE.all [4, 6] (by kernel_rfl) (by simp) (List.forall_mem_cons.2 ⟨DEs.mk (i := 4) (L' := #[true, true, true, true, true, true, false, false, true, true, true, false, false]) rfl (EStep.le (x_append (f := eS) (t := 52) (ti := ti52) (tj := ti9) (zs := [.string (ByteArray.mk #[])]) (e := 9) (m := 1) (d := 33) (xv := vl eS x11) hx12 tbokGB rfl rfl rfl rfl (src_e (fun _ => rfl))) Le.sub0) (by kernel_rfl) d22, (List.forall_mem_cons.2 ⟨DEs.mk (i := 6) (L' := #[true, true, true, true, false, true, true, false, true, true, true, false, false]) rfl (EStep.le (EStep.ofN2 tbokGB (σ' := ⟨45, [(39, .own 39), (33, .own 33), (36, vl eS x11), (38, vs aS), (43, vl eS x14)], [(39, oa 9 1 eS ([aS] : List ByteArray)), (33, oa 9 1 eS ([] : List ByteArray))]⟩) (by kernel_rfl)) Le.sub0) (by kernel_rfl) d23, (fun _ h => absurd h List.not_mem_nil)⟩)⟩)
  refine DE.share (fuel := 5) (L := #[true, true, true, true, false, true, true, false, true, true, false, false, false]) (σ := ⟨45, [(33, .own 33), (36, vl eS x11), (39, .own 39), (41, vl eS aList), (42, vi j1)], [(33, oa 9 1 eS ([] : List ByteArray)), (39, oa 9 1 eS ([aS] : List ByteArray))]⟩) ?_ (fun d17 => ?_)
  exact DE.all [4, 10] (by kernel_rfl) (by simp) (List.forall_mem_cons.2 ⟨DEs.mk (i := 4) (L' := #[true, true, true, true, true, true, true, false, true, true, false, false, false]) rfl (EStep.le (x_append (f := eS) (t := 52) (ti := ti52) (tj := ti9) (zs := [.string (ByteArray.mk #[])]) (e := 9) (m := 1) (d := 33) (xv := vl eS x11) hx12 tbokGB rfl rfl rfl rfl (src_e (fun _ => rfl))) Le.sub0) (by kernel_rfl) d21, (List.forall_mem_cons.2 ⟨DEs.mk (i := 10) (L' := #[true, true, true, true, false, true, true, false, true, true, true, false, false]) rfl (EStep.le (EStep.ofL (x_slice (m := 1) (f := eS) (ti := ti52) (tj := ti9) (e := 9) hx14 (fun _ => rfl) tbokGB rfl) (by kernel_rfl)) Le.sub0) (by kernel_rfl) d23, (fun _ h => absurd h List.not_mem_nil)⟩)⟩)
  refine DE.share (fuel := 5) (L := #[true, true, true, true, true, true, false, false, true, true, false, false, false]) (σ := ⟨45, [(37, .own 37), (38, vs aS), (41, vl eS aList), (42, vi j1)], [(37, oa 9 1 eS x12)]⟩) ?_ (fun d16 => ?_)
  exact DE.all [6, 10] (by kernel_rfl) (by simp) (List.forall_mem_cons.2 ⟨DEs.mk (i := 6) (L' := #[true, true, true, true, true, true, true, false, true, true, false, false, false]) rfl (EStep.le (EStep.ofN2 tbokGB (σ' := ⟨45, [(39, .own 39), (37, .own 37), (38, vs aS), (41, vl eS aList), (42, vi j1)], [(39, oa 9 1 eS ([aS] : List ByteArray)), (37, oa 9 1 eS x12)]⟩) (by kernel_rfl)) Le.sub0) (by kernel_rfl) d21, (List.forall_mem_cons.2 ⟨DEs.mk (i := 10) (L' := #[true, true, true, true, true, true, false, false, true, true, true, false, false]) rfl (EStep.le (EStep.ofL (x_slice (m := 1) (f := eS) (ti := ti52) (tj := ti9) (e := 9) hx14 (fun _ => rfl) tbokGB rfl) (by kernel_rfl)) Le.sub0) (by kernel_rfl) d22, (fun _ h => absurd h List.not_mem_nil)⟩)⟩)
  refine DE.share (fuel := 6) (L := #[false, true, true, false, false, true, true, false, true, true, true, false, false]) (σ := ⟨45, [(34, vl eS aList), (35, vi j1), (39, .own 39), (43, vl eS x14)], [(39, oa 9 1 eS ([aS] : List ByteArray))]⟩) ?_ (fun d15 => ?_)
  exact DE.all [0, 3] (by kernel_rfl) (by simp) (List.forall_mem_cons.2 ⟨DEs.mk (i := 0) (L' := #[true, true, true, false, false, true, true, false, true, true, true, false, false]) rfl (EStep.ofN2 tbokGB (σ' := ⟨45, [(33, .own 33), (34, vl eS aList), (35, vi j1), (39, .own 39), (43, vl eS x14)], [(33, oa 9 1 eS ([] : List ByteArray)), (39, oa 9 1 eS ([aS] : List ByteArray))]⟩) (by kernel_rfl)) (by kernel_rfl) d19, (List.forall_mem_cons.2 ⟨DEs.mk (i := 3) (L' := #[false, true, true, true, false, true, true, false, true, true, true, false, false]) rfl (EStep.le (EStep.ofL (x_slice (m := 1) (f := eS) (ti := ti52) (tj := ti9) (e := 9) hx11 (fun _ => rfl) tbokGB rfl) (by kernel_rfl)) Le.sub0) (by kernel_rfl) d20, (fun _ h => absurd h List.not_mem_nil)⟩)⟩)
  refine DE.share (fuel := 6) (L := #[false, true, true, true, false, true, false, false, true, true, true, false, false]) (σ := ⟨45, [(36, vl eS x11), (38, vs aS), (43, vl eS x14)], []⟩) ?_ (fun d14 => ?_)
  exact DE.all [0, 6] (by kernel_rfl) (by simp) (List.forall_mem_cons.2 ⟨DEs.mk (i := 0) (L' := #[true, true, true, true, false, true, false, false, true, true, true, false, false]) rfl (EStep.ofN2 tbokGB (σ' := ⟨45, [(33, .own 33), (36, vl eS x11), (38, vs aS), (43, vl eS x14)], [(33, oa 9 1 eS ([] : List ByteArray))]⟩) (by kernel_rfl)) (by kernel_rfl) d18, (List.forall_mem_cons.2 ⟨DEs.mk (i := 6) (L' := #[false, true, true, true, false, true, true, false, true, true, true, false, false]) rfl (EStep.le (EStep.ofN2 tbokGB (σ' := ⟨45, [(39, .own 39), (36, vl eS x11), (38, vs aS), (43, vl eS x14)], [(39, oa 9 1 eS ([aS] : List ByteArray))]⟩) (by kernel_rfl)) Le.sub0) (by kernel_rfl) d20, (fun _ h => absurd h List.not_mem_nil)⟩)⟩)
  refine DE.share (fuel := 6) (L := #[false, true, true, true, false, true, true, false, true, true, false, false, false]) (σ := ⟨45, [(36, vl eS x11), (39, .own 39), (41, vl eS aList), (42, vi j1)], [(39, oa 9 1 eS ([aS] : List ByteArray))]⟩) ?_ (fun d13 => ?_)
  exact DE.all [0, 10] (by kernel_rfl) (by simp) (List.forall_mem_cons.2 ⟨DEs.mk (i := 0) (L' := #[true, true, true, true, false, true, true, false, true, true, false, false, false]) rfl (EStep.ofN2 tbokGB (σ' := ⟨45, [(33, .own 33), (36, vl eS x11), (39, .own 39), (41, vl eS aList), (42, vi j1)], [(33, oa 9 1 eS ([] : List ByteArray)), (39, oa 9 1 eS ([aS] : List ByteArray))]⟩) (by kernel_rfl)) (by kernel_rfl) d17, (List.forall_mem_cons.2 ⟨DEs.mk (i := 10) (L' := #[false, true, true, true, false, true, true, false, true, true, true, false, false]) rfl (EStep.le (EStep.ofL (x_slice (m := 1) (f := eS) (ti := ti52) (tj := ti9) (e := 9) hx14 (fun _ => rfl) tbokGB rfl) (by kernel_rfl)) Le.sub0) (by kernel_rfl) d20, (fun _ h => absurd h List.not_mem_nil)⟩)⟩)
  refine DE.share (fuel := 6) (L := #[true, true, true, false, false, true, false, false, true, true, true, false, false]) (σ := ⟨45, [(33, .own 33), (34, vl eS aList), (35, vi j1), (38, vs aS), (43, vl eS x14)], [(33, oa 9 1 eS ([] : List ByteArray))]⟩) ?_ (fun d12 => ?_)
  exact DE.all [3, 6] (by kernel_rfl) (by simp) (List.forall_mem_cons.2 ⟨DEs.mk (i := 3) (L' := #[true, true, true, true, false, true, false, false, true, true, true, false, false]) rfl (EStep.le (EStep.ofL (x_slice (m := 1) (f := eS) (ti := ti52) (tj := ti9) (e := 9) hx11 (fun _ => rfl) tbokGB rfl) (by kernel_rfl)) Le.sub0) (by kernel_rfl) d18, (List.forall_mem_cons.2 ⟨DEs.mk (i := 6) (L' := #[true, true, true, false, false, true, true, false, true, true, true, false, false]) rfl (EStep.le (EStep.ofN2 tbokGB (σ' := ⟨45, [(39, .own 39), (33, .own 33), (34, vl eS aList), (35, vi j1), (38, vs aS), (43, vl eS x14)], [(39, oa 9 1 eS ([aS] : List ByteArray)), (33, oa 9 1 eS ([] : List ByteArray))]⟩) (by kernel_rfl)) Le.sub0) (by kernel_rfl) d19, (fun _ h => absurd h List.not_mem_nil)⟩)⟩)
  refine DE.share (fuel := 6) (L := #[true, true, true, false, false, true, true, false, true, true, false, false, false]) (σ := ⟨45, [(33, .own 33), (34, vl eS aList), (35, vi j1), (39, .own 39), (41, vl eS aList), (42, vi j1)], [(33, oa 9 1 eS ([] : List ByteArray)), (39, oa 9 1 eS ([aS] : List ByteArray))]⟩) ?_ (fun d11 => ?_)
  exact DE.all [3, 10] (by kernel_rfl) (by simp) (List.forall_mem_cons.2 ⟨DEs.mk (i := 3) (L' := #[true, true, true, true, false, true, true, false, true, true, false, false, false]) rfl (EStep.le (EStep.ofL (x_slice (m := 1) (f := eS) (ti := ti52) (tj := ti9) (e := 9) hx11 (fun _ => rfl) tbokGB rfl) (by kernel_rfl)) Le.sub0) (by kernel_rfl) d17, (List.forall_mem_cons.2 ⟨DEs.mk (i := 10) (L' := #[true, true, true, false, false, true, true, false, true, true, true, false, false]) rfl (EStep.le (EStep.ofL (x_slice (m := 1) (f := eS) (ti := ti52) (tj := ti9) (e := 9) hx14 (fun _ => rfl) tbokGB rfl) (by kernel_rfl)) Le.sub0) (by kernel_rfl) d19, (fun _ h => absurd h List.not_mem_nil)⟩)⟩)
  refine DE.share (fuel := 6) (L := #[true, true, true, true, false, true, false, false, true, true, false, false, false]) (σ := ⟨45, [(33, .own 33), (36, vl eS x11), (38, vs aS), (41, vl eS aList), (42, vi j1)], [(33, oa 9 1 eS ([] : List ByteArray))]⟩) ?_ (fun d10 => ?_)
  exact DE.all [4, 6, 10] (by kernel_rfl) (by simp) (List.forall_mem_cons.2 ⟨DEs.mk (i := 4) (L' := #[true, true, true, true, true, true, false, false, true, true, false, false, false]) rfl (EStep.le (x_append (f := eS) (t := 52) (ti := ti52) (tj := ti9) (zs := [.string (ByteArray.mk #[])]) (e := 9) (m := 1) (d := 33) (xv := vl eS x11) hx12 tbokGB rfl rfl rfl rfl (src_e (fun _ => rfl))) Le.sub0) (by kernel_rfl) d16, (List.forall_mem_cons.2 ⟨DEs.mk (i := 6) (L' := #[true, true, true, true, false, true, true, false, true, true, false, false, false]) rfl (EStep.le (EStep.ofN2 tbokGB (σ' := ⟨45, [(39, .own 39), (33, .own 33), (36, vl eS x11), (38, vs aS), (41, vl eS aList), (42, vi j1)], [(39, oa 9 1 eS ([aS] : List ByteArray)), (33, oa 9 1 eS ([] : List ByteArray))]⟩) (by kernel_rfl)) Le.sub0) (by kernel_rfl) d17, (List.forall_mem_cons.2 ⟨DEs.mk (i := 10) (L' := #[true, true, true, true, false, true, false, false, true, true, true, false, false]) rfl (EStep.le (EStep.ofL (x_slice (m := 1) (f := eS) (ti := ti52) (tj := ti9) (e := 9) hx14 (fun _ => rfl) tbokGB rfl) (by kernel_rfl)) Le.sub0) (by kernel_rfl) d18, (fun _ h => absurd h List.not_mem_nil)⟩)⟩)⟩)
  refine DE.share (fuel := 7) (L := #[false, true, true, false, false, true, false, false, true, true, true, false, false]) (σ := ⟨45, [(34, vl eS aList), (35, vi j1), (38, vs aS), (43, vl eS x14)], []⟩) ?_ (fun d9 => ?_)
  exact DE.all [0, 3, 6] (by kernel_rfl) (by simp) (List.forall_mem_cons.2 ⟨DEs.mk (i := 0) (L' := #[true, true, true, false, false, true, false, false, true, true, true, false, false]) rfl (EStep.ofN2 tbokGB (σ' := ⟨45, [(33, .own 33), (34, vl eS aList), (35, vi j1), (38, vs aS), (43, vl eS x14)], [(33, oa 9 1 eS ([] : List ByteArray))]⟩) (by kernel_rfl)) (by kernel_rfl) d12, (List.forall_mem_cons.2 ⟨DEs.mk (i := 3) (L' := #[false, true, true, true, false, true, false, false, true, true, true, false, false]) rfl (EStep.le (EStep.ofL (x_slice (m := 1) (f := eS) (ti := ti52) (tj := ti9) (e := 9) hx11 (fun _ => rfl) tbokGB rfl) (by kernel_rfl)) Le.sub0) (by kernel_rfl) d14, (List.forall_mem_cons.2 ⟨DEs.mk (i := 6) (L' := #[false, true, true, false, false, true, true, false, true, true, true, false, false]) rfl (EStep.le (EStep.ofN2 tbokGB (σ' := ⟨45, [(39, .own 39), (34, vl eS aList), (35, vi j1), (38, vs aS), (43, vl eS x14)], [(39, oa 9 1 eS ([aS] : List ByteArray))]⟩) (by kernel_rfl)) Le.sub0) (by kernel_rfl) d15, (fun _ h => absurd h List.not_mem_nil)⟩)⟩)⟩)
  refine DE.share (fuel := 7) (L := #[false, true, true, false, false, true, true, false, true, true, false, false, false]) (σ := ⟨45, [(34, vl eS aList), (35, vi j1), (39, .own 39), (41, vl eS aList), (42, vi j1)], [(39, oa 9 1 eS ([aS] : List ByteArray))]⟩) ?_ (fun d8 => ?_)
  exact DE.all [0, 3, 10] (by kernel_rfl) (by simp) (List.forall_mem_cons.2 ⟨DEs.mk (i := 0) (L' := #[true, true, true, false, false, true, true, false, true, true, false, false, false]) rfl (EStep.ofN2 tbokGB (σ' := ⟨45, [(33, .own 33), (34, vl eS aList), (35, vi j1), (39, .own 39), (41, vl eS aList), (42, vi j1)], [(33, oa 9 1 eS ([] : List ByteArray)), (39, oa 9 1 eS ([aS] : List ByteArray))]⟩) (by kernel_rfl)) (by kernel_rfl) d11, (List.forall_mem_cons.2 ⟨DEs.mk (i := 3) (L' := #[false, true, true, true, false, true, true, false, true, true, false, false, false]) rfl (EStep.le (EStep.ofL (x_slice (m := 1) (f := eS) (ti := ti52) (tj := ti9) (e := 9) hx11 (fun _ => rfl) tbokGB rfl) (by kernel_rfl)) Le.sub0) (by kernel_rfl) d13, (List.forall_mem_cons.2 ⟨DEs.mk (i := 10) (L' := #[false, true, true, false, false, true, true, false, true, true, true, false, false]) rfl (EStep.le (EStep.ofL (x_slice (m := 1) (f := eS) (ti := ti52) (tj := ti9) (e := 9) hx14 (fun _ => rfl) tbokGB rfl) (by kernel_rfl)) Le.sub0) (by kernel_rfl) d15, (fun _ h => absurd h List.not_mem_nil)⟩)⟩)⟩)
  refine DE.share (fuel := 7) (L := #[false, true, true, true, false, true, false, false, true, true, false, false, false]) (σ := ⟨45, [(36, vl eS x11), (38, vs aS), (41, vl eS aList), (42, vi j1)], []⟩) ?_ (fun d7 => ?_)
  exact DE.all [0, 6, 10] (by kernel_rfl) (by simp) (List.forall_mem_cons.2 ⟨DEs.mk (i := 0) (L' := #[true, true, true, true, false, true, false, false, true, true, false, false, false]) rfl (EStep.ofN2 tbokGB (σ' := ⟨45, [(33, .own 33), (36, vl eS x11), (38, vs aS), (41, vl eS aList), (42, vi j1)], [(33, oa 9 1 eS ([] : List ByteArray))]⟩) (by kernel_rfl)) (by kernel_rfl) d10, (List.forall_mem_cons.2 ⟨DEs.mk (i := 6) (L' := #[false, true, true, true, false, true, true, false, true, true, false, false, false]) rfl (EStep.le (EStep.ofN2 tbokGB (σ' := ⟨45, [(39, .own 39), (36, vl eS x11), (38, vs aS), (41, vl eS aList), (42, vi j1)], [(39, oa 9 1 eS ([aS] : List ByteArray))]⟩) (by kernel_rfl)) Le.sub0) (by kernel_rfl) d13, (List.forall_mem_cons.2 ⟨DEs.mk (i := 10) (L' := #[false, true, true, true, false, true, false, false, true, true, true, false, false]) rfl (EStep.le (EStep.ofL (x_slice (m := 1) (f := eS) (ti := ti52) (tj := ti9) (e := 9) hx14 (fun _ => rfl) tbokGB rfl) (by kernel_rfl)) Le.sub0) (by kernel_rfl) d14, (fun _ h => absurd h List.not_mem_nil)⟩)⟩)⟩)
  refine DE.share (fuel := 7) (L := #[true, true, true, false, false, true, false, false, true, true, false, false, false]) (σ := ⟨45, [(33, .own 33), (34, vl eS aList), (35, vi j1), (38, vs aS), (41, vl eS aList), (42, vi j1)], [(33, oa 9 1 eS ([] : List ByteArray))]⟩) ?_ (fun d6 => ?_)
  exact DE.all [3, 6, 10] (by kernel_rfl) (by simp) (List.forall_mem_cons.2 ⟨DEs.mk (i := 3) (L' := #[true, true, true, true, false, true, false, false, true, true, false, false, false]) rfl (EStep.le (EStep.ofL (x_slice (m := 1) (f := eS) (ti := ti52) (tj := ti9) (e := 9) hx11 (fun _ => rfl) tbokGB rfl) (by kernel_rfl)) Le.sub0) (by kernel_rfl) d10, (List.forall_mem_cons.2 ⟨DEs.mk (i := 6) (L' := #[true, true, true, false, false, true, true, false, true, true, false, false, false]) rfl (EStep.le (EStep.ofN2 tbokGB (σ' := ⟨45, [(39, .own 39), (33, .own 33), (34, vl eS aList), (35, vi j1), (38, vs aS), (41, vl eS aList), (42, vi j1)], [(39, oa 9 1 eS ([aS] : List ByteArray)), (33, oa 9 1 eS ([] : List ByteArray))]⟩) (by kernel_rfl)) Le.sub0) (by kernel_rfl) d11, (List.forall_mem_cons.2 ⟨DEs.mk (i := 10) (L' := #[true, true, true, false, false, true, false, false, true, true, true, false, false]) rfl (EStep.le (EStep.ofL (x_slice (m := 1) (f := eS) (ti := ti52) (tj := ti9) (e := 9) hx14 (fun _ => rfl) tbokGB rfl) (by kernel_rfl)) Le.sub0) (by kernel_rfl) d12, (fun _ h => absurd h List.not_mem_nil)⟩)⟩)⟩)
  refine DE.share (fuel := 8) (L := #[false, true, true, false, false, true, false, false, true, true, false, false, false]) (σ := ⟨45, [(34, vl eS aList), (35, vi j1), (38, vs aS), (41, vl eS aList), (42, vi j1)], []⟩) ?_ (fun d5 => ?_)
  exact DE.all [0, 3, 6, 10] (by kernel_rfl) (by simp) (List.forall_mem_cons.2 ⟨DEs.mk (i := 0) (L' := #[true, true, true, false, false, true, false, false, true, true, false, false, false]) rfl (EStep.ofN2 tbokGB (σ' := ⟨45, [(33, .own 33), (34, vl eS aList), (35, vi j1), (38, vs aS), (41, vl eS aList), (42, vi j1)], [(33, oa 9 1 eS ([] : List ByteArray))]⟩) (by kernel_rfl)) (by kernel_rfl) d6, (List.forall_mem_cons.2 ⟨DEs.mk (i := 3) (L' := #[false, true, true, true, false, true, false, false, true, true, false, false, false]) rfl (EStep.le (EStep.ofL (x_slice (m := 1) (f := eS) (ti := ti52) (tj := ti9) (e := 9) hx11 (fun _ => rfl) tbokGB rfl) (by kernel_rfl)) Le.sub0) (by kernel_rfl) d7, (List.forall_mem_cons.2 ⟨DEs.mk (i := 6) (L' := #[false, true, true, false, false, true, true, false, true, true, false, false, false]) rfl (EStep.le (EStep.ofN2 tbokGB (σ' := ⟨45, [(39, .own 39), (34, vl eS aList), (35, vi j1), (38, vs aS), (41, vl eS aList), (42, vi j1)], [(39, oa 9 1 eS ([aS] : List ByteArray))]⟩) (by kernel_rfl)) Le.sub0) (by kernel_rfl) d8, (List.forall_mem_cons.2 ⟨DEs.mk (i := 10) (L' := #[false, true, true, false, false, true, false, false, true, true, true, false, false]) rfl (EStep.le (EStep.ofL (x_slice (m := 1) (f := eS) (ti := ti52) (tj := ti9) (e := 9) hx14 (fun _ => rfl) tbokGB rfl) (by kernel_rfl)) Le.sub0) (by kernel_rfl) d9, (fun _ h => absurd h List.not_mem_nil)⟩)⟩)⟩)⟩)
  refine DE.share (fuel := 9) (L := #[false, true, true, false, false, true, false, false, true, false, false, false, false]) (σ := ⟨45, [(5, vi j1), (34, vl eS aList), (35, vi j1), (38, vs aS), (41, vl eS aList)], []⟩) ?_ (fun d4 => ?_)
  exact DE.take (i := 9) (L' := #[false, true, true, false, false, true, false, false, true, true, false, false, false]) rfl (.inl rfl) rfl (by kernel_rfl) (by kernel_rfl) (by kernel_rfl) (EStep.le (EStep.ofN2 tbokGB (σ' := ⟨45, [(42, vi j1), (5, vi j1), (34, vl eS aList), (35, vi j1), (38, vs aS), (41, vl eS aList)], []⟩) (by kernel_rfl)) Le.sub0) (by kernel_rfl) d5
  refine DE.share (fuel := 10) (L := #[false, true, true, false, false, true, false, false, false, false, false, false, false]) (σ := ⟨45, [(0, vl eS aList), (5, vi j1), (34, vl eS aList), (35, vi j1), (38, vs aS)], []⟩) ?_ (fun d3 => ?_)
  exact DE.take (i := 8) (L' := #[false, true, true, false, false, true, false, false, true, false, false, false, false]) rfl (.inl rfl) rfl (by kernel_rfl) (by kernel_rfl) (by kernel_rfl) (EStep.le (EStep.ofN2 tbokGB (σ' := ⟨45, [(41, vl eS aList), (0, vl eS aList), (5, vi j1), (34, vl eS aList), (35, vi j1), (38, vs aS)], []⟩) (by kernel_rfl)) Le.sub0) (by kernel_rfl) d4
  refine DE.share (fuel := 11) (L := #[false, true, true, false, false, false, false, false, false, false, false, false, false]) (σ := ⟨45, [(0, vl eS aList), (1, vs aS), (5, vi j1), (34, vl eS aList), (35, vi j1)], []⟩) ?_ (fun d2 => ?_)
  exact DE.take (i := 5) (L' := #[false, true, true, false, false, true, false, false, false, false, false, false, false]) rfl (.inl rfl) rfl (by kernel_rfl) (by kernel_rfl) (by kernel_rfl) (EStep.le (EStep.ofN2 tbokGB (σ' := ⟨45, [(38, vs aS), (0, vl eS aList), (1, vs aS), (5, vi j1), (34, vl eS aList), (35, vi j1)], []⟩) (by kernel_rfl)) Le.sub0) (by kernel_rfl) d3
  refine DE.share (fuel := 12) (L := #[false, true, false, false, false, false, false, false, false, false, false, false, false]) (σ := ⟨45, [(0, vl eS aList), (1, vs aS), (5, vi j1), (34, vl eS aList)], []⟩) ?_ (fun d1 => ?_)
  exact DE.take (i := 2) (L' := #[false, true, true, false, false, false, false, false, false, false, false, false, false]) rfl (.inl rfl) rfl (by kernel_rfl) (by kernel_rfl) (by kernel_rfl) (EStep.le (EStep.ofN2 tbokGB (σ' := ⟨45, [(35, vi j1), (0, vl eS aList), (1, vs aS), (5, vi j1), (34, vl eS aList)], []⟩) (by kernel_rfl)) Le.sub0) (by kernel_rfl) d2
  exact DE.take (i := 1) (L' := #[false, true, false, false, false, false, false, false, false, false, false, false, false]) rfl (.inl rfl) rfl (by kernel_rfl) (by kernel_rfl) (by kernel_rfl) (EStep.le (EStep.ofN2 tbokGB (σ' := ⟨45, [(34, vl eS aList), (0, vl eS aList), (1, vs aS), (5, vi j1), (31, vb j9)], []⟩) (by kernel_rfl)) Le.sub0) (by kernel_rfl) d1
  refine nx_n ?_
  refine swp_le (Le.frz' (d := 44) (e := 9) (m := 1) (n := x15.length) (es := x15.map eS) (by kernel_rfl) (by kernel_rfl)) ?_
  refine swp_ret ?_
  obtain rfl := inj h
  exact q_fr (f1 ft)
theorem ents60 : Ents Tryz.prog 60 := ents_of Tryz.func60 (by kernel_rfl) rfl
noncomputable def spec_NamesPossible (aList : (List Claim)) (aPlace : ByteArray) (aYear : Int) : Option ((List ByteArray) × Int) :=
  ((spec_l21Code aList aPlace aYear).bind fun x1 => (bif (x1 != 0) then some (([] : List ByteArray), x1) else (((forS (aList.length : Int) (fun (i4 : Int) (s4 : (List ByteArray)) => ((at' aList i4).bind fun x8 => ((at' aList i4).bind fun x9 => ((spec_l24Tells x9 (Fact.mk 0 aPlace x8.Value aYear)).bind fun x10 => (bif x10 then ((spec_l24Counts aList (Fact.mk 0 aPlace x8.Value aYear)).bind fun x11 => (bif (decide (x11.1 > 0)) then ((at' aList i4).bind fun x12 => ((spec_l08Insert s4 x12.Value).bind fun x13 => some x13)) else some s4)) else some s4))))) (fun (s4 : (List ByteArray)) => s4) 0 ([] : List ByteArray))).bind fun (j2 : (List ByteArray)) => some (j2, 0))))
theorem spec_NamesPossible_run (aList : (List Claim)) (aPlace : ByteArray) (aYear : Int) (r : (List ByteArray) × Int) (h : spec_NamesPossible aList aPlace aYear = some r) : SCall Tryz.prog 28 [.v (vl eClaim aList), .v (vs aPlace), .v (vi aYear)] ⟨[.v (vl eS r.1), .v (vi r.2)], [], true⟩ := by
  refine scall_in Tryz.func28 rfl [(.tmp 6), (.tmp 7)] rfl (fun r => ⟨[.v (vl eS r.1), .v (vi r.2)], [], true⟩) (r := r) ?_
  unfold spec_NamesPossible at h
  refine srk tbokGB ⟨58, [(0, vl eClaim aList), (1, vs aPlace), (2, vi aYear)], []⟩ ?_
  refine sr ?_
  refine SRun.ck tbokGB 3 ⟨58, [(0, vl eClaim aList), (1, vs aPlace), (2, vi aYear), (14, vl eClaim aList), (15, vs aPlace), (16, vi aYear)], []⟩ ?_
  obtain ⟨x1, hx1, h⟩ := bind_some h
  refine SRun.ls (xc ents47 (spec_l21Code_run aList aPlace aYear _ hx1)) ?_
  refine ckn tbokGB 1 ⟨58, [(0, vl eClaim aList), (1, vs aPlace), (2, vi aYear), (8, vi x1)], []⟩ ?_
  refine swp_seq ?_
  refine srk tbokGB ⟨58, [(0, vl eClaim aList), (1, vs aPlace), (2, vi aYear), (8, vi x1), (19, vb (x1 != 0))], []⟩ ?_
  refine swp_cd h (fun h => ?_) fun h => ?_
  refine srk tbokGB ⟨58, [(6, .own 6), (7, vi x1)], [(6, oa 9 1 eS ([] : List ByteArray))]⟩ ?_
  refine swp_le (Le.frz' (d := 6) (e := 9) (m := 1) (n := ([] : List ByteArray).length) (es := ([] : List ByteArray).map eS) (by kernel_rfl) (by kernel_rfl)) ?_
  refine swp_ret ?_
  obtain rfl := inj h
  exact nx_r (q_fr (f2 ft ft))
  refine swp_skip ?_
  refine nx_n ?_
  refine srk tbokGB ⟨58, [(0, vl eClaim aList), (1, vs aPlace), (2, vi aYear), (9, .own 21)], [(21, oa 9 1 eS ([] : List ByteArray))]⟩ ?_
  refine swp_seq ?_
  refine srk tbokGB ⟨58, [(0, vl eClaim aList), (1, vs aPlace), (2, vi aYear), (9, .own 21), (10, vi 0)], [(21, oa 9 1 eS ([] : List ByteArray))]⟩ ?_
  refine swp_seqJ h (fun j2 => ⟨58, [(9, vl eS j2)], []⟩) (fun v3 h => ?_) (fun j2 h => ?_)
  refine swp_blk (a := v3) ?_
  refine swp_le (Le.frz' (d := 21) (e := 9) (m := 1) (n := ([] : List ByteArray).length) (es := ([] : List ByteArray).map eS) (by kernel_rfl) (by kernel_rfl)) ?_
  refine swp_lpL (r := v3) (s := (0, ([] : List ByteArray))) _ (fun s4 => ⟨58, [(0, vl eClaim aList), (1, vs aPlace), (2, vi aYear), (9, vl eS s4.2), (10, vi s4.1)], []⟩) _ (Le.sub0) h (fun s4 v5 h => ?_)
  refine swp_seq ?_
  refine srk tbokGB ⟨58, [(0, vl eClaim aList), (1, vs aPlace), (2, vi aYear), (9, vl eS s4.2), (10, vi s4.1), (25, vb (decide (s4.1 < (aList.length : Int))))], []⟩ ?_
  refine swp_cd h (fun h => ?_) fun h => ?_
  refine swp_skip ?_
  refine nx_n ?_
  refine swp_seq ?_
  refine swp_seqJ h (fun j6 => ⟨58, [(0, vl eClaim aList), (1, vs aPlace), (2, vi aYear), (9, vl eS j6), (10, vi s4.1)], []⟩) (fun v7 h => ?_) (fun j6 h => ?_)
  refine swp_blk (a := v7) ?_
  refine sr ?_
  refine SRun.ck tbokGB 3 ⟨58, [(0, vl eClaim aList), (1, vs aPlace), (2, vi aYear), (9, vl eS s4.2), (10, vi s4.1), (28, vs aPlace), (29, vl eClaim aList), (30, vi s4.1)], []⟩ ?_
  obtain ⟨x8, hx8, h⟩ := bind_some h
  refine SRun.ls (x_index (L := aList) (f := eClaim) (ti := ti24) (tj := ti42) (e := 42) (k := .i64) tbokGB rfl hx8) ?_
  refine SRun.ck tbokGB 3 ⟨58, [(0, vl eClaim aList), (1, vs aPlace), (2, vi aYear), (9, vl eS s4.2), (10, vi s4.1), (28, vs aPlace), (33, vs x8.Value), (34, vi aYear)], []⟩ ?_
  refine SRun.ls (x_lstep_build (v := .agg [vi 0, vs aPlace, vs x8.Value, vi aYear]) tbokGB rfl) ?_
  refine ckn tbokGB 2 ⟨58, [(0, vl eClaim aList), (1, vs aPlace), (2, vi aYear), (9, vl eS s4.2), (10, vi s4.1), (11, .ref 11 0)], [(11, .box [vi 0, vs aPlace, vs x8.Value, vi aYear])]⟩ ?_
  refine swp_seq ?_
  refine swp_dr mixed ?_
  refine DGo.ck tbokGB false 2 ⟨58, [(0, vl eClaim aList), (1, vs aPlace), (2, vi aYear), (9, vl eS s4.2), (10, vi s4.1), (11, .ref 11 0), (36, vl eClaim aList), (37, vi s4.1)], [(11, .box [vi 0, vs aPlace, vs x8.Value, vi aYear])]⟩ ?_
  obtain ⟨x9, hx9, h⟩ := bind_some h
  refine DGo.step (x_index (L := aList) (f := eClaim) (ti := ti24) (tj := ti42) (e := 42) (k := .i64) tbokGB rfl hx9) ?_
  refine DGo.ck tbokGB false 2 ⟨58, [(0, vl eClaim aList), (1, vs aPlace), (2, vi aYear), (9, vl eS s4.2), (10, vi s4.1), (11, .ref 11 0), (39, .agg (tc eClaim x9)), (40, .agg [vi 0, vs aPlace, vs x8.Value, vi aYear])], [(11, .box [vi 0, vs aPlace, vs x8.Value, vi aYear])]⟩ ?_
  obtain ⟨x10, hx10, h⟩ := bind_some h
  refine DGo.step (xc ents58 (spec_l24Tells_run x9 (Fact.mk 0 aPlace x8.Value aYear) _ hx10)) ?_
  refine DGo.nx ?_
  refine swp_cd h (fun h => ?_) fun h => ?_
  refine sr ?_
  refine SRun.ck tbokGB 2 ⟨58, [(0, vl eClaim aList), (1, vs aPlace), (2, vi aYear), (9, vl eS s4.2), (10, vi s4.1), (43, vl eClaim aList), (44, .agg [vi 0, vs aPlace, vs x8.Value, vi aYear])], []⟩ ?_
  obtain ⟨x11, hx11, h⟩ := bind_some h
  refine SRun.ls (xc ents59 (spec_l24Counts_run aList (Fact.mk 0 aPlace x8.Value aYear) _ hx11)) ?_
  refine ckn tbokGB 5 ⟨58, [(0, vl eClaim aList), (1, vs aPlace), (2, vi aYear), (9, vl eS s4.2), (10, vi s4.1), (12, vi x11.1)], []⟩ ?_
  refine srk tbokGB ⟨58, [(0, vl eClaim aList), (1, vs aPlace), (2, vi aYear), (9, vl eS s4.2), (10, vi s4.1), (49, vb (decide (x11.1 > 0)))], []⟩ ?_
  refine swp_cd h (fun h => ?_) fun h => ?_
  refine swp_reg ?_
  refine SRun.ck tbokGB 3 ⟨58, [(0, vl eClaim aList), (1, vs aPlace), (2, vi aYear), (10, vi s4.1), (50, vl eS s4.2), (51, vl eClaim aList), (52, vi s4.1)], []⟩ ?_
  obtain ⟨x12, hx12, h⟩ := bind_some h
  refine SRun.ls (x_index (L := aList) (f := eClaim) (ti := ti24) (tj := ti42) (e := 42) (k := .i64) tbokGB rfl hx12) ?_
  refine SRun.ck tbokGB 2 ⟨58, [(0, vl eClaim aList), (1, vs aPlace), (2, vi aYear), (10, vi s4.1), (50, vl eS s4.2), (55, vs x12.Value)], []⟩ ?_
  obtain ⟨x13, hx13, h⟩ := bind_some h
  refine SRun.ls (xc ents60 (spec_l08Insert_run s4.2 x12.Value _ hx13)) ?_
  refine SRun.ck tbokGB 1 ⟨58, [(0, vl eClaim aList), (1, vs aPlace), (2, vi aYear), (9, vl eS x13), (10, vi s4.1)], []⟩ ?_
  refine SRun.nil ?_
  obtain rfl := inj h
  exact q_bn (q_j (Le.sub0))
  refine swp_skip ?_
  obtain rfl := inj h
  exact q_bn (q_j (Le.sub0))
  refine swp_skip ?_
  obtain rfl := inj h
  exact q_bn (q_j (Le.sub0))
  refine swp_reg ?_
  refine SRun.ck tbokGB 3 ⟨58, [(0, vl eClaim aList), (1, vs aPlace), (2, vi aYear), (9, vl eS j6), (10, vi (w64 (s4.1 + 1)))], []⟩ ?_
  refine SRun.nil ?_
  obtain rfl := inj h
  exact q_l (Le.sub0)
  refine swp_exit ?_
  obtain rfl := inj h
  exact nx_e (q_re (q_bh (q_j (Le.sub0))))
  refine srk tbokGB ⟨58, [(6, vl eS j2), (7, vi 0)], []⟩ ?_
  refine swp_ret ?_
  obtain rfl := inj h
  exact q_fr (f2 ft ft)
theorem ents28 : Ents Tryz.prog 28 := ents_of Tryz.func28 (by kernel_rfl) rfl
noncomputable def laws_likeTexts (aA : (List ByteArray)) (aB : (List ByteArray)) : Option (Bool) :=
  (bif ((aA.length : Int) != (aB.length : Int)) then some false else (((forN (aA.length : Int) (fun (i3 : Int) (_ : Unit) => ((at' aA i3).bind fun x7 => ((at' aB i3).bind fun x8 => (bif (!(x7.toList == x8.toList)) then some (.inr (.inr false)) else some (.inl ()))))) (fun (_ : Unit) => .inl ()) 0 ())).bind (Sum.elim (fun (_ : Unit) => some true) some)))
theorem laws_likeTexts_run (aA : (List ByteArray)) (aB : (List ByteArray)) (r : Bool) (h : laws_likeTexts aA aB = some r) : SCall Tryz.prog 29 [.v (vl eS aA), .v (vl eS aB)] ⟨[.v (vb r)], [], false⟩ := by
  refine scall_in Tryz.func29 rfl [(.tmp 4)] rfl (fun r => ⟨[.v (vb r)], [], false⟩) (r := r) ?_
  unfold laws_likeTexts at h
  refine srk tbokGB ⟨26, [(0, vl eS aA), (1, vl eS aB)], []⟩ ?_
  refine swp_seq ?_
  refine srk tbokGB ⟨26, [(0, vl eS aA), (1, vl eS aB), (10, vb ((aA.length : Int) != (aB.length : Int)))], []⟩ ?_
  refine swp_cd h (fun h => ?_) fun h => ?_
  refine srk tbokGB ⟨26, [(4, vb false)], []⟩ ?_
  refine swp_ret ?_
  obtain rfl := inj h
  exact nx_r (q_fr (f1 fv))
  refine swp_skip ?_
  refine nx_n ?_
  refine swp_seq ?_
  refine srk tbokGB ⟨26, [(0, vl eS aA), (1, vl eS aB), (5, vi 0)], []⟩ ?_
  refine swp_seqE (r := r) h (fun j1 => ⟨26, [], []⟩) (fun v2 h => ?_) (fun j1 h => ?_)
  refine swp_blk (a := v2) ?_
  refine swp_lpL (r := v2) (s := (0, ())) _ (fun s3 => ⟨26, [(0, vl eS aA), (1, vl eS aB), (5, vi s3.1)], []⟩) _ (Le.sub0) h (fun s3 v4 h => ?_)
  refine swp_seq ?_
  refine srk tbokGB ⟨26, [(0, vl eS aA), (1, vl eS aB), (5, vi s3.1), (14, vb (decide (s3.1 < (aA.length : Int))))], []⟩ ?_
  refine swp_cd h (fun h => ?_) fun h => ?_
  refine swp_skip ?_
  refine nx_n ?_
  refine swp_seq ?_
  refine swp_seqL (r := v4) h (fun j5 => ⟨26, [(0, vl eS aA), (1, vl eS aB), (5, vi s3.1)], []⟩) (fun v6 h => ?_) (fun j5 h => ?_)
  refine swp_blk (a := v6) ?_
  refine swp_seq ?_
  refine swp_dr mixed ?_
  refine DGo.ck tbokGB false 2 ⟨26, [(0, vl eS aA), (1, vl eS aB), (5, vi s3.1), (17, vl eS aA), (18, vi s3.1)], []⟩ ?_
  obtain ⟨x7, hx7, h⟩ := bind_some h
  refine DGo.step (x_index (L := aA) (f := eS) (ti := ti52) (tj := ti9) (e := 9) (k := .i64) tbokGB rfl hx7) ?_
  refine DGo.ck tbokGB false 3 ⟨26, [(0, vl eS aA), (1, vl eS aB), (5, vi s3.1), (20, vs x7), (21, vl eS aB), (22, vi s3.1)], []⟩ ?_
  obtain ⟨x8, hx8, h⟩ := bind_some h
  refine DGo.step (x_index (L := aB) (f := eS) (ti := ti52) (tj := ti9) (e := 9) (k := .i64) tbokGB rfl hx8) ?_
  refine DGo.ck tbokGB false 2 ⟨26, [(0, vl eS aA), (1, vl eS aB), (5, vi s3.1), (25, vb (!(x7.toList == x8.toList)))], []⟩ ?_
  refine DGo.nx ?_
  refine swp_cd h (fun h => ?_) fun h => ?_
  refine srk tbokGB ⟨26, [(4, vb false)], []⟩ ?_
  refine swp_ret ?_
  obtain rfl := inj h
  exact q_br (q_rr (q_rr (q_br (q_rr (q_fr (f1 fv))))))
  refine swp_skip ?_
  obtain rfl := inj h
  exact q_bn (q_l (Le.sub0))
  refine swp_reg ?_
  refine SRun.ck tbokGB 3 ⟨26, [(0, vl eS aA), (1, vl eS aB), (5, vi (w64 (s3.1 + 1)))], []⟩ ?_
  refine SRun.nil ?_
  obtain rfl := inj h
  exact q_l (Le.sub0)
  refine swp_exit ?_
  obtain rfl := inj h
  exact nx_e (q_re (q_bh (q_l (Le.sub0))))
  refine srk tbokGB ⟨26, [(4, vb true)], []⟩ ?_
  refine swp_ret ?_
  obtain rfl := inj h
  exact q_fr (f1 fv)
theorem ents29 : Ents Tryz.prog 29 := ents_of Tryz.func29 (by kernel_rfl) rfl
noncomputable def impl_Fact_claim (aF : Fact) : Option (Claim) :=
  some (Claim.mk (ByteArray.mk #[97]) aF.Kind aF.Place aF.Value (Span.mk aF.Year aF.Year) 1)
theorem impl_Fact_claim_run (aF : Fact) (r : Claim) (h : impl_Fact_claim aF = some r) : SCall Tryz.prog 145 [.v (.agg (tc eFact aF))] ⟨[.v (.agg (tc eClaim r))], [], false⟩ := by
  refine scall_in Tryz.func145 rfl [(.cell 2 42)] rfl (fun r => ⟨[.v (.agg (tc eClaim r))], [], false⟩) (r := r) ?_
  unfold impl_Fact_claim at h
  refine srk tbokGB ⟨15, [(1, .ref 1 0), (2, .ref 2 0)], [(1, .box (tc eFact aF)), (2, .box [vs (ByteArray.mk #[]), vi 0, vs (ByteArray.mk #[]), vs (ByteArray.mk #[]), vi 0, vi 0, vi 0])]⟩ ?_
  refine sr ?_
  refine SRun.ck tbokGB 10 ⟨15, [(2, .ref 2 0), (4, vi aF.Kind), (6, vs aF.Place), (8, vs aF.Value), (10, vi aF.Year), (12, vi aF.Year)], [(2, .box [vs (ByteArray.mk #[]), vi 0, vs (ByteArray.mk #[]), vs (ByteArray.mk #[]), vi 0, vi 0, vi 0])]⟩ ?_
  refine SRun.ls (x_lstep_build (v := .agg [vi aF.Year, vi aF.Year]) tbokGB rfl) ?_
  refine SRun.ls (x_lstep_build (v := .agg [vs (ByteArray.mk #[97]), vi aF.Kind, vs aF.Place, vs aF.Value, vi aF.Year, vi aF.Year, vi 1]) tbokGB rfl) ?_
  refine ckn tbokGB 1 ⟨15, [(2, .ref 2 0)], [(2, .box [vs (ByteArray.mk #[97]), vi aF.Kind, vs aF.Place, vs aF.Value, vi aF.Year, vi aF.Year, vi 1])]⟩ ?_
  refine swp_ret ?_
  obtain rfl := inj h
  exact q_fr (f1 (fc tbokGB))
theorem ents145 : Ents Tryz.prog 145 := ents_of Tryz.func145 (by kernel_rfl) rfl
noncomputable def impl_IsFact (aF : Fact) : Option (Bool) :=
  ((((impl_within aF.Kind 0 1).bind fun x1 => (bif x1 then ((impl_Fact_claim aF).bind fun x2 => ((impl_IsClaim x2).bind fun x3 => some x3)) else some false))).bind fun (j4 : Bool) => some j4)
theorem impl_IsFact_run (aF : Fact) (r : Bool) (h : impl_IsFact aF = some r) : SCall Tryz.prog 112 [.v (.agg (tc eFact aF))] ⟨[.v (vb r)], [], false⟩ := by
  refine scall_in Tryz.func112 rfl [(.tmp 2)] rfl (fun r => ⟨[.v (vb r)], [], false⟩) (r := r) ?_
  unfold impl_IsFact at h
  refine srk tbokGB ⟨11, [(1, .ref 1 0)], [(1, .box (tc eFact aF))]⟩ ?_
  refine swp_seq ?_
  refine swp_regJ h (fun j4 => ⟨11, [(2, vb j4)], []⟩) (fun v5 h => ?_) (fun j4 h => ?_)
  refine SRun.ck tbokGB 2 ⟨11, [(1, .ref 1 0), (4, vi aF.Kind)], [(1, .box (tc eFact aF))]⟩ ?_
  obtain ⟨x1, hx1, h⟩ := bind_some h
  refine SRun.ls (xc ents121 (impl_within_run aF.Kind 0 1 _ hx1)) ?_
  refine SRun.ck tbokGB 1 ⟨11, [(1, .ref 1 0), (6, vb x1)], [(1, .box (tc eFact aF))]⟩ ?_
  refine SRun.cu [(6, fun b => b)] h (fun h => ?_) fun h => ?_
  refine SRun.ck tbokGB 1 ⟨11, [(6, vb true), (7, .agg (tc eFact aF))], []⟩ ?_
  obtain ⟨x2, hx2, h⟩ := bind_some h
  refine SRun.ls (xc ents145 (impl_Fact_claim_run aF _ hx2)) ?_
  obtain ⟨x3, hx3, h⟩ := bind_some h
  refine SRun.ls (xc ents67 (impl_IsClaim_run x2 _ hx3)) ?_
  refine SRun.ck tbokGB 2 ⟨11, [(2, vb x3)], []⟩ ?_
  refine SRun.nil ?_
  obtain rfl := inj h
  exact Le.sub0
  refine SRun.ck tbokGB 5 ⟨11, [(2, vb false)], []⟩ ?_
  refine SRun.nil ?_
  obtain rfl := inj h
  exact Le.sub0
  refine swp_ret ?_
  obtain rfl := inj h
  exact q_fr (f1 fv)
theorem ents112 : Ents Tryz.prog 112 := ents_of Tryz.func112 (by kernel_rfl) rfl
noncomputable def impl_factCode (aList : (List Claim)) (aF : Fact) : Option (Int) :=
  ((((impl_AreClaims aList).bind fun x1 => (bif (!x1) then some true else ((impl_IsFact aF).bind fun x2 => some (!x2))))).bind fun (j3 : Bool) => (bif j3 then some 1 else some 0))
theorem impl_factCode_run (aList : (List Claim)) (aF : Fact) (r : Int) (h : impl_factCode aList aF = some r) : SCall Tryz.prog 61 [.v (vl eClaim aList), .v (.agg (tc eFact aF))] ⟨[.v (vi r)], [], false⟩ := by
  refine scall_in Tryz.func61 rfl [(.tmp 4)] rfl (fun r => ⟨[.v (vi r)], [], false⟩) (r := r) ?_
  unfold impl_factCode at h
  refine srk tbokGB ⟨13, [(0, vl eClaim aList), (3, .ref 3 0)], [(3, .box (tc eFact aF))]⟩ ?_
  refine swp_seq ?_
  refine swp_seq ?_
  refine swp_regJ h (fun j3 => ⟨13, [(12, vb j3)], []⟩) (fun v4 h => ?_) (fun j3 h => ?_)
  refine SRun.ck tbokGB 1 ⟨13, [(3, .ref 3 0), (5, vl eClaim aList)], [(3, .box (tc eFact aF))]⟩ ?_
  obtain ⟨x1, hx1, h⟩ := bind_some h
  refine SRun.ls (xc ents34 (impl_AreClaims_run aList _ hx1)) ?_
  refine SRun.ck tbokGB 2 ⟨13, [(3, .ref 3 0), (8, vb (!x1))], [(3, .box (tc eFact aF))]⟩ ?_
  refine SRun.cu [(8, fun b => b)] h (fun h => ?_) fun h => ?_
  refine SRun.ck tbokGB 4 ⟨13, [(12, vb true)], []⟩ ?_
  refine SRun.nil ?_
  obtain rfl := inj h
  exact Le.sub0
  refine SRun.ck tbokGB 1 ⟨13, [(8, vb false), (9, .agg (tc eFact aF))], []⟩ ?_
  obtain ⟨x2, hx2, h⟩ := bind_some h
  refine SRun.ls (xc ents112 (impl_IsFact_run aF _ hx2)) ?_
  refine SRun.ck tbokGB 2 ⟨13, [(12, vb (!x2))], []⟩ ?_
  refine SRun.nil ?_
  obtain rfl := inj h
  exact Le.sub0
  refine swp_cd h (fun h => ?_) fun h => ?_
  refine srk tbokGB ⟨13, [(4, vi 1)], []⟩ ?_
  refine swp_ret ?_
  obtain rfl := inj h
  exact nx_r (q_fr (f1 fv))
  refine swp_skip ?_
  refine nx_n ?_
  refine srk tbokGB ⟨13, [(4, vi 0)], []⟩ ?_
  refine swp_ret ?_
  obtain rfl := inj h
  exact q_fr (f1 fv)
theorem ents61 : Ents Tryz.prog 61 := ents_of Tryz.func61 (by kernel_rfl) rfl
noncomputable def impl_IsPossible (aList : (List Claim)) (aF : Fact) : Option (Bool × Int) :=
  ((impl_factCode aList aF).bind fun x1 => (bif (x1 != 0) then some (false, x1) else ((impl_isPossible aList aF).bind fun x2 => some (x2, 0))))
theorem impl_IsPossible_run (aList : (List Claim)) (aF : Fact) (r : Bool × Int) (h : impl_IsPossible aList aF = some r) : SCall Tryz.prog 30 [.v (vl eClaim aList), .v (.agg (tc eFact aF))] ⟨[.v (vb r.1), .v (vi r.2)], [], false⟩ := by
  refine scall_in Tryz.func30 rfl [(.tmp 4), (.tmp 5)] rfl (fun r => ⟨[.v (vb r.1), .v (vi r.2)], [], false⟩) (r := r) ?_
  unfold impl_IsPossible at h
  refine srk tbokGB ⟨16, [(0, vl eClaim aList), (3, .ref 3 0)], [(3, .box (tc eFact aF))]⟩ ?_
  refine swp_seq ?_
  refine sr ?_
  refine SRun.ck tbokGB 2 ⟨16, [(0, vl eClaim aList), (3, .ref 3 0), (7, vl eClaim aList), (8, .agg (tc eFact aF))], [(3, .box (tc eFact aF))]⟩ ?_
  obtain ⟨x1, hx1, h⟩ := bind_some h
  refine SRun.ls (xc ents61 (impl_factCode_run aList aF _ hx1)) ?_
  refine ckn tbokGB 1 ⟨16, [(0, vl eClaim aList), (3, .ref 3 0), (6, vi x1)], [(3, .box (tc eFact aF))]⟩ ?_
  refine srk tbokGB ⟨16, [(0, vl eClaim aList), (3, .ref 3 0), (6, vi x1), (11, vb (x1 != 0))], [(3, .box (tc eFact aF))]⟩ ?_
  refine swp_cd h (fun h => ?_) fun h => ?_
  refine srk tbokGB ⟨16, [(4, vb false), (5, vi x1)], []⟩ ?_
  refine swp_ret ?_
  obtain rfl := inj h
  exact nx_r (q_fr (f2 fv fv))
  refine swp_skip ?_
  refine nx_n ?_
  refine sr ?_
  refine SRun.ck tbokGB 2 ⟨16, [(13, vl eClaim aList), (14, .agg (tc eFact aF))], []⟩ ?_
  obtain ⟨x2, hx2, h⟩ := bind_some h
  refine SRun.ls (xc ents56 (impl_isPossible_run aList aF _ hx2)) ?_
  refine ckn tbokGB 2 ⟨16, [(4, vb x2), (5, vi 0)], []⟩ ?_
  refine swp_ret ?_
  obtain rfl := inj h
  exact q_fr (f2 fv fv)
theorem ents30 : Ents Tryz.prog 30 := ents_of Tryz.func30 (by kernel_rfl) rfl
noncomputable def laws_hasText (aList : (List ByteArray)) (aS : ByteArray) : Option (Bool) :=
  (((forN (aList.length : Int) (fun (i3 : Int) (_ : Unit) => ((at' aList i3).bind fun x7 => (bif (x7.toList == aS.toList) then some (.inr (.inr true)) else some (.inl ())))) (fun (_ : Unit) => .inl ()) 0 ())).bind (Sum.elim (fun (_ : Unit) => some false) some))
theorem laws_hasText_run (aList : (List ByteArray)) (aS : ByteArray) (r : Bool) (h : laws_hasText aList aS = some r) : SCall Tryz.prog 31 [.v (vl eS aList), .v (vs aS)] ⟨[.v (vb r)], [], false⟩ := by
  refine scall_in Tryz.func31 rfl [(.tmp 4)] rfl (fun r => ⟨[.v (vb r)], [], false⟩) (r := r) ?_
  unfold laws_hasText at h
  refine srk tbokGB ⟨18, [(0, vl eS aList), (1, vs aS)], []⟩ ?_
  refine swp_seq ?_
  refine srk tbokGB ⟨18, [(0, vl eS aList), (1, vs aS), (5, vi 0)], []⟩ ?_
  refine swp_seqE (r := r) h (fun j1 => ⟨18, [], []⟩) (fun v2 h => ?_) (fun j1 h => ?_)
  refine swp_blk (a := v2) ?_
  refine swp_lpL (r := v2) (s := (0, ())) _ (fun s3 => ⟨18, [(0, vl eS aList), (1, vs aS), (5, vi s3.1)], []⟩) _ (Le.sub0) h (fun s3 v4 h => ?_)
  refine swp_seq ?_
  refine srk tbokGB ⟨18, [(0, vl eS aList), (1, vs aS), (5, vi s3.1), (9, vb (decide (s3.1 < (aList.length : Int))))], []⟩ ?_
  refine swp_cd h (fun h => ?_) fun h => ?_
  refine swp_skip ?_
  refine nx_n ?_
  refine swp_seq ?_
  refine swp_seqL (r := v4) h (fun j5 => ⟨18, [(0, vl eS aList), (1, vs aS), (5, vi s3.1)], []⟩) (fun v6 h => ?_) (fun j5 h => ?_)
  refine swp_blk (a := v6) ?_
  refine sr ?_
  refine SRun.ck tbokGB 2 ⟨18, [(0, vl eS aList), (1, vs aS), (5, vi s3.1), (12, vl eS aList), (13, vi s3.1)], []⟩ ?_
  obtain ⟨x7, hx7, h⟩ := bind_some h
  refine SRun.ls (x_index (L := aList) (f := eS) (ti := ti52) (tj := ti9) (e := 9) (k := .i64) tbokGB rfl hx7) ?_
  refine ckn tbokGB 3 ⟨18, [(0, vl eS aList), (1, vs aS), (5, vi s3.1), (17, vb (x7.toList == aS.toList))], []⟩ ?_
  refine swp_cd h (fun h => ?_) fun h => ?_
  refine srk tbokGB ⟨18, [(4, vb true)], []⟩ ?_
  refine swp_ret ?_
  obtain rfl := inj h
  exact q_br (q_rr (q_rr (q_br (q_rr (q_fr (f1 fv))))))
  refine swp_skip ?_
  obtain rfl := inj h
  exact q_bn (q_l (Le.sub0))
  refine swp_reg ?_
  refine SRun.ck tbokGB 3 ⟨18, [(0, vl eS aList), (1, vs aS), (5, vi (w64 (s3.1 + 1)))], []⟩ ?_
  refine SRun.nil ?_
  obtain rfl := inj h
  exact q_l (Le.sub0)
  refine swp_exit ?_
  obtain rfl := inj h
  exact nx_e (q_re (q_bh (q_l (Le.sub0))))
  refine srk tbokGB ⟨18, [(4, vb false)], []⟩ ?_
  refine swp_ret ?_
  obtain rfl := inj h
  exact q_fr (f1 fv)
theorem ents31 : Ents Tryz.prog 31 := ents_of Tryz.func31 (by kernel_rfl) rfl
noncomputable def laws_FnBestNames (aCode : (List Int)) : Option (Bool) :=
  ((laws_big aCode).bind fun x1 => (bif x1 then some true else ((spec_DrawBestName aCode).bind fun x2 => ((impl_BestName x2.1 x2.2.1 x2.2.2).bind fun x3 => ((spec_BestName x2.1 x2.2.1 x2.2.2).bind fun x4 => ((impl_BestParent x2.1 x2.2.1 x2.2.2).bind fun x5 => ((spec_BestParent x2.1 x2.2.1 x2.2.2).bind fun x6 => ((impl_NamesPossible x2.1 x2.2.1 x2.2.2).bind fun x7 => ((spec_NamesPossible x2.1 x2.2.1 x2.2.2).bind fun x8 => (((bif (x3.2 != x4.2) then some true else (bif (!(x3.1.toList == x4.1.toList)) then some true else (bif (x5.2 != x6.2) then some true else (bif (!(x5.1.toList == x6.1.toList)) then some true else (bif (x7.2 != x8.2) then some true else ((laws_likeTexts x7.1 x8.1).bind fun x9 => some (!x9)))))))).bind fun (j10 : Bool) => (bif j10 then some false else (((bif (x5.2 == 0) then ((impl_IsPossible x2.1 (Fact.mk 1 x2.2.1 x5.1 x2.2.2)).bind fun x14 => (bif ((x14.2 != 0) || (!x14.1)) then some (.inr false) else some (.inl ()))) else some (.inl ()))).bind (Sum.elim (fun (_ : Unit) => (((bif (x3.2 != 0) then some true else (bif (x7.2 == 0) then ((laws_hasText x7.1 x3.1).bind fun x15 => some x15) else some false))).bind fun (j16 : Bool) => some j16)) some)))))))))))))
theorem laws_FnBestNames_run (aCode : (List Int)) (r : Bool) (h : laws_FnBestNames aCode = some r) : SCall Tryz.prog 6 [.v (vl (eI .u8) aCode)] ⟨[.v (vb r)], [], false⟩ := by
  refine scall_in Tryz.func6 rfl [(.tmp 2)] rfl (fun r => ⟨[.v (vb r)], [], false⟩) (r := r) ?_
  unfold laws_FnBestNames at h
  refine srk tbokGB ⟨127, [(0, vl (eI .u8) aCode)], []⟩ ?_
  refine swp_seq ?_
  refine sr ?_
  refine SRun.ck tbokGB 1 ⟨127, [(0, vl (eI .u8) aCode), (20, vl (eI .u8) aCode)], []⟩ ?_
  obtain ⟨x1, hx1, h⟩ := bind_some h
  refine SRun.ls (xc ents7 (laws_big_run aCode _ hx1)) ?_
  refine SRun.nx ?_
  refine swp_cd h (fun h => ?_) fun h => ?_
  refine srk tbokGB ⟨127, [(2, vb true)], []⟩ ?_
  refine swp_ret ?_
  obtain rfl := inj h
  exact nx_r (q_fr (f1 fv))
  refine swp_skip ?_
  refine nx_n ?_
  refine sr ?_
  refine SRun.ck tbokGB 1 ⟨127, [(23, vl (eI .u8) aCode)], []⟩ ?_
  obtain ⟨x2, hx2, h⟩ := bind_some h
  refine SRun.ls (xc ents26 (spec_DrawBestName_run aCode _ hx2)) ?_
  refine ckn tbokGB 7 ⟨127, [(3, .own 24), (4, vs x2.2.1), (5, vi x2.2.2)], [(24, oa 42 7 eClaim x2.1)]⟩ ?_
  refine sr ?_
  refine SRun.ck tbokGB 3 ⟨127, [(3, .own 24), (4, vs x2.2.1), (5, vi x2.2.2), (29, .own 24), (30, vs x2.2.1), (31, vi x2.2.2)], [(24, oa 42 7 eClaim x2.1)]⟩ ?_
  obtain ⟨x3, hx3, h⟩ := bind_some h
  refine SRun.ls (xc ents19 (impl_BestName_run x2.1 x2.2.1 x2.2.2 _ hx3)) ?_
  refine ckn tbokGB 5 ⟨127, [(3, .own 24), (4, vs x2.2.1), (5, vi x2.2.2), (6, vs x3.1), (7, vi x3.2)], [(24, oa 42 7 eClaim x2.1)]⟩ ?_
  refine sr ?_
  refine SRun.ck tbokGB 3 ⟨127, [(3, .own 24), (4, vs x2.2.1), (5, vi x2.2.2), (6, vs x3.1), (7, vi x3.2), (36, .own 24), (37, vs x2.2.1), (38, vi x2.2.2)], [(24, oa 42 7 eClaim x2.1)]⟩ ?_
  obtain ⟨x4, hx4, h⟩ := bind_some h
  refine SRun.ls (xc ents25 (spec_BestName_run x2.1 x2.2.1 x2.2.2 _ hx4)) ?_
  refine ckn tbokGB 5 ⟨127, [(3, .own 24), (4, vs x2.2.1), (5, vi x2.2.2), (6, vs x3.1), (7, vi x3.2), (8, vs x4.1), (9, vi x4.2)], [(24, oa 42 7 eClaim x2.1)]⟩ ?_
  refine sr ?_
  refine SRun.ck tbokGB 3 ⟨127, [(3, .own 24), (4, vs x2.2.1), (5, vi x2.2.2), (6, vs x3.1), (7, vi x3.2), (8, vs x4.1), (9, vi x4.2), (43, .own 24), (44, vs x2.2.1), (45, vi x2.2.2)], [(24, oa 42 7 eClaim x2.1)]⟩ ?_
  obtain ⟨x5, hx5, h⟩ := bind_some h
  refine SRun.ls (xc ents23 (impl_BestParent_run x2.1 x2.2.1 x2.2.2 _ hx5)) ?_
  refine ckn tbokGB 5 ⟨127, [(3, .own 24), (4, vs x2.2.1), (5, vi x2.2.2), (6, vs x3.1), (7, vi x3.2), (8, vs x4.1), (9, vi x4.2), (10, vs x5.1), (11, vi x5.2)], [(24, oa 42 7 eClaim x2.1)]⟩ ?_
  refine sr ?_
  refine SRun.ck tbokGB 3 ⟨127, [(3, .own 24), (4, vs x2.2.1), (5, vi x2.2.2), (6, vs x3.1), (7, vi x3.2), (8, vs x4.1), (9, vi x4.2), (10, vs x5.1), (11, vi x5.2), (50, .own 24), (51, vs x2.2.1), (52, vi x2.2.2)], [(24, oa 42 7 eClaim x2.1)]⟩ ?_
  obtain ⟨x6, hx6, h⟩ := bind_some h
  refine SRun.ls (xc ents21 (spec_BestParent_run x2.1 x2.2.1 x2.2.2 _ hx6)) ?_
  refine ckn tbokGB 5 ⟨127, [(3, .own 24), (4, vs x2.2.1), (5, vi x2.2.2), (6, vs x3.1), (7, vi x3.2), (8, vs x4.1), (9, vi x4.2), (10, vs x5.1), (11, vi x5.2), (12, vs x6.1), (13, vi x6.2)], [(24, oa 42 7 eClaim x2.1)]⟩ ?_
  refine sr ?_
  refine SRun.ck tbokGB 3 ⟨127, [(3, .own 24), (4, vs x2.2.1), (5, vi x2.2.2), (6, vs x3.1), (7, vi x3.2), (8, vs x4.1), (9, vi x4.2), (10, vs x5.1), (11, vi x5.2), (12, vs x6.1), (13, vi x6.2), (57, .own 24), (58, vs x2.2.1), (59, vi x2.2.2)], [(24, oa 42 7 eClaim x2.1)]⟩ ?_
  obtain ⟨x7, hx7, h⟩ := bind_some h
  refine SRun.ls (xc ents27 (impl_NamesPossible_run x2.1 x2.2.1 x2.2.2 _ hx7)) ?_
  refine ckn tbokGB 5 ⟨127, [(3, .own 24), (4, vs x2.2.1), (5, vi x2.2.2), (6, vs x3.1), (7, vi x3.2), (8, vs x4.1), (9, vi x4.2), (10, vs x5.1), (11, vi x5.2), (12, vs x6.1), (13, vi x6.2), (14, .own 60), (15, vi x7.2)], [(24, oa 42 7 eClaim x2.1), (60, oa 9 1 eS x7.1)]⟩ ?_
  refine sr ?_
  refine SRun.ck tbokGB 3 ⟨127, [(3, .own 24), (4, vs x2.2.1), (5, vi x2.2.2), (6, vs x3.1), (7, vi x3.2), (8, vs x4.1), (9, vi x4.2), (10, vs x5.1), (11, vi x5.2), (12, vs x6.1), (13, vi x6.2), (14, .own 60), (15, vi x7.2), (64, .own 24), (65, vs x2.2.1), (66, vi x2.2.2)], [(24, oa 42 7 eClaim x2.1), (60, oa 9 1 eS x7.1)]⟩ ?_
  refine SRun.le (Le.frz' (d := 24) (e := 42) (m := 7) (n := x2.1.length) (es := x2.1.map eClaim) (by kernel_rfl) (by kernel_rfl)) ?_
  obtain ⟨x8, hx8, h⟩ := bind_some h
  refine SRun.ls (xc ents28 (spec_NamesPossible_run x2.1 x2.2.1 x2.2.2 _ hx8)) ?_
  refine ckn tbokGB 5 ⟨127, [(3, vl eClaim x2.1), (4, vs x2.2.1), (5, vi x2.2.2), (6, vs x3.1), (7, vi x3.2), (8, vs x4.1), (9, vi x4.2), (10, vs x5.1), (11, vi x5.2), (12, vs x6.1), (13, vi x6.2), (14, .own 60), (15, vi x7.2), (16, vl eS x8.1), (17, vi x8.2)], [(60, oa 9 1 eS x7.1)]⟩ ?_
  refine swp_seq ?_
  refine swp_seq ?_
  refine swp_regJ h (fun j10 => ⟨127, [(3, vl eClaim x2.1), (4, vs x2.2.1), (5, vi x2.2.2), (6, vs x3.1), (7, vi x3.2), (10, vs x5.1), (11, vi x5.2), (14, .own 14), (15, vi x7.2), (98, vb j10)], [(14, oa 9 1 eS x7.1)]⟩) (fun v11 h => ?_) (fun j10 h => ?_)
  refine SRun.ck tbokGB 4 ⟨127, [(3, vl eClaim x2.1), (4, vs x2.2.1), (5, vi x2.2.2), (6, vs x3.1), (7, vi x3.2), (8, vs x4.1), (10, vs x5.1), (11, vi x5.2), (12, vs x6.1), (13, vi x6.2), (14, .own 60), (15, vi x7.2), (16, vl eS x8.1), (17, vi x8.2), (73, vb (x3.2 != x4.2))], [(60, oa 9 1 eS x7.1)]⟩ ?_
  refine SRun.cu [(73, fun b => b)] h (fun h => ?_) fun h => ?_
  refine SRun.ck tbokGB 25 ⟨127, [(3, vl eClaim x2.1), (4, vs x2.2.1), (5, vi x2.2.2), (6, vs x3.1), (7, vi x3.2), (10, vs x5.1), (11, vi x5.2), (14, .own 60), (15, vi x7.2), (98, vb true)], [(60, oa 9 1 eS x7.1)]⟩ ?_
  refine SRun.nil ?_
  obtain rfl := inj h
  exact Le.rr [60] [(60, 14)]
  refine SRun.ck tbokGB 5 ⟨127, [(3, vl eClaim x2.1), (4, vs x2.2.1), (5, vi x2.2.2), (6, vs x3.1), (7, vi x3.2), (10, vs x5.1), (11, vi x5.2), (12, vs x6.1), (13, vi x6.2), (14, .own 60), (15, vi x7.2), (16, vl eS x8.1), (17, vi x8.2), (78, vb (!(x3.1.toList == x4.1.toList)))], [(60, oa 9 1 eS x7.1)]⟩ ?_
  refine SRun.cu [(78, fun b => b)] h (fun h => ?_) fun h => ?_
  refine SRun.ck tbokGB 20 ⟨127, [(3, vl eClaim x2.1), (4, vs x2.2.1), (5, vi x2.2.2), (6, vs x3.1), (7, vi x3.2), (10, vs x5.1), (11, vi x5.2), (14, .own 60), (15, vi x7.2), (98, vb true)], [(60, oa 9 1 eS x7.1)]⟩ ?_
  refine SRun.nil ?_
  obtain rfl := inj h
  exact Le.rr [60] [(60, 14)]
  refine SRun.ck tbokGB 5 ⟨127, [(3, vl eClaim x2.1), (4, vs x2.2.1), (5, vi x2.2.2), (6, vs x3.1), (7, vi x3.2), (10, vs x5.1), (11, vi x5.2), (12, vs x6.1), (14, .own 60), (15, vi x7.2), (16, vl eS x8.1), (17, vi x8.2), (83, vb (x5.2 != x6.2))], [(60, oa 9 1 eS x7.1)]⟩ ?_
  refine SRun.cu [(83, fun b => b)] h (fun h => ?_) fun h => ?_
  refine SRun.ck tbokGB 15 ⟨127, [(3, vl eClaim x2.1), (4, vs x2.2.1), (5, vi x2.2.2), (6, vs x3.1), (7, vi x3.2), (10, vs x5.1), (11, vi x5.2), (14, .own 60), (15, vi x7.2), (98, vb true)], [(60, oa 9 1 eS x7.1)]⟩ ?_
  refine SRun.nil ?_
  obtain rfl := inj h
  exact Le.rr [60] [(60, 14)]
  refine SRun.ck tbokGB 5 ⟨127, [(3, vl eClaim x2.1), (4, vs x2.2.1), (5, vi x2.2.2), (6, vs x3.1), (7, vi x3.2), (10, vs x5.1), (11, vi x5.2), (14, .own 60), (15, vi x7.2), (16, vl eS x8.1), (17, vi x8.2), (88, vb (!(x5.1.toList == x6.1.toList)))], [(60, oa 9 1 eS x7.1)]⟩ ?_
  refine SRun.cu [(88, fun b => b)] h (fun h => ?_) fun h => ?_
  refine SRun.ck tbokGB 10 ⟨127, [(3, vl eClaim x2.1), (4, vs x2.2.1), (5, vi x2.2.2), (6, vs x3.1), (7, vi x3.2), (10, vs x5.1), (11, vi x5.2), (14, .own 60), (15, vi x7.2), (98, vb true)], [(60, oa 9 1 eS x7.1)]⟩ ?_
  refine SRun.nil ?_
  obtain rfl := inj h
  exact Le.rr [60] [(60, 14)]
  refine SRun.ck tbokGB 5 ⟨127, [(3, vl eClaim x2.1), (4, vs x2.2.1), (5, vi x2.2.2), (6, vs x3.1), (7, vi x3.2), (10, vs x5.1), (11, vi x5.2), (14, .own 60), (15, vi x7.2), (16, vl eS x8.1), (93, vb (x7.2 != x8.2))], [(60, oa 9 1 eS x7.1)]⟩ ?_
  refine SRun.cu [(93, fun b => b)] h (fun h => ?_) fun h => ?_
  refine SRun.ck tbokGB 5 ⟨127, [(3, vl eClaim x2.1), (4, vs x2.2.1), (5, vi x2.2.2), (6, vs x3.1), (7, vi x3.2), (10, vs x5.1), (11, vi x5.2), (14, .own 60), (15, vi x7.2), (98, vb true)], [(60, oa 9 1 eS x7.1)]⟩ ?_
  refine SRun.nil ?_
  obtain rfl := inj h
  exact Le.rr [60] [(60, 14)]
  refine SRun.ck tbokGB 2 ⟨127, [(3, vl eClaim x2.1), (4, vs x2.2.1), (5, vi x2.2.2), (6, vs x3.1), (7, vi x3.2), (10, vs x5.1), (11, vi x5.2), (14, .own 60), (15, vi x7.2), (93, vb false), (94, .own 60), (95, vl eS x8.1)], [(60, oa 9 1 eS x7.1)]⟩ ?_
  obtain ⟨x9, hx9, h⟩ := bind_some h
  refine SRun.ls (xc ents29 (laws_likeTexts_run x7.1 x8.1 _ hx9)) ?_
  refine SRun.ck tbokGB 2 ⟨127, [(3, vl eClaim x2.1), (4, vs x2.2.1), (5, vi x2.2.2), (6, vs x3.1), (7, vi x3.2), (10, vs x5.1), (11, vi x5.2), (14, .own 60), (15, vi x7.2), (98, vb (!x9))], [(60, oa 9 1 eS x7.1)]⟩ ?_
  refine SRun.nil ?_
  obtain rfl := inj h
  exact Le.rr [60] [(60, 14)]
  refine swp_cd h (fun h => ?_) fun h => ?_
  refine srk tbokGB ⟨127, [(2, vb false)], []⟩ ?_
  refine swp_ret ?_
  obtain rfl := inj h
  exact nx_r (q_fr (f1 fv))
  refine swp_skip ?_
  refine nx_n ?_
  refine swp_seq ?_
  refine srk tbokGB ⟨127, [(3, vl eClaim x2.1), (4, vs x2.2.1), (5, vi x2.2.2), (6, vs x3.1), (7, vi x3.2), (10, vs x5.1), (14, .own 14), (15, vi x7.2), (100, vb (x5.2 == 0))], [(14, oa 9 1 eS x7.1)]⟩ ?_
  refine swp_seqE (r := r) h (fun j12 => ⟨127, [(6, vs x3.1), (7, vi x3.2), (14, .own 14), (15, vi x7.2)], [(14, oa 9 1 eS x7.1)]⟩) (fun v13 h => ?_) (fun j12 h => ?_)
  refine swp_cd h (fun h => ?_) fun h => ?_
  refine sr ?_
  refine SRun.ck tbokGB 4 ⟨127, [(6, vs x3.1), (7, vi x3.2), (14, .own 14), (15, vi x7.2), (102, vl eClaim x2.1), (103, vs x2.2.1), (104, vs x5.1), (105, vi x2.2.2)], [(14, oa 9 1 eS x7.1)]⟩ ?_
  refine SRun.ls (x_lstep_build (v := .agg [vi 1, vs x2.2.1, vs x5.1, vi x2.2.2]) tbokGB rfl) ?_
  obtain ⟨x14, hx14, h⟩ := bind_some h
  refine SRun.ls (xc ents30 (impl_IsPossible_run x2.1 (Fact.mk 1 x2.2.1 x5.1 x2.2.2) _ hx14)) ?_
  refine ckn tbokGB 5 ⟨127, [(6, vs x3.1), (7, vi x3.2), (14, .own 14), (15, vi x7.2), (18, vb x14.1), (19, vi x14.2)], [(14, oa 9 1 eS x7.1)]⟩ ?_
  refine swp_seq ?_
  refine swp_regP ⟨127, [(6, vs x3.1), (7, vi x3.2), (14, .own 14), (15, vi x7.2), (115, vb ((x14.2 != 0) || (!x14.1)))], [(14, oa 9 1 eS x7.1)]⟩ ?_ ?_
  refine SRun.ck tbokGB 3 ⟨127, [(6, vs x3.1), (7, vi x3.2), (14, .own 14), (15, vi x7.2), (18, vb x14.1), (112, vb (x14.2 != 0))], [(14, oa 9 1 eS x7.1)]⟩ ?_
  generalize (x14.2 != 0) = bb
  cases bb
  refine SRun.ck tbokGB 3 ⟨127, [(6, vs x3.1), (7, vi x3.2), (14, .own 14), (15, vi x7.2), (115, vb (!x14.1))], [(14, oa 9 1 eS x7.1)]⟩ ?_
  exact SRun.nil (Le.sub0)
  refine SRun.ck tbokGB 3 ⟨127, [(6, vs x3.1), (7, vi x3.2), (14, .own 14), (15, vi x7.2), (115, vb true)], [(14, oa 9 1 eS x7.1)]⟩ ?_
  exact SRun.nil (Le.sub0)
  refine swp_cd h (fun h => ?_) fun h => ?_
  refine srk tbokGB ⟨127, [(2, vb false)], []⟩ ?_
  refine swp_ret ?_
  obtain rfl := inj h
  exact q_rr (q_fr (f1 fv))
  refine swp_skip ?_
  obtain rfl := inj h
  exact q_l (Le.sub0)
  refine swp_skip ?_
  obtain rfl := inj h
  exact q_l (Le.sub0)
  refine swp_seq ?_
  refine swp_regJ h (fun j16 => ⟨127, [(2, vb j16)], []⟩) (fun v17 h => ?_) (fun j16 h => ?_)
  refine SRun.ck tbokGB 3 ⟨127, [(6, vs x3.1), (14, .own 14), (15, vi x7.2), (118, vb (x3.2 != 0))], [(14, oa 9 1 eS x7.1)]⟩ ?_
  refine SRun.cu [(118, fun b => b)] h (fun h => ?_) fun h => ?_
  refine SRun.ck tbokGB 9 ⟨127, [(2, vb true)], []⟩ ?_
  refine SRun.nil ?_
  obtain rfl := inj h
  exact Le.sub0
  refine SRun.ck tbokGB 3 ⟨127, [(6, vs x3.1), (14, .own 14), (118, vb false), (121, vb (x7.2 == 0))], [(14, oa 9 1 eS x7.1)]⟩ ?_
  refine SRun.cu [(121, fun b => b)] h (fun h => ?_) fun h => ?_
  refine SRun.ck tbokGB 2 ⟨127, [(118, vb false), (121, vb true), (122, .own 14), (123, vs x3.1)], [(14, oa 9 1 eS x7.1)]⟩ ?_
  obtain ⟨x15, hx15, h⟩ := bind_some h
  refine SRun.ls (xc ents31 (laws_hasText_run x7.1 x3.1 _ hx15)) ?_
  refine SRun.ck tbokGB 3 ⟨127, [(2, vb x15)], []⟩ ?_
  refine SRun.nil ?_
  obtain rfl := inj h
  exact Le.sub0
  refine SRun.ck tbokGB 6 ⟨127, [(2, vb false)], []⟩ ?_
  refine SRun.nil ?_
  obtain rfl := inj h
  exact Le.sub0
  refine swp_ret ?_
  obtain rfl := inj h
  exact q_fr (f1 fv)
end Go.Proofs.YtppehghiiahabaaGreatDoor.Sh
