/- Typed functions and the calls that do what they say. -/
import Derived.Test.YtfllgbokdhhedaaGreatDoorGBp0
import Derived.Test.YtfllgbokdhhedaaGreatDoorKA
import Derived.Test.YtfllgbokdhhedaaGreatDoorKS
import Derived.Test.YtfllgbokdhhedaaGreatDoorSF
import Derived.Test.YtfllgbokdhhedaaGreatDoorH1
namespace Go.Proofs.YtfllgbokdhhedaaGreatDoor.Sh
open Go.RowKit
set_option maxRecDepth 100000
set_option maxHeartbeats 4000000
noncomputable def impl_chosen (aList : (List Claim)) (aIndices : (List Int)) : Option ((List Claim)) :=
  (((forS (aIndices.length : Int) (fun (i3 : Int) (s3 : (List Claim)) => ((at' aIndices i3).bind fun x7 => ((at' aList x7).bind fun x8 => ((app' s3 ([x8] : List Claim)).bind fun x9 => some x9)))) (fun (s3 : (List Claim)) => s3) 0 ([] : List Claim))).bind fun (j1 : (List Claim)) => some j1)
theorem impl_chosen_run (aList : (List Claim)) (aIndices : (List Int)) (r : (List Claim)) (h : impl_chosen aList aIndices = some r) : SCall Tryz.prog 32 [.v (vl eClaim aList), .v (vl (eI .i64) aIndices)] ⟨[.own 35 7 r.length (r.map eClaim)], [], false⟩ := by
  refine scall_in Tryz.func32 rfl [(.tmp 4)] rfl (fun r => ⟨[.own 35 7 r.length (r.map eClaim)], [], false⟩) (r := r) ?_
  unfold impl_chosen at h
  refine srk tbok ⟨23, [(0, vl eClaim aList), (1, vl (eI .i64) aIndices)], []⟩ ?_
  refine srk tbok ⟨23, [(0, vl eClaim aList), (1, vl (eI .i64) aIndices), (5, .own 5)], [(5, oa 35 7 eClaim ([] : List Claim))]⟩ ?_
  refine swp_seq ?_
  refine srk tbok ⟨23, [(0, vl eClaim aList), (5, .own 5), (8, vl (eI .i64) aIndices), (9, vi (aIndices.length : Int)), (10, vi 0)], [(5, oa 35 7 eClaim ([] : List Claim))]⟩ ?_
  refine swp_seqJ h (fun j1 => ⟨23, [(5, .own 5)], [(5, oa 35 7 eClaim j1)]⟩) (fun v2 h => ?_) (fun j1 h => ?_)
  refine swp_blk (a := v2) ?_
  refine swp_lpL (r := v2) (s := (0, ([] : List Claim))) _ (fun s3 => ⟨23, [(0, vl eClaim aList), (5, .own 5), (8, vl (eI .i64) aIndices), (9, vi (aIndices.length : Int)), (10, vi s3.1)], [(5, oa 35 7 eClaim s3.2)]⟩) _ (Le.sub0) h (fun s3 v4 h => ?_)
  refine srk tbok ⟨23, [(0, vl eClaim aList), (5, .own 5), (8, vl (eI .i64) aIndices), (9, vi (aIndices.length : Int)), (10, vi s3.1), (11, vb (decide (s3.1 < (aIndices.length : Int))))], [(5, oa 35 7 eClaim s3.2)]⟩ ?_
  refine swp_seq ?_
  refine swp_cd h (fun h => ?_) fun h => ?_
  refine swp_skip ?_
  refine nx_n ?_
  refine swp_seq ?_
  refine swp_seqJ h (fun j5 => ⟨23, [(0, vl eClaim aList), (5, .own 5), (8, vl (eI .i64) aIndices), (9, vi (aIndices.length : Int)), (10, vi s3.1)], [(5, oa 35 7 eClaim j5)]⟩) (fun v6 h => ?_) (fun j5 h => ?_)
  refine swp_blk (a := v6) ?_
  refine sr ?_
  obtain ⟨x7, hx7, h⟩ := bind_some h
  refine SRun.ls (x_index (L := aIndices) (f := (eI .i64)) (ti := ti28) (tj := ti2) (e := 2) (k := .i64) tbok rfl hx7) ?_
  refine ckn tbok 2 ⟨23, [(0, vl eClaim aList), (5, .own 5), (7, vi x7), (8, vl (eI .i64) aIndices), (9, vi (aIndices.length : Int)), (10, vi s3.1)], [(5, oa 35 7 eClaim s3.2)]⟩ ?_
  refine swp_reg ?_
  refine SRun.ck tbok 3 ⟨23, [(0, vl eClaim aList), (8, vl (eI .i64) aIndices), (9, vi (aIndices.length : Int)), (10, vi s3.1), (14, .own 5), (15, vl eClaim aList), (16, vi x7)], [(5, oa 35 7 eClaim s3.2)]⟩ ?_
  obtain ⟨x8, hx8, h⟩ := bind_some h
  refine SRun.ls (x_index (L := aList) (f := eClaim) (ti := ti24) (tj := ti35) (e := 35) (k := .i64) tbok rfl hx8) ?_
  refine SRun.ck tbok 2 ⟨23, [(0, vl eClaim aList), (8, vl (eI .i64) aIndices), (9, vi (aIndices.length : Int)), (10, vi s3.1), (14, .own 5), (19, .own 19)], [(5, oa 35 7 eClaim s3.2), (19, oa 35 7 eClaim ([x8] : List Claim))]⟩ ?_
  obtain ⟨x9, hx9, h⟩ := bind_some h
  refine SRun.estep (x_append (f := eClaim) (t := 24) (ti := ti24) (tj := ti35) (zs := [.string (ByteArray.mk #[]), .int .i64 0, .string (ByteArray.mk #[]), .string (ByteArray.mk #[]), .int .i64 0, .int .i64 0, .int .i64 0]) (e := 35) (m := 7) (d := 5) (xv := .own 19) hx9 tbok rfl rfl rfl rfl (x_src_o (e := 35))) ?_
  refine SRun.ck tbok 1 ⟨23, [(0, vl eClaim aList), (5, .own 20), (8, vl (eI .i64) aIndices), (9, vi (aIndices.length : Int)), (10, vi s3.1)], [(20, oa 35 7 eClaim x9)]⟩ ?_
  refine SRun.nil ?_
  obtain rfl := inj h
  exact q_bn (q_j (Le.rr [20] [(20, 5)]))
  refine swp_reg ?_
  refine SRun.ck tbok 2 ⟨23, [(0, vl eClaim aList), (5, .own 5), (8, vl (eI .i64) aIndices), (9, vi (aIndices.length : Int)), (10, vi (w64 (s3.1 + 1)))], [(5, oa 35 7 eClaim j5)]⟩ ?_
  refine SRun.nil ?_
  obtain rfl := inj h
  exact q_l (Le.sub0)
  refine swp_exit ?_
  obtain rfl := inj h
  exact nx_e (q_re (q_bh (q_j (Le.sub0))))
  refine srk tbok ⟨23, [(4, .own 5)], [(5, oa 35 7 eClaim j1)]⟩ ?_
  refine swp_ret ?_
  obtain rfl := inj h
  exact q_fr (f1 (fo eClaim_flat))
theorem ents32 : Ents Tryz.prog 32 := ents_of Tryz.func32 (by kernel_rfl) rfl
noncomputable def impl_AreChosenConsistent (aList : (List Claim)) (aIndices : (List Int)) : Option (Bool × Int) :=
  ((impl_chosenCode aList aIndices).bind fun x1 => (bif (x1 != 0) then some (false, x1) else ((impl_chosen aList aIndices).bind fun x2 => ((impl_areConsistent x2).bind fun x3 => some (x3, 0)))))
theorem impl_AreChosenConsistent_run (aList : (List Claim)) (aIndices : (List Int)) (r : Bool × Int) (h : impl_AreChosenConsistent aList aIndices = some r) : SCall Tryz.prog 9 [.v (vl eClaim aList), .v (vl (eI .i64) aIndices)] ⟨[.v (vb r.1), .v (vi r.2)], [], false⟩ := by
  refine scall_in Tryz.func9 rfl [(.tmp 4), (.tmp 5)] rfl (fun r => ⟨[.v (vb r.1), .v (vi r.2)], [], false⟩) (r := r) ?_
  unfold impl_AreChosenConsistent at h
  refine srk tbok ⟨17, [(0, vl eClaim aList), (1, vl (eI .i64) aIndices)], []⟩ ?_
  refine swp_seq ?_
  refine sr ?_
  refine SRun.ck tbok 2 ⟨17, [(0, vl eClaim aList), (1, vl (eI .i64) aIndices), (7, vl eClaim aList), (8, vl (eI .i64) aIndices)], []⟩ ?_
  obtain ⟨x1, hx1, h⟩ := bind_some h
  refine SRun.ls (xc ents31 (impl_chosenCode_run aList aIndices _ hx1)) ?_
  refine ckn tbok 1 ⟨17, [(0, vl eClaim aList), (1, vl (eI .i64) aIndices), (6, vi x1)], []⟩ ?_
  refine srk tbok ⟨17, [(0, vl eClaim aList), (1, vl (eI .i64) aIndices), (6, vi x1), (11, vb (x1 != 0))], []⟩ ?_
  refine swp_cd h (fun h => ?_) fun h => ?_
  refine srk tbok ⟨17, [(4, vb false), (5, vi x1)], []⟩ ?_
  refine swp_ret ?_
  obtain rfl := inj h
  exact nx_r (q_fr (f2 fv fv))
  refine swp_skip ?_
  refine nx_n ?_
  refine sr ?_
  refine SRun.ck tbok 2 ⟨17, [(13, vl eClaim aList), (14, vl (eI .i64) aIndices)], []⟩ ?_
  obtain ⟨x2, hx2, h⟩ := bind_some h
  refine SRun.ls (xc ents32 (impl_chosen_run aList aIndices _ hx2)) ?_
  obtain ⟨x3, hx3, h⟩ := bind_some h
  refine SRun.ls (xc ents27 (impl_areConsistent_run x2 _ hx3)) ?_
  refine ckn tbok 2 ⟨17, [(4, vb x3), (5, vi 0)], []⟩ ?_
  refine swp_ret ?_
  obtain rfl := inj h
  exact q_fr (f2 fv fv)
theorem ents9 : Ents Tryz.prog 9 := ents_of Tryz.func9 (by kernel_rfl) rfl
noncomputable def spec_l01Rises (aList : (List Int)) (aN : Int) : Option (Bool) :=
  (((forN (aList.length : Int) (fun (i3 : Int) (_ : Unit) => ((((at' aList i3).bind fun x7 => ((spec_l01In x7 0 (w64 (aN - 1))).bind fun x8 => (bif (!x8) then some true else (bif (decide (i3 > 0)) then ((at' aList i3).bind fun x9 => ((at' aList (w64 (i3 - 1))).bind fun x10 => some (decide (x9 ≤ x10)))) else some false))))).bind fun (j11 : Bool) => (bif j11 then some (.inr (.inr false)) else some (.inl ())))) (fun (_ : Unit) => .inl ()) 0 ())).bind (Sum.elim (fun (_ : Unit) => some true) some))
theorem spec_l01Rises_run (aList : (List Int)) (aN : Int) (r : Bool) (h : spec_l01Rises aList aN = some r) : SCall Tryz.prog 33 [.v (vl (eI .i64) aList), .v (vi aN)] ⟨[.v (vb r)], [], false⟩ := by
  refine scall_in Tryz.func33 rfl [(.tmp 4)] rfl (fun r => ⟨[.v (vb r)], [], false⟩) (r := r) ?_
  unfold spec_l01Rises at h
  refine srk tbok ⟨36, [(0, vl (eI .i64) aList), (1, vi aN)], []⟩ ?_
  refine swp_seq ?_
  refine srk tbok ⟨36, [(0, vl (eI .i64) aList), (1, vi aN), (5, vi 0)], []⟩ ?_
  refine swp_seqE (r := r) h (fun j1 => ⟨36, [], []⟩) (fun v2 h => ?_) (fun j1 h => ?_)
  refine swp_blk (a := v2) ?_
  refine swp_lpL (r := v2) (s := (0, ())) _ (fun s3 => ⟨36, [(0, vl (eI .i64) aList), (1, vi aN), (5, vi s3.1)], []⟩) _ (Le.sub0) h (fun s3 v4 h => ?_)
  refine swp_seq ?_
  refine srk tbok ⟨36, [(0, vl (eI .i64) aList), (1, vi aN), (5, vi s3.1), (9, vb (decide (s3.1 < (aList.length : Int))))], []⟩ ?_
  refine swp_cd h (fun h => ?_) fun h => ?_
  refine swp_skip ?_
  refine nx_n ?_
  refine swp_seq ?_
  refine swp_seqL (r := v4) h (fun j5 => ⟨36, [(0, vl (eI .i64) aList), (1, vi aN), (5, vi s3.1)], []⟩) (fun v6 h => ?_) (fun j5 h => ?_)
  refine swp_blk (a := v6) ?_
  refine swp_seq ?_
  refine swp_drJ mixed h (fun j11 => ⟨36, [(0, vl (eI .i64) aList), (1, vi aN), (5, vi s3.1), (35, vb j11)], []⟩) (fun v12 h => ?_) (fun j11 h => ?_)
  refine DGo.ck tbok false 2 ⟨36, [(0, vl (eI .i64) aList), (1, vi aN), (5, vi s3.1), (12, vl (eI .i64) aList), (13, vi s3.1)], []⟩ ?_
  obtain ⟨x7, hx7, h⟩ := bind_some h
  refine DGo.step (x_index (L := aList) (f := (eI .i64)) (ti := ti28) (tj := ti2) (e := 2) (k := .i64) tbok rfl hx7) ?_
  refine DGo.ck tbok false 3 ⟨36, [(0, vl (eI .i64) aList), (1, vi aN), (5, vi s3.1), (15, vi x7), (17, vi (w64 (aN - 1)))], []⟩ ?_
  obtain ⟨x8, hx8, h⟩ := bind_some h
  refine DGo.step (xc ents57 (spec_l01In_run x7 0 (w64 (aN - 1)) _ hx8)) ?_
  refine DGo.ck tbok false 2 ⟨36, [(0, vl (eI .i64) aList), (1, vi aN), (5, vi s3.1), (20, vb (!x8))], []⟩ ?_
  refine DGo.cu [(20, fun b => b)] h (fun h => ?_) fun h => ?_
  refine DGo.ck tbok false 15 ⟨36, [(0, vl (eI .i64) aList), (1, vi aN), (5, vi s3.1), (35, vb true)], []⟩ ?_
  refine DGo.nil (by kernel_rfl) ?_
  obtain rfl := inj h
  exact Le.sub0
  refine DGo.ck tbok false 3 ⟨36, [(0, vl (eI .i64) aList), (1, vi aN), (5, vi s3.1), (20, vb false), (23, vb (decide (s3.1 > 0)))], []⟩ ?_
  refine DGo.cu [(23, fun b => b)] h (fun h => ?_) fun h => ?_
  refine DGo.ck tbok false 2 ⟨36, [(0, vl (eI .i64) aList), (1, vi aN), (5, vi s3.1), (20, vb false), (23, vb true), (24, vl (eI .i64) aList), (25, vi s3.1)], []⟩ ?_
  obtain ⟨x9, hx9, h⟩ := bind_some h
  refine DGo.step (x_index (L := aList) (f := (eI .i64)) (ti := ti28) (tj := ti2) (e := 2) (k := .i64) tbok rfl hx9) ?_
  refine DGo.ck tbok false 4 ⟨36, [(0, vl (eI .i64) aList), (1, vi aN), (5, vi s3.1), (20, vb false), (23, vb true), (27, vi x9), (28, vl (eI .i64) aList), (30, vi (w64 (s3.1 - 1)))], []⟩ ?_
  obtain ⟨x10, hx10, h⟩ := bind_some h
  refine DGo.step (x_index (L := aList) (f := (eI .i64)) (ti := ti28) (tj := ti2) (e := 2) (k := .i64) tbok rfl hx10) ?_
  refine DGo.ck tbok false 4 ⟨36, [(0, vl (eI .i64) aList), (1, vi aN), (5, vi s3.1), (35, vb (decide (x9 ≤ x10)))], []⟩ ?_
  refine DGo.nil (by kernel_rfl) ?_
  obtain rfl := inj h
  exact Le.sub0
  refine DGo.ck tbok false 12 ⟨36, [(0, vl (eI .i64) aList), (1, vi aN), (5, vi s3.1), (35, vb false)], []⟩ ?_
  refine DGo.nil (by kernel_rfl) ?_
  obtain rfl := inj h
  exact Le.sub0
  refine swp_cd h (fun h => ?_) fun h => ?_
  refine srk tbok ⟨36, [(4, vb false)], []⟩ ?_
  refine swp_ret ?_
  obtain rfl := inj h
  exact q_br (q_rr (q_rr (q_br (q_rr (q_fr (f1 fv))))))
  refine swp_skip ?_
  obtain rfl := inj h
  exact q_bn (q_l (Le.sub0))
  refine swp_reg ?_
  refine SRun.ck tbok 3 ⟨36, [(0, vl (eI .i64) aList), (1, vi aN), (5, vi (w64 (s3.1 + 1)))], []⟩ ?_
  refine SRun.nil ?_
  obtain rfl := inj h
  exact q_l (Le.sub0)
  refine swp_exit ?_
  obtain rfl := inj h
  exact nx_e (q_re (q_bh (q_l (Le.sub0))))
  refine srk tbok ⟨36, [(4, vb true)], []⟩ ?_
  refine swp_ret ?_
  obtain rfl := inj h
  exact q_fr (f1 fv)
theorem ents33 : Ents Tryz.prog 33 := ents_of Tryz.func33 (by kernel_rfl) rfl
noncomputable def spec_l21Chosen (aList : (List Claim)) (aIndices : (List Int)) : Option ((List Claim)) :=
  (((forS (aIndices.length : Int) (fun (i3 : Int) (s3 : (List Claim)) => ((at' aIndices i3).bind fun x7 => ((at' aList x7).bind fun x8 => ((app' s3 ([x8] : List Claim)).bind fun x9 => some x9)))) (fun (s3 : (List Claim)) => s3) 0 ([] : List Claim))).bind fun (j1 : (List Claim)) => some j1)
theorem spec_l21Chosen_run (aList : (List Claim)) (aIndices : (List Int)) (r : (List Claim)) (h : spec_l21Chosen aList aIndices = some r) : SCall Tryz.prog 34 [.v (vl eClaim aList), .v (vl (eI .i64) aIndices)] ⟨[.own 35 7 r.length (r.map eClaim)], [], false⟩ := by
  refine scall_in Tryz.func34 rfl [(.tmp 4)] rfl (fun r => ⟨[.own 35 7 r.length (r.map eClaim)], [], false⟩) (r := r) ?_
  unfold spec_l21Chosen at h
  refine srk tbok ⟨25, [(0, vl eClaim aList), (1, vl (eI .i64) aIndices)], []⟩ ?_
  refine srk tbok ⟨25, [(0, vl eClaim aList), (1, vl (eI .i64) aIndices), (5, .own 7)], [(7, oa 35 7 eClaim ([] : List Claim))]⟩ ?_
  refine swp_seq ?_
  refine srk tbok ⟨25, [(0, vl eClaim aList), (1, vl (eI .i64) aIndices), (5, .own 7), (6, vi 0)], [(7, oa 35 7 eClaim ([] : List Claim))]⟩ ?_
  refine swp_seqJ h (fun j1 => ⟨25, [(5, .own 5)], [(5, oa 35 7 eClaim j1)]⟩) (fun v2 h => ?_) (fun j1 h => ?_)
  refine swp_blk (a := v2) ?_
  refine swp_lpL (r := v2) (s := (0, ([] : List Claim))) _ (fun s3 => ⟨25, [(0, vl eClaim aList), (1, vl (eI .i64) aIndices), (5, .own 5), (6, vi s3.1)], [(5, oa 35 7 eClaim s3.2)]⟩) _ (Le.rr [7] [(7, 5)]) h (fun s3 v4 h => ?_)
  refine swp_seq ?_
  refine srk tbok ⟨25, [(0, vl eClaim aList), (1, vl (eI .i64) aIndices), (5, .own 5), (6, vi s3.1), (11, vb (decide (s3.1 < (aIndices.length : Int))))], [(5, oa 35 7 eClaim s3.2)]⟩ ?_
  refine swp_cd h (fun h => ?_) fun h => ?_
  refine swp_skip ?_
  refine nx_n ?_
  refine swp_seq ?_
  refine swp_seqJ h (fun j5 => ⟨25, [(0, vl eClaim aList), (1, vl (eI .i64) aIndices), (5, .own 5), (6, vi s3.1)], [(5, oa 35 7 eClaim j5)]⟩) (fun v6 h => ?_) (fun j5 h => ?_)
  refine swp_blk (a := v6) ?_
  refine swp_reg ?_
  refine SRun.ck tbok 4 ⟨25, [(0, vl eClaim aList), (1, vl (eI .i64) aIndices), (6, vi s3.1), (14, .own 5), (15, vl eClaim aList), (16, vl (eI .i64) aIndices), (17, vi s3.1)], [(5, oa 35 7 eClaim s3.2)]⟩ ?_
  obtain ⟨x7, hx7, h⟩ := bind_some h
  refine SRun.ls (x_index (L := aIndices) (f := (eI .i64)) (ti := ti28) (tj := ti2) (e := 2) (k := .i64) tbok rfl hx7) ?_
  refine SRun.ck tbok 1 ⟨25, [(0, vl eClaim aList), (1, vl (eI .i64) aIndices), (6, vi s3.1), (14, .own 5), (15, vl eClaim aList), (19, vi x7)], [(5, oa 35 7 eClaim s3.2)]⟩ ?_
  obtain ⟨x8, hx8, h⟩ := bind_some h
  refine SRun.ls (x_index (L := aList) (f := eClaim) (ti := ti24) (tj := ti35) (e := 35) (k := .i64) tbok rfl hx8) ?_
  refine SRun.ck tbok 2 ⟨25, [(0, vl eClaim aList), (1, vl (eI .i64) aIndices), (6, vi s3.1), (14, .own 5), (22, .own 22)], [(5, oa 35 7 eClaim s3.2), (22, oa 35 7 eClaim ([x8] : List Claim))]⟩ ?_
  obtain ⟨x9, hx9, h⟩ := bind_some h
  refine SRun.estep (x_append (f := eClaim) (t := 24) (ti := ti24) (tj := ti35) (zs := [.string (ByteArray.mk #[]), .int .i64 0, .string (ByteArray.mk #[]), .string (ByteArray.mk #[]), .int .i64 0, .int .i64 0, .int .i64 0]) (e := 35) (m := 7) (d := 5) (xv := .own 22) hx9 tbok rfl rfl rfl rfl (x_src_o (e := 35))) ?_
  refine SRun.ck tbok 1 ⟨25, [(0, vl eClaim aList), (1, vl (eI .i64) aIndices), (5, .own 23), (6, vi s3.1)], [(23, oa 35 7 eClaim x9)]⟩ ?_
  refine SRun.nil ?_
  obtain rfl := inj h
  exact q_bn (q_j (Le.rr [23] [(23, 5)]))
  refine swp_reg ?_
  refine SRun.ck tbok 3 ⟨25, [(0, vl eClaim aList), (1, vl (eI .i64) aIndices), (5, .own 5), (6, vi (w64 (s3.1 + 1)))], [(5, oa 35 7 eClaim j5)]⟩ ?_
  refine SRun.nil ?_
  obtain rfl := inj h
  exact q_l (Le.sub0)
  refine swp_exit ?_
  obtain rfl := inj h
  exact nx_e (q_re (q_bh (q_j (Le.sub0))))
  refine srk tbok ⟨25, [(4, .own 5)], [(5, oa 35 7 eClaim j1)]⟩ ?_
  refine swp_ret ?_
  obtain rfl := inj h
  exact q_fr (f1 (fo eClaim_flat))
theorem ents34 : Ents Tryz.prog 34 := ents_of Tryz.func34 (by kernel_rfl) rfl
noncomputable def spec_AreChosenConsistent (aList : (List Claim)) (aIndices : (List Int)) : Option (Bool × Int) :=
  ((spec_AreClaims aList).bind fun x1 => (bif (!x1) then some (false, 1) else ((spec_l01Rises aIndices (aList.length : Int)).bind fun x2 => (bif (!x2) then some (false, 2) else ((spec_l21Chosen aList aIndices).bind fun x3 => ((spec_l21Consistent x3).bind fun x4 => some (x4, 0)))))))
theorem spec_AreChosenConsistent_run (aList : (List Claim)) (aIndices : (List Int)) (r : Bool × Int) (h : spec_AreChosenConsistent aList aIndices = some r) : SCall Tryz.prog 10 [.v (vl eClaim aList), .v (vl (eI .i64) aIndices)] ⟨[.v (vb r.1), .v (vi r.2)], [], false⟩ := by
  refine scall_in Tryz.func10 rfl [(.tmp 4), (.tmp 5)] rfl (fun r => ⟨[.v (vb r.1), .v (vi r.2)], [], false⟩) (r := r) ?_
  unfold spec_AreChosenConsistent at h
  refine srk tbok ⟨18, [(0, vl eClaim aList), (1, vl (eI .i64) aIndices)], []⟩ ?_
  refine swp_seq ?_
  refine sr ?_
  refine SRun.ck tbok 1 ⟨18, [(0, vl eClaim aList), (1, vl (eI .i64) aIndices), (6, vl eClaim aList)], []⟩ ?_
  obtain ⟨x1, hx1, h⟩ := bind_some h
  refine SRun.ls (xc ents28 (spec_AreClaims_run aList _ hx1)) ?_
  refine ckn tbok 1 ⟨18, [(0, vl eClaim aList), (1, vl (eI .i64) aIndices), (8, vb (!x1))], []⟩ ?_
  refine swp_cd h (fun h => ?_) fun h => ?_
  refine srk tbok ⟨18, [(4, vb false), (5, vi 1)], []⟩ ?_
  refine swp_ret ?_
  obtain rfl := inj h
  exact nx_r (q_fr (f2 fv fv))
  refine swp_skip ?_
  refine nx_n ?_
  refine swp_seq ?_
  refine sr ?_
  refine SRun.ck tbok 3 ⟨18, [(0, vl eClaim aList), (1, vl (eI .i64) aIndices), (9, vl (eI .i64) aIndices), (11, vi (aList.length : Int))], []⟩ ?_
  obtain ⟨x2, hx2, h⟩ := bind_some h
  refine SRun.ls (xc ents33 (spec_l01Rises_run aIndices (aList.length : Int) _ hx2)) ?_
  refine ckn tbok 1 ⟨18, [(0, vl eClaim aList), (1, vl (eI .i64) aIndices), (13, vb (!x2))], []⟩ ?_
  refine swp_cd h (fun h => ?_) fun h => ?_
  refine srk tbok ⟨18, [(4, vb false), (5, vi 2)], []⟩ ?_
  refine swp_ret ?_
  obtain rfl := inj h
  exact nx_r (q_fr (f2 fv fv))
  refine swp_skip ?_
  refine nx_n ?_
  refine sr ?_
  refine SRun.ck tbok 2 ⟨18, [(14, vl eClaim aList), (15, vl (eI .i64) aIndices)], []⟩ ?_
  obtain ⟨x3, hx3, h⟩ := bind_some h
  refine SRun.ls (xc ents34 (spec_l21Chosen_run aList aIndices _ hx3)) ?_
  obtain ⟨x4, hx4, h⟩ := bind_some h
  refine SRun.ls (xc ents29 (spec_l21Consistent_run x3 _ hx4)) ?_
  refine ckn tbok 2 ⟨18, [(4, vb x4), (5, vi 0)], []⟩ ?_
  refine swp_ret ?_
  obtain rfl := inj h
  exact q_fr (f2 fv fv)
theorem ents10 : Ents Tryz.prog 10 := ents_of Tryz.func10 (by kernel_rfl) rfl
noncomputable def spec_DrawFitsTo (aCode : (List Int)) : Option ((List Claim) × Claim) :=
  ((spec_l01From aCode).bind fun x1 => ((spec_l21Sure x1).bind fun x2 => ((spec_l20Draw x2.2).bind fun x3 => some (x2.1, x3.1))))
theorem spec_DrawFitsTo_run (aCode : (List Int)) (r : (List Claim) × Claim) (h : spec_DrawFitsTo aCode = some r) : SCall Tryz.prog 11 [.v (vl (eI .u8) aCode)] ⟨[.own 35 7 r.1.length (r.1.map eClaim), .v (.agg (tc eClaim r.2))], [], false⟩ := by
  refine scall_in Tryz.func11 rfl [(.tmp 2), (.cell 3 35)] rfl (fun r => ⟨[.own 35 7 r.1.length (r.1.map eClaim), .v (.agg (tc eClaim r.2))], [], false⟩) (r := r) ?_
  unfold spec_DrawFitsTo at h
  refine srk tbok ⟨13, [(0, vl (eI .u8) aCode), (3, .ref 3 0)], [(3, .box [vs (ByteArray.mk #[]), vi 0, vs (ByteArray.mk #[]), vs (ByteArray.mk #[]), vi 0, vi 0, vi 0])]⟩ ?_
  refine sr ?_
  refine SRun.ck tbok 1 ⟨13, [(3, .ref 3 0), (6, vl (eI .u8) aCode)], [(3, .box [vs (ByteArray.mk #[]), vi 0, vs (ByteArray.mk #[]), vs (ByteArray.mk #[]), vi 0, vi 0, vi 0])]⟩ ?_
  obtain ⟨x1, hx1, h⟩ := bind_some h
  refine SRun.ls (xc ents22 (spec_l01From_run aCode _ hx1)) ?_
  refine ckn tbok 1 ⟨13, [(3, .ref 3 0), (4, .ref 7 0)], [(3, .box [vs (ByteArray.mk #[]), vi 0, vs (ByteArray.mk #[]), vs (ByteArray.mk #[]), vi 0, vi 0, vi 0]), (7, .box (tc el01Source x1))]⟩ ?_
  refine sr ?_
  refine SRun.ck tbok 1 ⟨13, [(3, .ref 3 0), (4, .ref 7 0), (8, .ref 7 0)], [(3, .box [vs (ByteArray.mk #[]), vi 0, vs (ByteArray.mk #[]), vs (ByteArray.mk #[]), vi 0, vi 0, vi 0]), (7, .box (tc el01Source x1))]⟩ ?_
  obtain ⟨x2, hx2, h⟩ := bind_some h
  refine SRun.estep (xe ents24 (spec_l21Sure_run x1 _ hx2)) ?_
  refine ckn tbok 1 ⟨13, [(3, .ref 3 0), (4, .ref 7 0), (5, .own 9)], [(3, .box [vs (ByteArray.mk #[]), vi 0, vs (ByteArray.mk #[]), vs (ByteArray.mk #[]), vi 0, vi 0, vi 0]), (7, .box (tc el01Source x2.2)), (9, oa 35 7 eClaim x2.1)]⟩ ?_
  refine sr ?_
  refine SRun.ck tbok 2 ⟨13, [(3, .ref 3 0), (10, .own 9), (11, .ref 7 0)], [(3, .box [vs (ByteArray.mk #[]), vi 0, vs (ByteArray.mk #[]), vs (ByteArray.mk #[]), vi 0, vi 0, vi 0]), (7, .box (tc el01Source x2.2)), (9, oa 35 7 eClaim x2.1)]⟩ ?_
  obtain ⟨x3, hx3, h⟩ := bind_some h
  refine SRun.estep (xe ents35 (spec_l20Draw_run x2.2 _ hx3)) ?_
  refine ckn tbok 2 ⟨13, [(2, .own 9), (3, .ref 3 0)], [(3, .box (tc eClaim x3.1)), (9, oa 35 7 eClaim x2.1)]⟩ ?_
  refine swp_ret ?_
  obtain rfl := inj h
  exact q_fr (f2 (fo eClaim_flat) (fc tbok))
theorem ents11 : Ents Tryz.prog 11 := ents_of Tryz.func11 (by kernel_rfl) rfl
def slices_Clone_Claim (L : List Claim) : Option (List Claim) := if L.length ≤ 68719476736 then some L else none
set_option maxRecDepth 100000 in
theorem slices_Clone_Claim_run (L r : List Claim) (h : slices_Clone_Claim L = some r) : SCall Tryz.prog 37 [.v (.tr (.sl L.length (L.map eClaim)))] ⟨[.own 35 7 r.length (r.map eClaim)], [], true⟩ := by
  unfold slices_Clone_Claim at h
  split at h
  · rename_i hh
    injection h with h
    subst h
    refine clone_scall eClaim Tryz.cloneClaim 37 35 rfl rfl _ _ 7 80 rfl rfl (by kernel_rfl) (by kernel_rfl) (by kernel_rfl) (by decide) (fun _ => rfl) (fun _ => rfl) L (by omega)
  · cases h
theorem ents37 : Ents Tryz.prog 37 := ents_of Tryz.func37 (by kernel_rfl) rfl
noncomputable def impl_FitsTo (aList : (List Claim)) (aC : Claim) : Option (Bool × Int) :=
  ((((((impl_AreClaims aList).bind fun x3 => (bif (!x3) then some true else ((impl_IsClaim aC).bind fun x4 => some (!x4))))).bind fun (j5 : Bool) => (bif j5 then some (.inr (false, 1)) else ((impl_areConsistent aList).bind fun x7 => (bif (!x7) then some (.inr (false, 5)) else some (.inl ())))))).bind (Sum.elim (fun (_ : Unit) => ((slices_Clone_Claim aList).bind fun x8 => ((app' x8 ([aC] : List Claim)).bind fun x10 => ((impl_areConsistent x10).bind fun x11 => some (x11, 0))))) some))
theorem impl_FitsTo_run (aList : (List Claim)) (aC : Claim) (r : Bool × Int) (h : impl_FitsTo aList aC = some r) : SCall Tryz.prog 12 [.v (vl eClaim aList), .v (.agg (tc eClaim aC))] ⟨[.v (vb r.1), .v (vi r.2)], [], false⟩ := by
  refine scall_in Tryz.func12 rfl [(.tmp 4), (.tmp 5)] rfl (fun r => ⟨[.v (vb r.1), .v (vi r.2)], [], false⟩) (r := r) ?_
  unfold impl_FitsTo at h
  refine srk tbok ⟨25, [(0, vl eClaim aList), (3, .ref 3 0)], [(3, .box (tc eClaim aC))]⟩ ?_
  refine swp_seq ?_
  refine swp_seqE (r := r) h (fun j1 => ⟨25, [(0, vl eClaim aList), (3, .ref 3 0)], [(3, .box (tc eClaim aC))]⟩) (fun v2 h => ?_) (fun j1 h => ?_)
  refine swp_blk (a := v2) ?_
  refine swp_seq ?_
  refine swp_regJ h (fun j5 => ⟨25, [(0, vl eClaim aList), (3, .ref 3 0), (6, vb j5)], [(3, .box (tc eClaim aC))]⟩) (fun v6 h => ?_) (fun j5 h => ?_)
  refine SRun.ck tbok 1 ⟨25, [(0, vl eClaim aList), (3, .ref 3 0), (7, vl eClaim aList)], [(3, .box (tc eClaim aC))]⟩ ?_
  obtain ⟨x3, hx3, h⟩ := bind_some h
  refine SRun.ls (xc ents26 (impl_AreClaims_run aList _ hx3)) ?_
  refine SRun.ck tbok 2 ⟨25, [(0, vl eClaim aList), (3, .ref 3 0), (10, vb (!x3))], [(3, .box (tc eClaim aC))]⟩ ?_
  refine SRun.cu [(10, fun b => b)] h (fun h => ?_) fun h => ?_
  refine SRun.ck tbok 5 ⟨25, [(0, vl eClaim aList), (3, .ref 3 0), (6, vb true)], [(3, .box (tc eClaim aC))]⟩ ?_
  refine SRun.nil ?_
  obtain rfl := inj h
  exact Le.sub0
  refine SRun.ck tbok 1 ⟨25, [(0, vl eClaim aList), (3, .ref 3 0), (10, vb false), (11, .agg (tc eClaim aC))], [(3, .box (tc eClaim aC))]⟩ ?_
  obtain ⟨x4, hx4, h⟩ := bind_some h
  refine SRun.ls (xc ents36 (impl_IsClaim_run aC _ hx4)) ?_
  refine SRun.ck tbok 3 ⟨25, [(0, vl eClaim aList), (3, .ref 3 0), (6, vb (!x4))], [(3, .box (tc eClaim aC))]⟩ ?_
  refine SRun.nil ?_
  obtain rfl := inj h
  exact Le.sub0
  refine swp_cd h (fun h => ?_) fun h => ?_
  refine srk tbok ⟨25, [(4, vb false), (5, vi 1)], []⟩ ?_
  refine swp_ret ?_
  obtain rfl := inj h
  exact q_br (q_rr (q_fr (f2 fv fv)))
  refine sr ?_
  refine SRun.ck tbok 1 ⟨25, [(0, vl eClaim aList), (3, .ref 3 0), (16, vl eClaim aList)], [(3, .box (tc eClaim aC))]⟩ ?_
  obtain ⟨x7, hx7, h⟩ := bind_some h
  refine SRun.ls (xc ents27 (impl_areConsistent_run aList _ hx7)) ?_
  refine ckn tbok 2 ⟨25, [(0, vl eClaim aList), (3, .ref 3 0), (15, vb (!x7))], [(3, .box (tc eClaim aC))]⟩ ?_
  refine swp_cd h (fun h => ?_) fun h => ?_
  refine srk tbok ⟨25, [(4, vb false), (5, vi 5)], []⟩ ?_
  refine swp_ret ?_
  obtain rfl := inj h
  exact q_br (q_rr (q_fr (f2 fv fv)))
  refine swp_skip ?_
  obtain rfl := inj h
  exact q_bn (q_l (Le.sub0))
  refine swp_seq ?_
  refine swp_dr mixed ?_
  refine DGo.ck tbok false 1 ⟨25, [(3, .ref 3 0), (19, vl eClaim aList)], [(3, .box (tc eClaim aC))]⟩ ?_
  obtain ⟨x8, hx8, h⟩ := bind_some h
  refine DGo.step (xc ents37 (slices_Clone_Claim_run aList _ hx8)) ?_
  refine DGo.ck tbok false 2 ⟨25, [(20, .own 20), (22, .own 22)], [(20, oa 35 7 eClaim x8), (22, oa 35 7 eClaim ([aC] : List Claim))]⟩ ?_
  refine DGo.seq (by kernel_rfl) (by kernel_rfl) ?_
  obtain ⟨x10, hx10, h⟩ := bind_some h
  refine SRun.estep (x_append (f := eClaim) (t := 24) (ti := ti24) (tj := ti35) (zs := [.string (ByteArray.mk #[]), .int .i64 0, .string (ByteArray.mk #[]), .string (ByteArray.mk #[]), .int .i64 0, .int .i64 0, .int .i64 0]) (e := 35) (m := 7) (d := 20) (xv := .own 22) hx10 tbok rfl rfl rfl rfl (x_src_o (e := 35))) ?_
  obtain ⟨x11, hx11, h⟩ := bind_some h
  refine SRun.ls (xc ents27 (impl_areConsistent_run x10 _ hx11)) ?_
  refine ckn tbok 2 ⟨25, [(4, vb x11), (5, vi 0)], []⟩ ?_
  refine swp_ret ?_
  obtain rfl := inj h
  exact q_fr (f2 fv fv)
theorem ents12 : Ents Tryz.prog 12 := ents_of Tryz.func12 (by kernel_rfl) rfl
noncomputable def spec_FitsTo (aList : (List Claim)) (aC : Claim) : Option (Bool × Int) :=
  ((((spec_AreClaims aList).bind fun x1 => (bif (!x1) then some true else ((spec_IsClaim aC).bind fun x2 => some (!x2))))).bind fun (j3 : Bool) => (bif j3 then some (false, 1) else ((spec_l21Consistent aList).bind fun x5 => (bif (!x5) then some (false, 5) else ((app' ([] : List Claim) aList).bind fun x6 => ((app' x6 ([aC] : List Claim)).bind fun x7 => ((spec_l21Consistent x7).bind fun x8 => some (x8, 0))))))))
theorem spec_FitsTo_run (aList : (List Claim)) (aC : Claim) (r : Bool × Int) (h : spec_FitsTo aList aC = some r) : SCall Tryz.prog 13 [.v (vl eClaim aList), .v (.agg (tc eClaim aC))] ⟨[.v (vb r.1), .v (vi r.2)], [], false⟩ := by
  refine scall_in Tryz.func13 rfl [(.tmp 4), (.tmp 5)] rfl (fun r => ⟨[.v (vb r.1), .v (vi r.2)], [], false⟩) (r := r) ?_
  unfold spec_FitsTo at h
  refine srk tbok ⟨24, [(0, vl eClaim aList), (3, .ref 3 0)], [(3, .box (tc eClaim aC))]⟩ ?_
  refine swp_seq ?_
  refine swp_seq ?_
  refine swp_regJ h (fun j3 => ⟨24, [(0, vl eClaim aList), (3, .ref 3 0), (13, vb j3)], [(3, .box (tc eClaim aC))]⟩) (fun v4 h => ?_) (fun j3 h => ?_)
  refine SRun.ck tbok 1 ⟨24, [(0, vl eClaim aList), (3, .ref 3 0), (6, vl eClaim aList)], [(3, .box (tc eClaim aC))]⟩ ?_
  obtain ⟨x1, hx1, h⟩ := bind_some h
  refine SRun.ls (xc ents28 (spec_AreClaims_run aList _ hx1)) ?_
  refine SRun.ck tbok 2 ⟨24, [(0, vl eClaim aList), (3, .ref 3 0), (9, vb (!x1))], [(3, .box (tc eClaim aC))]⟩ ?_
  refine SRun.cu [(9, fun b => b)] h (fun h => ?_) fun h => ?_
  refine SRun.ck tbok 4 ⟨24, [(0, vl eClaim aList), (3, .ref 3 0), (13, vb true)], [(3, .box (tc eClaim aC))]⟩ ?_
  refine SRun.nil ?_
  obtain rfl := inj h
  exact Le.sub0
  refine SRun.ck tbok 1 ⟨24, [(0, vl eClaim aList), (3, .ref 3 0), (9, vb false), (10, .agg (tc eClaim aC))], [(3, .box (tc eClaim aC))]⟩ ?_
  obtain ⟨x2, hx2, h⟩ := bind_some h
  refine SRun.ls (xc ents38 (spec_IsClaim_run aC _ hx2)) ?_
  refine SRun.ck tbok 2 ⟨24, [(0, vl eClaim aList), (3, .ref 3 0), (13, vb (!x2))], [(3, .box (tc eClaim aC))]⟩ ?_
  refine SRun.nil ?_
  obtain rfl := inj h
  exact Le.sub0
  refine swp_cd h (fun h => ?_) fun h => ?_
  refine srk tbok ⟨24, [(4, vb false), (5, vi 1)], []⟩ ?_
  refine swp_ret ?_
  obtain rfl := inj h
  exact nx_r (q_fr (f2 fv fv))
  refine swp_skip ?_
  refine nx_n ?_
  refine swp_seq ?_
  refine sr ?_
  refine SRun.ck tbok 1 ⟨24, [(0, vl eClaim aList), (3, .ref 3 0), (14, vl eClaim aList)], [(3, .box (tc eClaim aC))]⟩ ?_
  obtain ⟨x5, hx5, h⟩ := bind_some h
  refine SRun.ls (xc ents29 (spec_l21Consistent_run aList _ hx5)) ?_
  refine ckn tbok 1 ⟨24, [(0, vl eClaim aList), (3, .ref 3 0), (16, vb (!x5))], [(3, .box (tc eClaim aC))]⟩ ?_
  refine swp_cd h (fun h => ?_) fun h => ?_
  refine srk tbok ⟨24, [(4, vb false), (5, vi 5)], []⟩ ?_
  refine swp_ret ?_
  obtain rfl := inj h
  exact nx_r (q_fr (f2 fv fv))
  refine swp_skip ?_
  refine nx_n ?_
  refine swp_seq ?_
  obtain ⟨x6, hx6, h⟩ := bind_some h
  obtain ⟨x7, hx7, h⟩ := bind_some h
  obtain ⟨x8, hx8, h⟩ := bind_some h
  refine swp_dr mixed ?_
  refine DGo.enum (σE := ⟨24, [(4, vb x8), (5, vi 0)], []⟩) (n := 9) (L0 := #[false, false, false, false, false, false, false, false, false]) (by kernel_rfl) (by kernel_rfl) (fun K hk => ?_) ?_
  refine DE.share (fuel := 0) (L := #[true, true, true, true, true, true, true, true, true]) (σ := ⟨24, [(4, vb x8), (5, vi 0)], []⟩) ?_ (fun d13 => ?_)
  exact DE.done (by kernel_rfl) hk
  refine DE.share (fuel := 1) (L := #[true, true, true, true, true, true, true, true, false]) (σ := ⟨24, [(4, vb x8)], []⟩) ?_ (fun d12 => ?_)
  exact DE.take (i := 8) (L' := #[true, true, true, true, true, true, true, true, true]) rfl (.inr rfl) rfl (by kernel_rfl) (by kernel_rfl) (by kernel_rfl) (EStep.le (EStep.ofN2 tbok (σ' := ⟨24, [(5, vi 0), (4, vb x8)], []⟩) (by kernel_rfl)) Le.sub0) (by kernel_rfl) d13
  refine DE.share (fuel := 2) (L := #[true, true, true, true, true, true, true, false, false]) (σ := ⟨24, [(23, vb x8)], []⟩) ?_ (fun d11 => ?_)
  exact DE.take (i := 7) (L' := #[true, true, true, true, true, true, true, true, false]) rfl (.inr rfl) rfl (by kernel_rfl) (by kernel_rfl) (by kernel_rfl) (EStep.le (EStep.ofN2 tbok (σ' := ⟨24, [(4, vb x8), (23, vb x8)], []⟩) (by kernel_rfl)) Le.sub0) (by kernel_rfl) d12
  refine DE.share (fuel := 3) (L := #[true, true, true, true, true, true, false, false, false]) (σ := ⟨24, [(22, .own 22)], [(22, oa 35 7 eClaim x7)]⟩) ?_ (fun d10 => ?_)
  exact DE.all [6] (by kernel_rfl) (by simp) (List.forall_mem_cons.2 ⟨DEs.mk (i := 6) (L' := #[true, true, true, true, true, true, true, false, false]) rfl (EStep.le (EStep.ofL (xc ents29 (spec_l21Consistent_run x7 _ hx8)) (by kernel_rfl)) Le.sub0) (by kernel_rfl) d11, (fun _ h => absurd h List.not_mem_nil)⟩)
  refine DE.share (fuel := 4) (L := #[true, true, true, true, true, false, false, false, false]) (σ := ⟨24, [(19, .own 19), (21, .own 21)], [(19, oa 35 7 eClaim x6), (21, oa 35 7 eClaim ([aC] : List Claim))]⟩) ?_ (fun d9 => ?_)
  exact DE.all [5] (by kernel_rfl) (by simp) (List.forall_mem_cons.2 ⟨DEs.mk (i := 5) (L' := #[true, true, true, true, true, true, false, false, false]) rfl (EStep.le (x_append (f := eClaim) (t := 24) (ti := ti24) (tj := ti35) (zs := [.string (ByteArray.mk #[]), .int .i64 0, .string (ByteArray.mk #[]), .string (ByteArray.mk #[]), .int .i64 0, .int .i64 0, .int .i64 0]) (e := 35) (m := 7) (d := 19) (xv := .own 21) hx7 tbok rfl rfl rfl rfl (x_src_o (e := 35))) Le.sub0) (by kernel_rfl) d10, (fun _ h => absurd h List.not_mem_nil)⟩)
  refine DE.share (fuel := 5) (L := #[true, true, false, true, true, false, false, false, false]) (σ := ⟨24, [(17, .own 17), (18, vl eClaim aList), (21, .own 21)], [(17, oa 35 7 eClaim ([] : List Claim)), (21, oa 35 7 eClaim ([aC] : List Claim))]⟩) ?_ (fun d8 => ?_)
  exact DE.all [2] (by kernel_rfl) (by simp) (List.forall_mem_cons.2 ⟨DEs.mk (i := 2) (L' := #[true, true, true, true, true, false, false, false, false]) rfl (EStep.le (x_append (f := eClaim) (t := 24) (ti := ti24) (tj := ti35) (zs := [.string (ByteArray.mk #[]), .int .i64 0, .string (ByteArray.mk #[]), .string (ByteArray.mk #[]), .int .i64 0, .int .i64 0, .int .i64 0]) (e := 35) (m := 7) (d := 17) (xv := vl eClaim aList) hx6 tbok rfl rfl rfl rfl (src_e (fun _ => rfl))) Le.sub0) (by kernel_rfl) d9, (fun _ h => absurd h List.not_mem_nil)⟩)
  refine DE.share (fuel := 5) (L := #[true, true, true, true, false, false, false, false, false]) (σ := ⟨24, [(19, .own 19), (20, .agg (tc eClaim aC))], [(19, oa 35 7 eClaim x6)]⟩) ?_ (fun d7 => ?_)
  exact DE.all [4] (by kernel_rfl) (by simp) (List.forall_mem_cons.2 ⟨DEs.mk (i := 4) (L' := #[true, true, true, true, true, false, false, false, false]) rfl (EStep.le (EStep.ofN2 tbok (σ' := ⟨24, [(21, .own 21), (19, .own 19), (20, .agg (tc eClaim aC))], [(21, oa 35 7 eClaim ([aC] : List Claim)), (19, oa 35 7 eClaim x6)]⟩) (by kernel_rfl)) Le.sub0) (by kernel_rfl) d9, (fun _ h => absurd h List.not_mem_nil)⟩)
  refine DE.share (fuel := 6) (L := #[false, true, false, true, true, false, false, false, false]) (σ := ⟨24, [(18, vl eClaim aList), (21, .own 21)], [(21, oa 35 7 eClaim ([aC] : List Claim))]⟩) ?_ (fun d6 => ?_)
  exact DE.all [0] (by kernel_rfl) (by simp) (List.forall_mem_cons.2 ⟨DEs.mk (i := 0) (L' := #[true, true, false, true, true, false, false, false, false]) rfl (EStep.ofN2 tbok (σ' := ⟨24, [(17, .own 17), (18, vl eClaim aList), (21, .own 21)], [(17, oa 35 7 eClaim ([] : List Claim)), (21, oa 35 7 eClaim ([aC] : List Claim))]⟩) (by kernel_rfl)) (by kernel_rfl) d8, (fun _ h => absurd h List.not_mem_nil)⟩)
  refine DE.share (fuel := 6) (L := #[true, true, false, true, false, false, false, false, false]) (σ := ⟨24, [(17, .own 17), (18, vl eClaim aList), (20, .agg (tc eClaim aC))], [(17, oa 35 7 eClaim ([] : List Claim))]⟩) ?_ (fun d5 => ?_)
  exact DE.all [2, 4] (by kernel_rfl) (by simp) (List.forall_mem_cons.2 ⟨DEs.mk (i := 2) (L' := #[true, true, true, true, false, false, false, false, false]) rfl (EStep.le (x_append (f := eClaim) (t := 24) (ti := ti24) (tj := ti35) (zs := [.string (ByteArray.mk #[]), .int .i64 0, .string (ByteArray.mk #[]), .string (ByteArray.mk #[]), .int .i64 0, .int .i64 0, .int .i64 0]) (e := 35) (m := 7) (d := 17) (xv := vl eClaim aList) hx6 tbok rfl rfl rfl rfl (src_e (fun _ => rfl))) Le.sub0) (by kernel_rfl) d7, (List.forall_mem_cons.2 ⟨DEs.mk (i := 4) (L' := #[true, true, false, true, true, false, false, false, false]) rfl (EStep.le (EStep.ofN2 tbok (σ' := ⟨24, [(21, .own 21), (17, .own 17), (18, vl eClaim aList), (20, .agg (tc eClaim aC))], [(21, oa 35 7 eClaim ([aC] : List Claim)), (17, oa 35 7 eClaim ([] : List Claim))]⟩) (by kernel_rfl)) Le.sub0) (by kernel_rfl) d8, (fun _ h => absurd h List.not_mem_nil)⟩)⟩)
  refine DE.share (fuel := 6) (L := #[true, true, true, false, false, false, false, false, false]) (σ := ⟨24, [(3, .ref 3 0), (19, .own 19)], [(3, .box (tc eClaim aC)), (19, oa 35 7 eClaim x6)]⟩) ?_ (fun d4 => ?_)
  exact DE.all [3] (by kernel_rfl) (by simp) (List.forall_mem_cons.2 ⟨DEs.mk (i := 3) (L' := #[true, true, true, true, false, false, false, false, false]) rfl (EStep.le (EStep.ofN2 tbok (σ' := ⟨24, [(20, .agg (tc eClaim aC)), (3, .ref 3 0), (19, .own 19)], [(3, .box (tc eClaim aC)), (19, oa 35 7 eClaim x6)]⟩) (by kernel_rfl)) Le.sub0) (by kernel_rfl) d7, (fun _ h => absurd h List.not_mem_nil)⟩)
  refine DE.share (fuel := 7) (L := #[false, true, false, true, false, false, false, false, false]) (σ := ⟨24, [(18, vl eClaim aList), (20, .agg (tc eClaim aC))], []⟩) ?_ (fun d3 => ?_)
  exact DE.all [0, 4] (by kernel_rfl) (by simp) (List.forall_mem_cons.2 ⟨DEs.mk (i := 0) (L' := #[true, true, false, true, false, false, false, false, false]) rfl (EStep.ofN2 tbok (σ' := ⟨24, [(17, .own 17), (18, vl eClaim aList), (20, .agg (tc eClaim aC))], [(17, oa 35 7 eClaim ([] : List Claim))]⟩) (by kernel_rfl)) (by kernel_rfl) d5, (List.forall_mem_cons.2 ⟨DEs.mk (i := 4) (L' := #[false, true, false, true, true, false, false, false, false]) rfl (EStep.le (EStep.ofN2 tbok (σ' := ⟨24, [(21, .own 21), (18, vl eClaim aList), (20, .agg (tc eClaim aC))], [(21, oa 35 7 eClaim ([aC] : List Claim))]⟩) (by kernel_rfl)) Le.sub0) (by kernel_rfl) d6, (fun _ h => absurd h List.not_mem_nil)⟩)⟩)
  refine DE.share (fuel := 7) (L := #[true, true, false, false, false, false, false, false, false]) (σ := ⟨24, [(3, .ref 3 0), (17, .own 17), (18, vl eClaim aList)], [(3, .box (tc eClaim aC)), (17, oa 35 7 eClaim ([] : List Claim))]⟩) ?_ (fun d2 => ?_)
  exact DE.all [2, 3] (by kernel_rfl) (by simp) (List.forall_mem_cons.2 ⟨DEs.mk (i := 2) (L' := #[true, true, true, false, false, false, false, false, false]) rfl (EStep.le (x_append (f := eClaim) (t := 24) (ti := ti24) (tj := ti35) (zs := [.string (ByteArray.mk #[]), .int .i64 0, .string (ByteArray.mk #[]), .string (ByteArray.mk #[]), .int .i64 0, .int .i64 0, .int .i64 0]) (e := 35) (m := 7) (d := 17) (xv := vl eClaim aList) hx6 tbok rfl rfl rfl rfl (src_e (fun _ => rfl))) Le.sub0) (by kernel_rfl) d4, (List.forall_mem_cons.2 ⟨DEs.mk (i := 3) (L' := #[true, true, false, true, false, false, false, false, false]) rfl (EStep.le (EStep.ofN2 tbok (σ' := ⟨24, [(20, .agg (tc eClaim aC)), (3, .ref 3 0), (17, .own 17), (18, vl eClaim aList)], [(3, .box (tc eClaim aC)), (17, oa 35 7 eClaim ([] : List Claim))]⟩) (by kernel_rfl)) Le.sub0) (by kernel_rfl) d5, (fun _ h => absurd h List.not_mem_nil)⟩)⟩)
  refine DE.share (fuel := 8) (L := #[false, true, false, false, false, false, false, false, false]) (σ := ⟨24, [(3, .ref 3 0), (18, vl eClaim aList)], [(3, .box (tc eClaim aC))]⟩) ?_ (fun d1 => ?_)
  exact DE.all [0, 3] (by kernel_rfl) (by simp) (List.forall_mem_cons.2 ⟨DEs.mk (i := 0) (L' := #[true, true, false, false, false, false, false, false, false]) rfl (EStep.le (EStep.ofN2 tbok (σ' := ⟨24, [(17, .own 17), (3, .ref 3 0), (18, vl eClaim aList)], [(17, oa 35 7 eClaim ([] : List Claim)), (3, .box (tc eClaim aC))]⟩) (by kernel_rfl)) Le.sub0) (by kernel_rfl) d2, (List.forall_mem_cons.2 ⟨DEs.mk (i := 3) (L' := #[false, true, false, true, false, false, false, false, false]) rfl (EStep.le (EStep.ofN2 tbok (σ' := ⟨24, [(20, .agg (tc eClaim aC)), (3, .ref 3 0), (18, vl eClaim aList)], [(3, .box (tc eClaim aC))]⟩) (by kernel_rfl)) Le.sub0) (by kernel_rfl) d3, (fun _ h => absurd h List.not_mem_nil)⟩)⟩)
  exact DE.take (i := 1) (L' := #[false, true, false, false, false, false, false, false, false]) rfl (.inl rfl) rfl (by kernel_rfl) (by kernel_rfl) (by kernel_rfl) (EStep.le (EStep.ofN2 tbok (σ' := ⟨24, [(18, vl eClaim aList), (0, vl eClaim aList), (3, .ref 3 0), (16, vb (!x5))], [(3, .box (tc eClaim aC))]⟩) (by kernel_rfl)) Le.sub0) (by kernel_rfl) d1
  refine nx_n ?_
  refine swp_ret ?_
  obtain rfl := inj h
  exact q_fr (f2 fv fv)
theorem ents13 : Ents Tryz.prog 13 := ents_of Tryz.func13 (by kernel_rfl) rfl
noncomputable def spec_l21Year (aS : l01Source) : Option (Int × l01Source) :=
  ((spec_l01Next aS 50).bind fun x1 => ((spec_l01Next x1.2 110).bind fun x2 => ((spec_l01Pick x2.2 ([(w64 (1200 + x1.1)), (w64 (1200 + x2.1)), 1215, 3001, 1220, 1230] : List Int)).bind fun x3 => some (x3.1, x3.2))))
theorem spec_l21Year_run (aS : l01Source) (r : Int × l01Source) (h : spec_l21Year aS = some r) : SCall Tryz.prog 39 [.o (.box [vl (eI .u8) aS.code, vi aS.at', vi aS.seed])] ⟨[.v (vi r.1)], [(0, .box (tc el01Source r.2))], false⟩ := by
  refine scall_in Tryz.func39 rfl [(.tmp 2)] rfl (fun r => ⟨[.v (vi r.1)], [(0, .box (tc el01Source r.2))], false⟩) (r := r) ?_
  unfold spec_l21Year at h
  refine srk tbok ⟨12, [(0, .ref 1000000 0)], [(1000000, .box (tc el01Source aS))]⟩ ?_
  refine sr ?_
  refine SRun.ck tbok 2 ⟨12, [(0, .ref 1000000 0), (3, .ref 1000000 0), (4, .ref 1000000 0)], [(1000000, .box (tc el01Source aS))]⟩ ?_
  obtain ⟨x1, hx1, h⟩ := bind_some h
  refine SRun.estep (xe ents23 (spec_l01Next_run aS 50 _ hx1)) ?_
  refine SRun.ck tbok 2 ⟨12, [(3, .ref 1000000 0), (6, vi (w64 (1200 + x1.1))), (7, .ref 1000000 0)], [(1000000, .box (tc el01Source x1.2))]⟩ ?_
  obtain ⟨x2, hx2, h⟩ := bind_some h
  refine SRun.estep (xe ents23 (spec_l01Next_run x1.2 110 _ hx2)) ?_
  refine SRun.ck tbok 2 ⟨12, [(3, .ref 1000000 0), (10, .own 10)], [(10, oa 2 1 (eI .i64) ([(w64 (1200 + x1.1)), (w64 (1200 + x2.1)), 1215, 3001, 1220, 1230] : List Int)), (1000000, .box (tc el01Source x2.2))]⟩ ?_
  refine SRun.le (Le.frz' (d := 10) (e := 2) (m := 1) (n := ([(w64 (1200 + x1.1)), (w64 (1200 + x2.1)), 1215, 3001, 1220, 1230] : List Int).length) (es := ([(w64 (1200 + x1.1)), (w64 (1200 + x2.1)), 1215, 3001, 1220, 1230] : List Int).map (eI .i64)) (by kernel_rfl) (by kernel_rfl)) ?_
  obtain ⟨x3, hx3, h⟩ := bind_some h
  refine SRun.estep (xe ents59 (spec_l01Pick_run x2.2 ([(w64 (1200 + x1.1)), (w64 (1200 + x2.1)), 1215, 3001, 1220, 1230] : List Int) _ hx3)) ?_
  refine ckn tbok 1 ⟨12, [(2, vi x3.1)], [(1000000, .box (tc el01Source x3.2))]⟩ ?_
  refine swp_ret ?_
  obtain rfl := inj h
  exact q_fr (fin_io (f1 fv) (y := .box (tc el01Source x3.2)) (by kernel_rfl) rfl (by kernel_rfl) (by kernel_rfl))
theorem ents39 : Ents Tryz.prog 39 := ents_of Tryz.func39 (by kernel_rfl) rfl
noncomputable def spec_DrawNameBy (aCode : (List Int)) : Option ((List Claim) × ByteArray × Int) :=
  ((spec_l01From aCode).bind fun x1 => ((spec_l21Sure x1).bind fun x2 => ((spec_l01Next x2.2 5).bind fun x3 => ((at' ([(ByteArray.mk #[97, 115, 104]), (ByteArray.mk #[98, 114, 105, 103]), (ByteArray.mk #[99, 111, 114, 107]), (ByteArray.mk #[100, 101, 118, 97]), (ByteArray.mk #[])] : List ByteArray) x3.1).bind fun x4 => ((spec_l21Year x3.2).bind fun x5 => some (x2.1, x4, x5.1))))))
theorem spec_DrawNameBy_run (aCode : (List Int)) (r : (List Claim) × ByteArray × Int) (h : spec_DrawNameBy aCode = some r) : SCall Tryz.prog 14 [.v (vl (eI .u8) aCode)] ⟨[.own 35 7 r.1.length (r.1.map eClaim), .v (vs r.2.1), .v (vi r.2.2)], [], false⟩ := by
  refine scall_in Tryz.func14 rfl [(.tmp 2), (.tmp 3), (.tmp 4)] rfl (fun r => ⟨[.own 35 7 r.1.length (r.1.map eClaim), .v (vs r.2.1), .v (vi r.2.2)], [], false⟩) (r := r) ?_
  unfold spec_DrawNameBy at h
  refine srk tbok ⟨21, [(0, vl (eI .u8) aCode)], []⟩ ?_
  refine sr ?_
  refine SRun.ck tbok 1 ⟨21, [(8, vl (eI .u8) aCode)], []⟩ ?_
  obtain ⟨x1, hx1, h⟩ := bind_some h
  refine SRun.ls (xc ents22 (spec_l01From_run aCode _ hx1)) ?_
  refine ckn tbok 1 ⟨21, [(5, .ref 9 0)], [(9, .box (tc el01Source x1))]⟩ ?_
  refine sr ?_
  refine SRun.ck tbok 1 ⟨21, [(5, .ref 9 0), (10, .ref 9 0)], [(9, .box (tc el01Source x1))]⟩ ?_
  obtain ⟨x2, hx2, h⟩ := bind_some h
  refine SRun.estep (xe ents24 (spec_l21Sure_run x1 _ hx2)) ?_
  refine ckn tbok 1 ⟨21, [(5, .ref 9 0), (6, .own 11)], [(9, .box (tc el01Source x2.2)), (11, oa 35 7 eClaim x2.1)]⟩ ?_
  refine sr ?_
  refine SRun.ck tbok 2 ⟨21, [(5, .ref 9 0), (6, .own 11), (12, .own 12), (13, .ref 9 0)], [(9, .box (tc el01Source x2.2)), (11, oa 35 7 eClaim x2.1), (12, oa 9 1 eS ([(ByteArray.mk #[97, 115, 104]), (ByteArray.mk #[98, 114, 105, 103]), (ByteArray.mk #[99, 111, 114, 107]), (ByteArray.mk #[100, 101, 118, 97]), (ByteArray.mk #[])] : List ByteArray))]⟩ ?_
  obtain ⟨x3, hx3, h⟩ := bind_some h
  refine SRun.estep (xe ents23 (spec_l01Next_run x2.2 5 _ hx3)) ?_
  obtain ⟨x4, hx4, h⟩ := bind_some h
  refine SRun.ls (x_index_own (d := 12) (L := ([(ByteArray.mk #[97, 115, 104]), (ByteArray.mk #[98, 114, 105, 103]), (ByteArray.mk #[99, 111, 114, 107]), (ByteArray.mk #[100, 101, 118, 97]), (ByteArray.mk #[])] : List ByteArray)) (f := eS) (ti := ti60) (tj := ti9) (e := 9) (e' := 9) (m := 1) (k := .i64) tbok rfl hx4) ?_
  refine SRun.ls (x_load_own (d := 12) (m := 1) (j := 0) (L := ([(ByteArray.mk #[97, 115, 104]), (ByteArray.mk #[98, 114, 105, 103]), (ByteArray.mk #[99, 111, 114, 107]), (ByteArray.mk #[100, 101, 118, 97]), (ByteArray.mk #[])] : List ByteArray)) (f := eS) (ti := ti9) (e := 9) (v := vs x4) tbok rfl hx4) ?_
  refine ckn tbok 1 ⟨21, [(5, .ref 9 0), (6, .own 11), (7, vs x4)], [(9, .box (tc el01Source x3.2)), (11, oa 35 7 eClaim x2.1)]⟩ ?_
  refine sr ?_
  refine SRun.ck tbok 3 ⟨21, [(17, .own 11), (18, vs x4), (19, .ref 9 0)], [(9, .box (tc el01Source x3.2)), (11, oa 35 7 eClaim x2.1)]⟩ ?_
  obtain ⟨x5, hx5, h⟩ := bind_some h
  refine SRun.estep (xe ents39 (spec_l21Year_run x3.2 _ hx5)) ?_
  refine ckn tbok 3 ⟨21, [(2, .own 11), (3, vs x4), (4, vi x5.1)], [(11, oa 35 7 eClaim x2.1)]⟩ ?_
  refine swp_ret ?_
  obtain rfl := inj h
  exact q_fr (fin3 (by kernel_rfl) (fo eClaim_flat) fv fv)
theorem ents14 : Ents Tryz.prog 14 := ents_of Tryz.func14 (by kernel_rfl) rfl
noncomputable def impl_aboutCode (aList : (List Claim)) (aPlace : ByteArray) (aYear : Int) : Option (Int) :=
  ((((((impl_AreClaims aList).bind fun x3 => (bif (!x3) then some true else ((impl_IsWord aPlace).bind fun x4 => some (!x4))))).bind fun (j5 : Bool) => (bif j5 then some (.inr 1) else ((impl_isYear aYear).bind fun x7 => (bif (!x7) then some (.inr 2) else some (.inl ())))))).bind (Sum.elim (fun (_ : Unit) => some 0) some))
theorem impl_aboutCode_run (aList : (List Claim)) (aPlace : ByteArray) (aYear : Int) (r : Int) (h : impl_aboutCode aList aPlace aYear = some r) : SCall Tryz.prog 70 [.v (vl eClaim aList), .v (vs aPlace), .v (vi aYear)] ⟨[.v (vi r)], [], false⟩ := by
  refine scall_in Tryz.func70 rfl [(.tmp 6)] rfl (fun r => ⟨[.v (vi r)], [], false⟩) (r := r) ?_
  unfold impl_aboutCode at h
  refine srk tbok ⟨20, [(0, vl eClaim aList), (1, vs aPlace), (2, vi aYear)], []⟩ ?_
  refine swp_seq ?_
  refine swp_seqE (r := r) h (fun j1 => ⟨20, [], []⟩) (fun v2 h => ?_) (fun j1 h => ?_)
  refine swp_blk (a := v2) ?_
  refine swp_seq ?_
  refine swp_regJ h (fun j5 => ⟨20, [(2, vi aYear), (7, vb j5)], []⟩) (fun v6 h => ?_) (fun j5 h => ?_)
  refine SRun.ck tbok 1 ⟨20, [(1, vs aPlace), (2, vi aYear), (8, vl eClaim aList)], []⟩ ?_
  obtain ⟨x3, hx3, h⟩ := bind_some h
  refine SRun.ls (xc ents26 (impl_AreClaims_run aList _ hx3)) ?_
  refine SRun.ck tbok 2 ⟨20, [(1, vs aPlace), (2, vi aYear), (11, vb (!x3))], []⟩ ?_
  refine SRun.cu [(11, fun b => b)] h (fun h => ?_) fun h => ?_
  refine SRun.ck tbok 5 ⟨20, [(2, vi aYear), (7, vb true)], []⟩ ?_
  refine SRun.nil ?_
  obtain rfl := inj h
  exact Le.sub0
  refine SRun.ck tbok 1 ⟨20, [(2, vi aYear), (11, vb false), (12, vs aPlace)], []⟩ ?_
  obtain ⟨x4, hx4, h⟩ := bind_some h
  refine SRun.ls (xc ents79 (impl_IsWord_run aPlace _ hx4)) ?_
  refine SRun.ck tbok 3 ⟨20, [(2, vi aYear), (7, vb (!x4))], []⟩ ?_
  refine SRun.nil ?_
  obtain rfl := inj h
  exact Le.sub0
  refine swp_cd h (fun h => ?_) fun h => ?_
  refine srk tbok ⟨20, [(6, vi 1)], []⟩ ?_
  refine swp_ret ?_
  obtain rfl := inj h
  exact q_br (q_rr (q_fr (f1 fv)))
  refine sr ?_
  refine SRun.ck tbok 1 ⟨20, [(17, vi aYear)], []⟩ ?_
  obtain ⟨x7, hx7, h⟩ := bind_some h
  refine SRun.ls (xc ents81 (impl_isYear_run aYear _ hx7)) ?_
  refine ckn tbok 2 ⟨20, [(16, vb (!x7))], []⟩ ?_
  refine swp_cd h (fun h => ?_) fun h => ?_
  refine srk tbok ⟨20, [(6, vi 2)], []⟩ ?_
  refine swp_ret ?_
  obtain rfl := inj h
  exact q_br (q_rr (q_fr (f1 fv)))
  refine swp_skip ?_
  obtain rfl := inj h
  exact q_bn (q_l (Le.sub0))
  refine srk tbok ⟨20, [(6, vi 0)], []⟩ ?_
  refine swp_ret ?_
  obtain rfl := inj h
  exact q_fr (f1 fv)
theorem ents70 : Ents Tryz.prog 70 := ents_of Tryz.func70 (by kernel_rfl) rfl
noncomputable def impl_toldCode (aList : (List Claim)) (aPlace : ByteArray) (aYear : Int) : Option (Int) :=
  ((impl_aboutCode aList aPlace aYear).bind fun x1 => (((bif (x1 == 0) then ((impl_areConsistent aList).bind fun x2 => some (!x2)) else some false)).bind fun (j3 : Bool) => (bif j3 then some 5 else some x1)))
theorem impl_toldCode_run (aList : (List Claim)) (aPlace : ByteArray) (aYear : Int) (r : Int) (h : impl_toldCode aList aPlace aYear = some r) : SCall Tryz.prog 44 [.v (vl eClaim aList), .v (vs aPlace), .v (vi aYear)] ⟨[.v (vi r)], [], false⟩ := by
  refine scall_in Tryz.func44 rfl [(.tmp 6)] rfl (fun r => ⟨[.v (vi r)], [], false⟩) (r := r) ?_
  unfold impl_toldCode at h
  refine srk tbok ⟨20, [(0, vl eClaim aList), (1, vs aPlace), (2, vi aYear)], []⟩ ?_
  refine sr ?_
  refine SRun.ck tbok 3 ⟨20, [(0, vl eClaim aList), (8, vl eClaim aList), (9, vs aPlace), (10, vi aYear)], []⟩ ?_
  obtain ⟨x1, hx1, h⟩ := bind_some h
  refine SRun.ls (xc ents70 (impl_aboutCode_run aList aPlace aYear _ hx1)) ?_
  refine ckn tbok 1 ⟨20, [(0, vl eClaim aList), (7, vi x1)], []⟩ ?_
  refine swp_seq ?_
  refine swp_seq ?_
  refine swp_regJ h (fun j3 => ⟨20, [(7, vi x1), (18, vb j3)], []⟩) (fun v4 h => ?_) (fun j3 h => ?_)
  refine SRun.ck tbok 3 ⟨20, [(0, vl eClaim aList), (7, vi x1), (14, vb (x1 == 0))], []⟩ ?_
  refine SRun.cu [(14, fun b => b)] h (fun h => ?_) fun h => ?_
  refine SRun.ck tbok 1 ⟨20, [(7, vi x1), (14, vb true), (15, vl eClaim aList)], []⟩ ?_
  obtain ⟨x2, hx2, h⟩ := bind_some h
  refine SRun.ls (xc ents27 (impl_areConsistent_run aList _ hx2)) ?_
  refine SRun.ck tbok 2 ⟨20, [(7, vi x1), (18, vb (!x2))], []⟩ ?_
  refine SRun.nil ?_
  obtain rfl := inj h
  exact Le.sub0
  refine SRun.ck tbok 4 ⟨20, [(7, vi x1), (18, vb false)], []⟩ ?_
  refine SRun.nil ?_
  obtain rfl := inj h
  exact Le.sub0
  refine swp_cd h (fun h => ?_) fun h => ?_
  refine srk tbok ⟨20, [(6, vi 5)], []⟩ ?_
  refine swp_ret ?_
  obtain rfl := inj h
  exact nx_r (q_fr (f1 fv))
  refine swp_skip ?_
  refine nx_n ?_
  refine srk tbok ⟨20, [(6, vi x1)], []⟩ ?_
  refine swp_ret ?_
  obtain rfl := inj h
  exact q_fr (f1 fv)
theorem ents44 : Ents Tryz.prog 44 := ents_of Tryz.func44 (by kernel_rfl) rfl
noncomputable def impl_told_1 (aC : Claim) (c0 : Int) (c1 : ByteArray) (c2 : Int) : Option (Bool) :=
  (((bif (aC.Kind == c0) then (bif (aC.Place.toList == c1.toList) then ((impl_Span_has aC.Years c2).bind fun x1 => some x1) else some false) else some false)).bind fun (j2 : Bool) => some j2)
theorem impl_told_1_run (aC : Claim) (c0 : Int) (c1 : ByteArray) (c2 : Int) (r : Bool) (h : impl_told_1 aC c0 c1 c2 = some r) : SCall Tryz.prog 84 [.v (.agg (tc eClaim aC)), .v (.ptr [vi c0] 0), .v (.ptr [vs c1] 0), .v (.ptr [vi c2] 0)] ⟨[.v (vb r)], [], false⟩ := by
  refine scall_in Tryz.func84 rfl [(.tmp 5)] rfl (fun r => ⟨[.v (vb r)], [], false⟩) (r := r) ?_
  unfold impl_told_1 at h
  refine srk tbok ⟨22, [(1, .ptr [vi c0] 0), (2, .ptr [vs c1] 0), (3, .ptr [vi c2] 0), (4, .ref 4 0)], [(4, .box (tc eClaim aC))]⟩ ?_
  refine swp_seq ?_
  refine swp_regJ h (fun j2 => ⟨22, [(5, vb j2)], []⟩) (fun v3 h => ?_) (fun j2 h => ?_)
  refine SRun.ck tbok 5 ⟨22, [(2, .ptr [vs c1] 0), (3, .ptr [vi c2] 0), (4, .ref 4 0), (10, vb (aC.Kind == c0))], [(4, .box (tc eClaim aC))]⟩ ?_
  refine SRun.cu [(10, fun b => b)] h (fun h => ?_) fun h => ?_
  refine SRun.ck tbok 6 ⟨22, [(3, .ptr [vi c2] 0), (4, .ref 4 0), (16, vb (aC.Place.toList == c1.toList))], [(4, .box (tc eClaim aC))]⟩ ?_
  refine SRun.cu [(16, fun b => b)] h (fun h => ?_) fun h => ?_
  refine SRun.ck tbok 3 ⟨22, [(16, vb true), (18, .agg (tc eSpan aC.Years)), (19, vi c2)], []⟩ ?_
  obtain ⟨x1, hx1, h⟩ := bind_some h
  refine SRun.ls (xc ents71 (impl_Span_has_run aC.Years c2 _ hx1)) ?_
  refine SRun.ck tbok 2 ⟨22, [(5, vb x1)], []⟩ ?_
  refine SRun.nil ?_
  obtain rfl := inj h
  exact Le.sub0
  refine SRun.ck tbok 6 ⟨22, [(5, vb false)], []⟩ ?_
  refine SRun.nil ?_
  obtain rfl := inj h
  exact Le.sub0
  refine SRun.ck tbok 12 ⟨22, [(5, vb false)], []⟩ ?_
  refine SRun.nil ?_
  obtain rfl := inj h
  exact Le.sub0
  refine swp_ret ?_
  obtain rfl := inj h
  exact q_fr (f1 fv)
theorem ents84 : Ents Tryz.prog 84 := ents_of Tryz.func84 (by kernel_rfl) rfl
noncomputable def slices_IndexFunc_Claim_impl_told_1 (aS : (List Claim)) (aF0 : Int) (aF1 : ByteArray) (aF2 : Int) : Option (Int) :=
  (((forN (aS.length : Int) (fun (i3 : Int) (_ : Unit) => ((at' aS i3).bind fun x7 => ((impl_told_1 x7 aF0 aF1 aF2).bind fun x8 => (bif x8 then some (.inr (.inr i3)) else some (.inl ()))))) (fun (_ : Unit) => .inl ()) 0 ())).bind (Sum.elim (fun (_ : Unit) => some (-1)) some))
theorem slices_IndexFunc_Claim_impl_told_1_run (aS : (List Claim)) (aF0 : Int) (aF1 : ByteArray) (aF2 : Int) (r : Int) (h : slices_IndexFunc_Claim_impl_told_1 aS aF0 aF1 aF2 = some r) : SCall Tryz.prog 74 [.v (vl eClaim aS), .v (.clo 84 [.ptr [vi aF0] 0, .ptr [vs aF1] 0, .ptr [vi aF2] 0])] ⟨[.v (vi r)], [], false⟩ := by
  refine scall_in Tryz.func74 rfl [(.tmp 4)] rfl (fun r => ⟨[.v (vi r)], [], false⟩) (r := r) ?_
  unfold slices_IndexFunc_Claim_impl_told_1 at h
  refine srk tbok ⟨19, [(0, vl eClaim aS), (1, .clo 84 [.ptr [vi aF0] 0, .ptr [vs aF1] 0, .ptr [vi aF2] 0])], []⟩ ?_
  refine swp_seq ?_
  refine srk tbok ⟨19, [(0, vl eClaim aS), (1, .clo 84 [.ptr [vi aF0] 0, .ptr [vs aF1] 0, .ptr [vi aF2] 0]), (7, vi (aS.length : Int)), (8, vi 0)], []⟩ ?_
  refine swp_seqE (r := r) h (fun j1 => ⟨19, [], []⟩) (fun v2 h => ?_) (fun j1 h => ?_)
  refine swp_blk (a := v2) ?_
  refine swp_lpL (r := v2) (s := (0, ())) _ (fun s3 => ⟨19, [(0, vl eClaim aS), (1, .clo 84 [.ptr [vi aF0] 0, .ptr [vs aF1] 0, .ptr [vi aF2] 0]), (7, vi (aS.length : Int)), (8, vi s3.1)], []⟩) _ (Le.sub0) h (fun s3 v4 h => ?_)
  refine srk tbok ⟨19, [(0, vl eClaim aS), (1, .clo 84 [.ptr [vi aF0] 0, .ptr [vs aF1] 0, .ptr [vi aF2] 0]), (7, vi (aS.length : Int)), (8, vi s3.1), (9, vb (decide (s3.1 < (aS.length : Int))))], []⟩ ?_
  refine swp_seq ?_
  refine swp_cd h (fun h => ?_) fun h => ?_
  refine swp_skip ?_
  refine nx_n ?_
  refine swp_seq ?_
  refine swp_seqL (r := v4) h (fun j5 => ⟨19, [(0, vl eClaim aS), (1, .clo 84 [.ptr [vi aF0] 0, .ptr [vs aF1] 0, .ptr [vi aF2] 0]), (7, vi (aS.length : Int)), (8, vi s3.1)], []⟩) (fun v6 h => ?_) (fun j5 h => ?_)
  refine swp_blk (a := v6) ?_
  refine srk tbok ⟨19, [(0, vl eClaim aS), (1, .clo 84 [.ptr [vi aF0] 0, .ptr [vs aF1] 0, .ptr [vi aF2] 0]), (5, vi s3.1), (7, vi (aS.length : Int)), (8, vi s3.1)], []⟩ ?_
  refine sr ?_
  refine SRun.ck tbok 3 ⟨19, [(0, vl eClaim aS), (1, .clo 84 [.ptr [vi aF0] 0, .ptr [vs aF1] 0, .ptr [vi aF2] 0]), (5, vi s3.1), (7, vi (aS.length : Int)), (8, vi s3.1), (11, .clo 84 [.ptr [vi aF0] 0, .ptr [vs aF1] 0, .ptr [vi aF2] 0]), (12, vl eClaim aS), (13, vi s3.1)], []⟩ ?_
  obtain ⟨x7, hx7, h⟩ := bind_some h
  refine SRun.ls (x_index (L := aS) (f := eClaim) (ti := ti24) (tj := ti35) (e := 35) (k := .i64) tbok rfl hx7) ?_
  refine SRun.ck tbok 1 ⟨19, [(0, vl eClaim aS), (1, .clo 84 [.ptr [vi aF0] 0, .ptr [vs aF1] 0, .ptr [vi aF2] 0]), (5, vi s3.1), (7, vi (aS.length : Int)), (8, vi s3.1), (11, .clo 84 [.ptr [vi aF0] 0, .ptr [vs aF1] 0, .ptr [vi aF2] 0]), (15, .agg (tc eClaim x7))], []⟩ ?_
  obtain ⟨x8, hx8, h⟩ := bind_some h
  refine SRun.ls (xc ents84 (impl_told_1_run x7 aF0 aF1 aF2 _ hx8)) ?_
  refine SRun.nx ?_
  refine swp_cd h (fun h => ?_) fun h => ?_
  refine srk tbok ⟨19, [(4, vi s3.1)], []⟩ ?_
  refine swp_ret ?_
  obtain rfl := inj h
  exact q_br (q_rr (q_rr (q_br (q_rr (q_fr (f1 fv))))))
  refine swp_skip ?_
  obtain rfl := inj h
  exact q_bn (q_l (Le.sub0))
  refine swp_reg ?_
  refine SRun.ck tbok 2 ⟨19, [(0, vl eClaim aS), (1, .clo 84 [.ptr [vi aF0] 0, .ptr [vs aF1] 0, .ptr [vi aF2] 0]), (7, vi (aS.length : Int)), (8, vi (w64 (s3.1 + 1)))], []⟩ ?_
  refine SRun.nil ?_
  obtain rfl := inj h
  exact q_l (Le.sub0)
  refine swp_exit ?_
  obtain rfl := inj h
  exact nx_e (q_re (q_bh (q_l (Le.sub0))))
  refine srk tbok ⟨19, [(4, vi (-1))], []⟩ ?_
  refine swp_ret ?_
  obtain rfl := inj h
  exact q_fr (f1 fv)
noncomputable def impl_told (aList : (List Claim)) (aKind : Int) (aPlace : ByteArray) (aYear : Int) : Option (ByteArray × Bool) :=
  ((slices_IndexFunc_Claim_impl_told_1 aList aKind aPlace aYear).bind fun x1 => (bif (decide (x1 < 0)) then some ((ByteArray.mk #[]), false) else ((at' aList x1).bind fun x2 => some (x2.Value, true))))
theorem impl_told_run (aList : (List Claim)) (aKind : Int) (aPlace : ByteArray) (aYear : Int) (r : ByteArray × Bool) (h : impl_told aList aKind aPlace aYear = some r) : SCall Tryz.prog 68 [.v (vl eClaim aList), .v (vi aKind), .v (vs aPlace), .v (vi aYear)] ⟨[.v (vs r.1), .v (vb r.2)], [], false⟩ := by
  refine scall_in Tryz.func68 rfl [(.tmp 8), (.tmp 9)] rfl (fun r => ⟨[.v (vs r.1), .v (vb r.2)], [], false⟩) (r := r) ?_
  unfold impl_told at h
  refine srk tbok ⟨21, [(0, vl eClaim aList), (5, .ref 5 0), (6, .ref 6 0), (7, .ref 7 0)], [(5, .box [vi aKind]), (6, .box [vs aPlace]), (7, .box [vi aYear])]⟩ ?_
  refine sr ?_
  refine SRun.ck tbok 2 ⟨21, [(0, vl eClaim aList), (11, vl eClaim aList), (12, .clo 84 [.ref 5 0, .ref 6 0, .ref 7 0])], [(5, .box [vi aKind]), (6, .box [vs aPlace]), (7, .box [vi aYear])]⟩ ?_
  obtain ⟨x1, hx1, h⟩ := bind_some h
  refine SRun.ls (xc ents74 (slices_IndexFunc_Claim_impl_told_1_run aList aKind aPlace aYear _ hx1)) ?_
  refine ckn tbok 1 ⟨21, [(0, vl eClaim aList), (10, vi x1)], []⟩ ?_
  refine swp_seq ?_
  refine srk tbok ⟨21, [(0, vl eClaim aList), (10, vi x1), (15, vb (decide (x1 < 0)))], []⟩ ?_
  refine swp_cd h (fun h => ?_) fun h => ?_
  refine srk tbok ⟨21, [(8, vs (ByteArray.mk #[])), (9, vb false)], []⟩ ?_
  refine swp_ret ?_
  obtain rfl := inj h
  exact nx_r (q_fr (f2 fv fv))
  refine swp_skip ?_
  refine nx_n ?_
  refine sr ?_
  refine SRun.ck tbok 2 ⟨21, [(16, vl eClaim aList), (17, vi x1)], []⟩ ?_
  obtain ⟨x2, hx2, h⟩ := bind_some h
  refine SRun.ls (x_index (L := aList) (f := eClaim) (ti := ti24) (tj := ti35) (e := 35) (k := .i64) tbok rfl hx2) ?_
  refine ckn tbok 4 ⟨21, [(8, vs x2.Value), (9, vb true)], []⟩ ?_
  refine swp_ret ?_
  obtain rfl := inj h
  exact q_fr (f2 fv fv)
theorem ents68 : Ents Tryz.prog 68 := ents_of Tryz.func68 (by kernel_rfl) rfl
noncomputable def impl_toldBy (aList : (List Claim)) (aKind : Int) (aPlace : ByteArray) (aYear : Int) : Option (ByteArray × Int) :=
  ((impl_toldCode aList aPlace aYear).bind fun x1 => (bif (x1 != 0) then some ((ByteArray.mk #[]), x1) else ((impl_told aList aKind aPlace aYear).bind fun x2 => (bif (!x2.2) then some ((ByteArray.mk #[]), 4) else some (x2.1, 0)))))
theorem impl_toldBy_run (aList : (List Claim)) (aKind : Int) (aPlace : ByteArray) (aYear : Int) (r : ByteArray × Int) (h : impl_toldBy aList aKind aPlace aYear = some r) : SCall Tryz.prog 40 [.v (vl eClaim aList), .v (vi aKind), .v (vs aPlace), .v (vi aYear)] ⟨[.v (vs r.1), .v (vi r.2)], [], false⟩ := by
  refine scall_in Tryz.func40 rfl [(.tmp 8), (.tmp 9)] rfl (fun r => ⟨[.v (vs r.1), .v (vi r.2)], [], false⟩) (r := r) ?_
  unfold impl_toldBy at h
  refine srk tbok ⟨31, [(0, vl eClaim aList), (1, vi aKind), (2, vs aPlace), (3, vi aYear)], []⟩ ?_
  refine swp_seq ?_
  refine sr ?_
  refine SRun.ck tbok 3 ⟨31, [(0, vl eClaim aList), (1, vi aKind), (2, vs aPlace), (3, vi aYear), (13, vl eClaim aList), (14, vs aPlace), (15, vi aYear)], []⟩ ?_
  obtain ⟨x1, hx1, h⟩ := bind_some h
  refine SRun.ls (xc ents44 (impl_toldCode_run aList aPlace aYear _ hx1)) ?_
  refine ckn tbok 1 ⟨31, [(0, vl eClaim aList), (1, vi aKind), (2, vs aPlace), (3, vi aYear), (10, vi x1)], []⟩ ?_
  refine srk tbok ⟨31, [(0, vl eClaim aList), (1, vi aKind), (2, vs aPlace), (3, vi aYear), (10, vi x1), (18, vb (x1 != 0))], []⟩ ?_
  refine swp_cd h (fun h => ?_) fun h => ?_
  refine srk tbok ⟨31, [(8, vs (ByteArray.mk #[])), (9, vi x1)], []⟩ ?_
  refine swp_ret ?_
  obtain rfl := inj h
  exact nx_r (q_fr (f2 fv fv))
  refine swp_skip ?_
  refine nx_n ?_
  refine sr ?_
  refine SRun.ck tbok 4 ⟨31, [(21, vl eClaim aList), (22, vi aKind), (23, vs aPlace), (24, vi aYear)], []⟩ ?_
  obtain ⟨x2, hx2, h⟩ := bind_some h
  refine SRun.ls (xc ents68 (impl_told_run aList aKind aPlace aYear _ hx2)) ?_
  refine ckn tbok 5 ⟨31, [(11, vs x2.1), (12, vb x2.2)], []⟩ ?_
  refine swp_seq ?_
  refine srk tbok ⟨31, [(11, vs x2.1), (29, vb (!x2.2))], []⟩ ?_
  refine swp_cd h (fun h => ?_) fun h => ?_
  refine srk tbok ⟨31, [(8, vs (ByteArray.mk #[])), (9, vi 4)], []⟩ ?_
  refine swp_ret ?_
  obtain rfl := inj h
  exact nx_r (q_fr (f2 fv fv))
  refine swp_skip ?_
  refine nx_n ?_
  refine srk tbok ⟨31, [(8, vs x2.1), (9, vi 0)], []⟩ ?_
  refine swp_ret ?_
  obtain rfl := inj h
  exact q_fr (f2 fv fv)
theorem ents40 : Ents Tryz.prog 40 := ents_of Tryz.func40 (by kernel_rfl) rfl
noncomputable def impl_NameBy (aList : (List Claim)) (aPlace : ByteArray) (aYear : Int) : Option (ByteArray × Int) :=
  ((impl_toldBy aList 0 aPlace aYear).bind fun x1 => some (x1.1, x1.2))
theorem impl_NameBy_run (aList : (List Claim)) (aPlace : ByteArray) (aYear : Int) (r : ByteArray × Int) (h : impl_NameBy aList aPlace aYear = some r) : SCall Tryz.prog 15 [.v (vl eClaim aList), .v (vs aPlace), .v (vi aYear)] ⟨[.v (vs r.1), .v (vi r.2)], [], false⟩ := by
  refine scall_in Tryz.func15 rfl [(.tmp 6), (.tmp 7)] rfl (fun r => ⟨[.v (vs r.1), .v (vi r.2)], [], false⟩) (r := r) ?_
  unfold impl_NameBy at h
  refine srk tbok ⟨14, [(0, vl eClaim aList), (1, vs aPlace), (2, vi aYear)], []⟩ ?_
  refine sr ?_
  refine SRun.ck tbok 3 ⟨14, [(8, vl eClaim aList), (9, vs aPlace), (10, vi aYear)], []⟩ ?_
  obtain ⟨x1, hx1, h⟩ := bind_some h
  refine SRun.ls (xc ents40 (impl_toldBy_run aList 0 aPlace aYear _ hx1)) ?_
  refine ckn tbok 4 ⟨14, [(6, vs x1.1), (7, vi x1.2)], []⟩ ?_
  refine swp_ret ?_
  obtain rfl := inj h
  exact q_fr (f2 fv fv)
theorem ents15 : Ents Tryz.prog 15 := ents_of Tryz.func15 (by kernel_rfl) rfl
noncomputable def spec_l21Code (aList : (List Claim)) (aPlace : ByteArray) (aYear : Int) : Option (Int) :=
  ((((spec_AreClaims aList).bind fun x1 => (bif (!x1) then some true else ((spec_IsWord aPlace).bind fun x2 => some (!x2))))).bind fun (j3 : Bool) => (bif j3 then some 1 else ((spec_l02Year aYear).bind fun x5 => (bif (!x5) then some 2 else some 0))))
theorem spec_l21Code_run (aList : (List Claim)) (aPlace : ByteArray) (aYear : Int) (r : Int) (h : spec_l21Code aList aPlace aYear = some r) : SCall Tryz.prog 69 [.v (vl eClaim aList), .v (vs aPlace), .v (vi aYear)] ⟨[.v (vi r)], [], false⟩ := by
  refine scall_in Tryz.func69 rfl [(.tmp 6)] rfl (fun r => ⟨[.v (vi r)], [], false⟩) (r := r) ?_
  unfold spec_l21Code at h
  refine srk tbok ⟨18, [(0, vl eClaim aList), (1, vs aPlace), (2, vi aYear)], []⟩ ?_
  refine swp_seq ?_
  refine swp_seq ?_
  refine swp_regJ h (fun j3 => ⟨18, [(2, vi aYear), (14, vb j3)], []⟩) (fun v4 h => ?_) (fun j3 h => ?_)
  refine SRun.ck tbok 1 ⟨18, [(1, vs aPlace), (2, vi aYear), (7, vl eClaim aList)], []⟩ ?_
  obtain ⟨x1, hx1, h⟩ := bind_some h
  refine SRun.ls (xc ents28 (spec_AreClaims_run aList _ hx1)) ?_
  refine SRun.ck tbok 2 ⟨18, [(1, vs aPlace), (2, vi aYear), (10, vb (!x1))], []⟩ ?_
  refine SRun.cu [(10, fun b => b)] h (fun h => ?_) fun h => ?_
  refine SRun.ck tbok 4 ⟨18, [(2, vi aYear), (14, vb true)], []⟩ ?_
  refine SRun.nil ?_
  obtain rfl := inj h
  exact Le.sub0
  refine SRun.ck tbok 1 ⟨18, [(2, vi aYear), (10, vb false), (11, vs aPlace)], []⟩ ?_
  obtain ⟨x2, hx2, h⟩ := bind_some h
  refine SRun.ls (xc ents65 (spec_IsWord_run aPlace _ hx2)) ?_
  refine SRun.ck tbok 2 ⟨18, [(2, vi aYear), (14, vb (!x2))], []⟩ ?_
  refine SRun.nil ?_
  obtain rfl := inj h
  exact Le.sub0
  refine swp_cd h (fun h => ?_) fun h => ?_
  refine srk tbok ⟨18, [(6, vi 1)], []⟩ ?_
  refine swp_ret ?_
  obtain rfl := inj h
  exact nx_r (q_fr (f1 fv))
  refine swp_skip ?_
  refine nx_n ?_
  refine swp_seq ?_
  refine sr ?_
  refine SRun.ck tbok 1 ⟨18, [(15, vi aYear)], []⟩ ?_
  obtain ⟨x5, hx5, h⟩ := bind_some h
  refine SRun.ls (xc ents82 (spec_l02Year_run aYear _ hx5)) ?_
  refine ckn tbok 1 ⟨18, [(17, vb (!x5))], []⟩ ?_
  refine swp_cd h (fun h => ?_) fun h => ?_
  refine srk tbok ⟨18, [(6, vi 2)], []⟩ ?_
  refine swp_ret ?_
  obtain rfl := inj h
  exact nx_r (q_fr (f1 fv))
  refine swp_skip ?_
  refine nx_n ?_
  refine srk tbok ⟨18, [(6, vi 0)], []⟩ ?_
  refine swp_ret ?_
  obtain rfl := inj h
  exact q_fr (f1 fv)
theorem ents69 : Ents Tryz.prog 69 := ents_of Tryz.func69 (by kernel_rfl) rfl
noncomputable def spec_l21Sound (aList : (List Claim)) (aPlace : ByteArray) (aYear : Int) : Option (Int) :=
  ((spec_l21Code aList aPlace aYear).bind fun x1 => (((bif (x1 == 0) then ((spec_l21Consistent aList).bind fun x2 => some (!x2)) else some false)).bind fun (j3 : Bool) => (bif j3 then some 5 else some x1)))
theorem spec_l21Sound_run (aList : (List Claim)) (aPlace : ByteArray) (aYear : Int) (r : Int) (h : spec_l21Sound aList aPlace aYear = some r) : SCall Tryz.prog 41 [.v (vl eClaim aList), .v (vs aPlace), .v (vi aYear)] ⟨[.v (vi r)], [], false⟩ := by
  refine scall_in Tryz.func41 rfl [(.tmp 6)] rfl (fun r => ⟨[.v (vi r)], [], false⟩) (r := r) ?_
  unfold spec_l21Sound at h
  refine srk tbok ⟨20, [(0, vl eClaim aList), (1, vs aPlace), (2, vi aYear)], []⟩ ?_
  refine sr ?_
  refine SRun.ck tbok 3 ⟨20, [(0, vl eClaim aList), (8, vl eClaim aList), (9, vs aPlace), (10, vi aYear)], []⟩ ?_
  obtain ⟨x1, hx1, h⟩ := bind_some h
  refine SRun.ls (xc ents69 (spec_l21Code_run aList aPlace aYear _ hx1)) ?_
  refine ckn tbok 1 ⟨20, [(0, vl eClaim aList), (7, vi x1)], []⟩ ?_
  refine swp_seq ?_
  refine swp_seq ?_
  refine swp_regJ h (fun j3 => ⟨20, [(7, vi x1), (18, vb j3)], []⟩) (fun v4 h => ?_) (fun j3 h => ?_)
  refine SRun.ck tbok 3 ⟨20, [(0, vl eClaim aList), (7, vi x1), (14, vb (x1 == 0))], []⟩ ?_
  refine SRun.cu [(14, fun b => b)] h (fun h => ?_) fun h => ?_
  refine SRun.ck tbok 1 ⟨20, [(7, vi x1), (14, vb true), (15, vl eClaim aList)], []⟩ ?_
  obtain ⟨x2, hx2, h⟩ := bind_some h
  refine SRun.ls (xc ents29 (spec_l21Consistent_run aList _ hx2)) ?_
  refine SRun.ck tbok 2 ⟨20, [(7, vi x1), (18, vb (!x2))], []⟩ ?_
  refine SRun.nil ?_
  obtain rfl := inj h
  exact Le.sub0
  refine SRun.ck tbok 4 ⟨20, [(7, vi x1), (18, vb false)], []⟩ ?_
  refine SRun.nil ?_
  obtain rfl := inj h
  exact Le.sub0
  refine swp_cd h (fun h => ?_) fun h => ?_
  refine srk tbok ⟨20, [(6, vi 5)], []⟩ ?_
  refine swp_ret ?_
  obtain rfl := inj h
  exact nx_r (q_fr (f1 fv))
  refine swp_skip ?_
  refine nx_n ?_
  refine srk tbok ⟨20, [(6, vi x1)], []⟩ ?_
  refine swp_ret ?_
  obtain rfl := inj h
  exact q_fr (f1 fv)
theorem ents41 : Ents Tryz.prog 41 := ents_of Tryz.func41 (by kernel_rfl) rfl
noncomputable def spec_l21Name (aList : (List Claim)) (aPlace : ByteArray) (aYear : Int) : Option (ByteArray) :=
  (((forN (aList.length : Int) (fun (i3 : Int) (_ : Unit) => ((at' aList i3).bind fun x7 => (((bif (x7.Kind == 0) then (bif (x7.Place.toList == aPlace.toList) then ((spec_l01In aYear x7.Years.From x7.Years.To).bind fun x8 => some x8) else some false) else some false)).bind fun (j9 : Bool) => (bif j9 then some (.inr (.inr x7.Value)) else some (.inl ()))))) (fun (_ : Unit) => .inl ()) 0 ())).bind (Sum.elim (fun (_ : Unit) => some (ByteArray.mk #[])) some))
theorem spec_l21Name_run (aList : (List Claim)) (aPlace : ByteArray) (aYear : Int) (r : ByteArray) (h : spec_l21Name aList aPlace aYear = some r) : SCall Tryz.prog 42 [.v (vl eClaim aList), .v (vs aPlace), .v (vi aYear)] ⟨[.v (vs r)], [], false⟩ := by
  refine scall_in Tryz.func42 rfl [(.tmp 6)] rfl (fun r => ⟨[.v (vs r)], [], false⟩) (r := r) ?_
  unfold spec_l21Name at h
  refine srk tbok ⟨40, [(0, vl eClaim aList), (1, vs aPlace), (2, vi aYear)], []⟩ ?_
  refine swp_seq ?_
  refine srk tbok ⟨40, [(0, vl eClaim aList), (1, vs aPlace), (2, vi aYear), (7, vi 0)], []⟩ ?_
  refine swp_seqE (r := r) h (fun j1 => ⟨40, [], []⟩) (fun v2 h => ?_) (fun j1 h => ?_)
  refine swp_blk (a := v2) ?_
  refine swp_lpL (r := v2) (s := (0, ())) _ (fun s3 => ⟨40, [(0, vl eClaim aList), (1, vs aPlace), (2, vi aYear), (7, vi s3.1)], []⟩) _ (Le.sub0) h (fun s3 v4 h => ?_)
  refine swp_seq ?_
  refine srk tbok ⟨40, [(0, vl eClaim aList), (1, vs aPlace), (2, vi aYear), (7, vi s3.1), (12, vb (decide (s3.1 < (aList.length : Int))))], []⟩ ?_
  refine swp_cd h (fun h => ?_) fun h => ?_
  refine swp_skip ?_
  refine nx_n ?_
  refine swp_seq ?_
  refine swp_seqL (r := v4) h (fun j5 => ⟨40, [(0, vl eClaim aList), (1, vs aPlace), (2, vi aYear), (7, vi s3.1)], []⟩) (fun v6 h => ?_) (fun j5 h => ?_)
  refine swp_blk (a := v6) ?_
  refine sr ?_
  refine SRun.ck tbok 2 ⟨40, [(0, vl eClaim aList), (1, vs aPlace), (2, vi aYear), (7, vi s3.1), (15, vl eClaim aList), (16, vi s3.1)], []⟩ ?_
  obtain ⟨x7, hx7, h⟩ := bind_some h
  refine SRun.ls (x_index (L := aList) (f := eClaim) (ti := ti24) (tj := ti35) (e := 35) (k := .i64) tbok rfl hx7) ?_
  refine ckn tbok 3 ⟨40, [(0, vl eClaim aList), (1, vs aPlace), (2, vi aYear), (7, vi s3.1), (8, .ref 8 0)], [(8, .box (tc eClaim x7))]⟩ ?_
  refine swp_seq ?_
  refine swp_regJ h (fun j9 => ⟨40, [(0, vl eClaim aList), (1, vs aPlace), (2, vi aYear), (7, vi s3.1), (8, .ref 8 0), (37, vb j9)], [(8, .box (tc eClaim x7))]⟩) (fun v10 h => ?_) (fun j9 h => ?_)
  refine SRun.ck tbok 4 ⟨40, [(0, vl eClaim aList), (1, vs aPlace), (2, vi aYear), (7, vi s3.1), (8, .ref 8 0), (22, vb (x7.Kind == 0))], [(8, .box (tc eClaim x7))]⟩ ?_
  refine SRun.cu [(22, fun b => b)] h (fun h => ?_) fun h => ?_
  refine SRun.ck tbok 6 ⟨40, [(0, vl eClaim aList), (1, vs aPlace), (2, vi aYear), (7, vi s3.1), (8, .ref 8 0), (28, vb (x7.Place.toList == aPlace.toList))], [(8, .box (tc eClaim x7))]⟩ ?_
  refine SRun.cu [(28, fun b => b)] h (fun h => ?_) fun h => ?_
  refine SRun.ck tbok 7 ⟨40, [(0, vl eClaim aList), (1, vs aPlace), (2, vi aYear), (7, vi s3.1), (8, .ref 8 0), (28, vb true), (29, vi aYear), (32, vi x7.Years.From), (35, vi x7.Years.To)], [(8, .box (tc eClaim x7))]⟩ ?_
  obtain ⟨x8, hx8, h⟩ := bind_some h
  refine SRun.ls (xc ents57 (spec_l01In_run aYear x7.Years.From x7.Years.To _ hx8)) ?_
  refine SRun.ck tbok 1 ⟨40, [(0, vl eClaim aList), (1, vs aPlace), (2, vi aYear), (7, vi s3.1), (8, .ref 8 0), (37, vb x8)], [(8, .box (tc eClaim x7))]⟩ ?_
  refine SRun.nil ?_
  obtain rfl := inj h
  exact Le.sub0
  refine SRun.ck tbok 9 ⟨40, [(0, vl eClaim aList), (1, vs aPlace), (2, vi aYear), (7, vi s3.1), (8, .ref 8 0), (37, vb false)], [(8, .box (tc eClaim x7))]⟩ ?_
  refine SRun.nil ?_
  obtain rfl := inj h
  exact Le.sub0
  refine SRun.ck tbok 15 ⟨40, [(0, vl eClaim aList), (1, vs aPlace), (2, vi aYear), (7, vi s3.1), (8, .ref 8 0), (37, vb false)], [(8, .box (tc eClaim x7))]⟩ ?_
  refine SRun.nil ?_
  obtain rfl := inj h
  exact Le.sub0
  refine swp_cd h (fun h => ?_) fun h => ?_
  refine srk tbok ⟨40, [(6, vs x7.Value)], []⟩ ?_
  refine swp_ret ?_
  obtain rfl := inj h
  exact q_br (q_rr (q_rr (q_br (q_rr (q_fr (f1 fv))))))
  refine swp_skip ?_
  obtain rfl := inj h
  exact q_bn (q_l (Le.sub0))
  refine swp_reg ?_
  refine SRun.ck tbok 3 ⟨40, [(0, vl eClaim aList), (1, vs aPlace), (2, vi aYear), (7, vi (w64 (s3.1 + 1)))], []⟩ ?_
  refine SRun.nil ?_
  obtain rfl := inj h
  exact q_l (Le.sub0)
  refine swp_exit ?_
  obtain rfl := inj h
  exact nx_e (q_re (q_bh (q_l (Le.sub0))))
  refine srk tbok ⟨40, [(6, vs (ByteArray.mk #[]))], []⟩ ?_
  refine swp_ret ?_
  obtain rfl := inj h
  exact q_fr (f1 fv)
theorem ents42 : Ents Tryz.prog 42 := ents_of Tryz.func42 (by kernel_rfl) rfl
noncomputable def spec_NameBy (aList : (List Claim)) (aPlace : ByteArray) (aYear : Int) : Option (ByteArray × Int) :=
  ((spec_l21Sound aList aPlace aYear).bind fun x1 => (bif (x1 != 0) then some ((ByteArray.mk #[]), x1) else ((spec_l21Name aList aPlace aYear).bind fun x2 => (bif (x2.toList == (ByteArray.mk #[]).toList) then some ((ByteArray.mk #[]), 4) else some (x2, 0)))))
theorem spec_NameBy_run (aList : (List Claim)) (aPlace : ByteArray) (aYear : Int) (r : ByteArray × Int) (h : spec_NameBy aList aPlace aYear = some r) : SCall Tryz.prog 16 [.v (vl eClaim aList), .v (vs aPlace), .v (vi aYear)] ⟨[.v (vs r.1), .v (vi r.2)], [], false⟩ := by
  refine scall_in Tryz.func16 rfl [(.tmp 6), (.tmp 7)] rfl (fun r => ⟨[.v (vs r.1), .v (vi r.2)], [], false⟩) (r := r) ?_
  unfold spec_NameBy at h
  refine srk tbok ⟨24, [(0, vl eClaim aList), (1, vs aPlace), (2, vi aYear)], []⟩ ?_
  refine sr ?_
  refine SRun.ck tbok 3 ⟨24, [(0, vl eClaim aList), (1, vs aPlace), (2, vi aYear), (10, vl eClaim aList), (11, vs aPlace), (12, vi aYear)], []⟩ ?_
  obtain ⟨x1, hx1, h⟩ := bind_some h
  refine SRun.ls (xc ents41 (spec_l21Sound_run aList aPlace aYear _ hx1)) ?_
  refine ckn tbok 1 ⟨24, [(0, vl eClaim aList), (1, vs aPlace), (2, vi aYear), (8, vi x1)], []⟩ ?_
  refine swp_seq ?_
  refine srk tbok ⟨24, [(0, vl eClaim aList), (1, vs aPlace), (2, vi aYear), (8, vi x1), (15, vb (x1 != 0))], []⟩ ?_
  refine swp_cd h (fun h => ?_) fun h => ?_
  refine srk tbok ⟨24, [(6, vs (ByteArray.mk #[])), (7, vi x1)], []⟩ ?_
  refine swp_ret ?_
  obtain rfl := inj h
  exact nx_r (q_fr (f2 fv fv))
  refine swp_skip ?_
  refine nx_n ?_
  refine sr ?_
  refine SRun.ck tbok 3 ⟨24, [(17, vl eClaim aList), (18, vs aPlace), (19, vi aYear)], []⟩ ?_
  obtain ⟨x2, hx2, h⟩ := bind_some h
  refine SRun.ls (xc ents42 (spec_l21Name_run aList aPlace aYear _ hx2)) ?_
  refine ckn tbok 1 ⟨24, [(9, vs x2)], []⟩ ?_
  refine swp_seq ?_
  refine srk tbok ⟨24, [(9, vs x2), (22, vb (x2.toList == (ByteArray.mk #[]).toList))], []⟩ ?_
  refine swp_cd h (fun h => ?_) fun h => ?_
  refine srk tbok ⟨24, [(6, vs (ByteArray.mk #[])), (7, vi 4)], []⟩ ?_
  refine swp_ret ?_
  obtain rfl := inj h
  exact nx_r (q_fr (f2 fv fv))
  refine swp_skip ?_
  refine nx_n ?_
  refine srk tbok ⟨24, [(6, vs x2), (7, vi 0)], []⟩ ?_
  refine swp_ret ?_
  obtain rfl := inj h
  exact q_fr (f2 fv fv)
theorem ents16 : Ents Tryz.prog 16 := ents_of Tryz.func16 (by kernel_rfl) rfl
noncomputable def impl_ParentBy (aList : (List Claim)) (aPlace : ByteArray) (aYear : Int) : Option (ByteArray × Int) :=
  ((impl_toldBy aList 1 aPlace aYear).bind fun x1 => some (x1.1, x1.2))
theorem impl_ParentBy_run (aList : (List Claim)) (aPlace : ByteArray) (aYear : Int) (r : ByteArray × Int) (h : impl_ParentBy aList aPlace aYear = some r) : SCall Tryz.prog 17 [.v (vl eClaim aList), .v (vs aPlace), .v (vi aYear)] ⟨[.v (vs r.1), .v (vi r.2)], [], false⟩ := by
  refine scall_in Tryz.func17 rfl [(.tmp 6), (.tmp 7)] rfl (fun r => ⟨[.v (vs r.1), .v (vi r.2)], [], false⟩) (r := r) ?_
  unfold impl_ParentBy at h
  refine srk tbok ⟨14, [(0, vl eClaim aList), (1, vs aPlace), (2, vi aYear)], []⟩ ?_
  refine sr ?_
  refine SRun.ck tbok 3 ⟨14, [(8, vl eClaim aList), (9, vs aPlace), (10, vi aYear)], []⟩ ?_
  obtain ⟨x1, hx1, h⟩ := bind_some h
  refine SRun.ls (xc ents40 (impl_toldBy_run aList 1 aPlace aYear _ hx1)) ?_
  refine ckn tbok 4 ⟨14, [(6, vs x1.1), (7, vi x1.2)], []⟩ ?_
  refine swp_ret ?_
  obtain rfl := inj h
  exact q_fr (f2 fv fv)
theorem ents17 : Ents Tryz.prog 17 := ents_of Tryz.func17 (by kernel_rfl) rfl
noncomputable def spec_ParentBy (aList : (List Claim)) (aPlace : ByteArray) (aYear : Int) : Option (ByteArray × Int) :=
  ((spec_l21Sound aList aPlace aYear).bind fun x1 => (bif (x1 != 0) then some ((ByteArray.mk #[]), x1) else ((spec_l21Parent aList aPlace aYear).bind fun x2 => (bif (x2.toList == (ByteArray.mk #[]).toList) then some ((ByteArray.mk #[]), 4) else some (x2, 0)))))
theorem spec_ParentBy_run (aList : (List Claim)) (aPlace : ByteArray) (aYear : Int) (r : ByteArray × Int) (h : spec_ParentBy aList aPlace aYear = some r) : SCall Tryz.prog 18 [.v (vl eClaim aList), .v (vs aPlace), .v (vi aYear)] ⟨[.v (vs r.1), .v (vi r.2)], [], false⟩ := by
  refine scall_in Tryz.func18 rfl [(.tmp 6), (.tmp 7)] rfl (fun r => ⟨[.v (vs r.1), .v (vi r.2)], [], false⟩) (r := r) ?_
  unfold spec_ParentBy at h
  refine srk tbok ⟨24, [(0, vl eClaim aList), (1, vs aPlace), (2, vi aYear)], []⟩ ?_
  refine sr ?_
  refine SRun.ck tbok 3 ⟨24, [(0, vl eClaim aList), (1, vs aPlace), (2, vi aYear), (10, vl eClaim aList), (11, vs aPlace), (12, vi aYear)], []⟩ ?_
  obtain ⟨x1, hx1, h⟩ := bind_some h
  refine SRun.ls (xc ents41 (spec_l21Sound_run aList aPlace aYear _ hx1)) ?_
  refine ckn tbok 1 ⟨24, [(0, vl eClaim aList), (1, vs aPlace), (2, vi aYear), (8, vi x1)], []⟩ ?_
  refine swp_seq ?_
  refine srk tbok ⟨24, [(0, vl eClaim aList), (1, vs aPlace), (2, vi aYear), (8, vi x1), (15, vb (x1 != 0))], []⟩ ?_
  refine swp_cd h (fun h => ?_) fun h => ?_
  refine srk tbok ⟨24, [(6, vs (ByteArray.mk #[])), (7, vi x1)], []⟩ ?_
  refine swp_ret ?_
  obtain rfl := inj h
  exact nx_r (q_fr (f2 fv fv))
  refine swp_skip ?_
  refine nx_n ?_
  refine sr ?_
  refine SRun.ck tbok 3 ⟨24, [(17, vl eClaim aList), (18, vs aPlace), (19, vi aYear)], []⟩ ?_
  obtain ⟨x2, hx2, h⟩ := bind_some h
  refine SRun.ls (xc ents43 (spec_l21Parent_run aList aPlace aYear _ hx2)) ?_
  refine ckn tbok 1 ⟨24, [(9, vs x2)], []⟩ ?_
  refine swp_seq ?_
  refine srk tbok ⟨24, [(9, vs x2), (22, vb (x2.toList == (ByteArray.mk #[]).toList))], []⟩ ?_
  refine swp_cd h (fun h => ?_) fun h => ?_
  refine srk tbok ⟨24, [(6, vs (ByteArray.mk #[])), (7, vi 4)], []⟩ ?_
  refine swp_ret ?_
  obtain rfl := inj h
  exact nx_r (q_fr (f2 fv fv))
  refine swp_skip ?_
  refine nx_n ?_
  refine srk tbok ⟨24, [(6, vs x2), (7, vi 0)], []⟩ ?_
  refine swp_ret ?_
  obtain rfl := inj h
  exact q_fr (f2 fv fv)
theorem ents18 : Ents Tryz.prog 18 := ents_of Tryz.func18 (by kernel_rfl) rfl
noncomputable def impl_existsBy (aList : (List Claim)) (aPlace : ByteArray) (aYear : Int) : Option (Int) :=
  (((forN (aList.length : Int) (fun (i3 : Int) (_ : Unit) => ((at' aList i3).bind fun x7 => ((impl_Span_has x7.Years aYear).bind fun x8 => (bif (!x8) then some (.inl ()) else (bif ((x7.Place.toList == aPlace.toList) && (x7.Kind == 3)) then some (.inr (.inr (-1))) else (bif ((x7.Place.toList == aPlace.toList) || ((x7.Kind == 1) && (x7.Value.toList == aPlace.toList))) then some (.inr (.inr 1)) else some (.inl ()))))))) (fun (_ : Unit) => .inl ()) 0 ())).bind (Sum.elim (fun (_ : Unit) => some 0) some))
theorem impl_existsBy_run (aList : (List Claim)) (aPlace : ByteArray) (aYear : Int) (r : Int) (h : impl_existsBy aList aPlace aYear = some r) : SCall Tryz.prog 45 [.v (vl eClaim aList), .v (vs aPlace), .v (vi aYear)] ⟨[.v (vi r)], [], false⟩ := by
  refine scall_in Tryz.func45 rfl [(.tmp 6)] rfl (fun r => ⟨[.v (vi r)], [], false⟩) (r := r) ?_
  unfold impl_existsBy at h
  refine srk tbok ⟨47, [(0, vl eClaim aList), (1, vs aPlace), (2, vi aYear)], []⟩ ?_
  refine swp_seq ?_
  refine srk tbok ⟨47, [(1, vs aPlace), (2, vi aYear), (9, vl eClaim aList), (10, vi (aList.length : Int)), (11, vi 0)], []⟩ ?_
  refine swp_seqE (r := r) h (fun j1 => ⟨47, [], []⟩) (fun v2 h => ?_) (fun j1 h => ?_)
  refine swp_blk (a := v2) ?_
  refine swp_lpL (r := v2) (s := (0, ())) _ (fun s3 => ⟨47, [(1, vs aPlace), (2, vi aYear), (9, vl eClaim aList), (10, vi (aList.length : Int)), (11, vi s3.1)], []⟩) _ (Le.sub0) h (fun s3 v4 h => ?_)
  refine srk tbok ⟨47, [(1, vs aPlace), (2, vi aYear), (9, vl eClaim aList), (10, vi (aList.length : Int)), (11, vi s3.1), (12, vb (decide (s3.1 < (aList.length : Int))))], []⟩ ?_
  refine swp_seq ?_
  refine swp_cd h (fun h => ?_) fun h => ?_
  refine swp_skip ?_
  refine nx_n ?_
  refine swp_seq ?_
  refine swp_seqL (r := v4) h (fun j5 => ⟨47, [(1, vs aPlace), (2, vi aYear), (9, vl eClaim aList), (10, vi (aList.length : Int)), (11, vi s3.1)], []⟩) (fun v6 h => ?_) (fun j5 h => ?_)
  refine swp_blk (a := v6) ?_
  refine sr ?_
  obtain ⟨x7, hx7, h⟩ := bind_some h
  refine SRun.ls (x_index (L := aList) (f := eClaim) (ti := ti24) (tj := ti35) (e := 35) (k := .i64) tbok rfl hx7) ?_
  refine ckn tbok 3 ⟨47, [(1, vs aPlace), (2, vi aYear), (8, .ref 8 0), (9, vl eClaim aList), (10, vi (aList.length : Int)), (11, vi s3.1)], [(8, .box (tc eClaim x7))]⟩ ?_
  refine swp_seq ?_
  refine sr ?_
  refine SRun.ck tbok 3 ⟨47, [(1, vs aPlace), (2, vi aYear), (8, .ref 8 0), (9, vl eClaim aList), (10, vi (aList.length : Int)), (11, vi s3.1), (16, .agg (tc eSpan x7.Years)), (17, vi aYear)], [(8, .box (tc eClaim x7))]⟩ ?_
  obtain ⟨x8, hx8, h⟩ := bind_some h
  refine SRun.ls (xc ents71 (impl_Span_has_run x7.Years aYear _ hx8)) ?_
  refine ckn tbok 1 ⟨47, [(1, vs aPlace), (2, vi aYear), (8, .ref 8 0), (9, vl eClaim aList), (10, vi (aList.length : Int)), (11, vi s3.1), (19, vb (!x8))], [(8, .box (tc eClaim x7))]⟩ ?_
  refine swp_cd h (fun h => ?_) fun h => ?_
  refine swp_exit ?_
  obtain rfl := inj h
  exact nx_e (q_bh (q_l (Le.sub0)))
  refine swp_skip ?_
  refine nx_n ?_
  refine swp_blk (a := v6) ?_
  refine swp_seq ?_
  refine swp_regP ⟨47, [(1, vs aPlace), (2, vi aYear), (8, .ref 8 0), (9, vl eClaim aList), (10, vi (aList.length : Int)), (11, vi s3.1), (20, vb ((x7.Place.toList == aPlace.toList) && (x7.Kind == 3)))], [(8, .box (tc eClaim x7))]⟩ ?_ ?_
  refine SRun.ck tbok 5 ⟨47, [(1, vs aPlace), (2, vi aYear), (8, .ref 8 0), (9, vl eClaim aList), (10, vi (aList.length : Int)), (11, vi s3.1), (25, vb (x7.Place.toList == aPlace.toList))], [(8, .box (tc eClaim x7))]⟩ ?_
  generalize (x7.Place.toList == aPlace.toList) = bb
  cases bb
  refine SRun.ck tbok 5 ⟨47, [(1, vs aPlace), (2, vi aYear), (8, .ref 8 0), (9, vl eClaim aList), (10, vi (aList.length : Int)), (11, vi s3.1), (20, vb false)], [(8, .box (tc eClaim x7))]⟩ ?_
  exact SRun.nil (Le.sub0)
  refine SRun.ck tbok 5 ⟨47, [(1, vs aPlace), (2, vi aYear), (8, .ref 8 0), (9, vl eClaim aList), (10, vi (aList.length : Int)), (11, vi s3.1), (20, vb (x7.Kind == 3))], [(8, .box (tc eClaim x7))]⟩ ?_
  exact SRun.nil (Le.sub0)
  refine swp_cd h (fun h => ?_) fun h => ?_
  refine srk tbok ⟨47, [(6, vi (-1))], []⟩ ?_
  refine swp_ret ?_
  obtain rfl := inj h
  exact q_br (q_br (q_rr (q_rr (q_br (q_rr (q_fr (f1 fv)))))))
  refine swp_seq ?_
  refine swp_regP ⟨47, [(1, vs aPlace), (2, vi aYear), (9, vl eClaim aList), (10, vi (aList.length : Int)), (11, vi s3.1), (30, vb ((x7.Place.toList == aPlace.toList) || ((x7.Kind == 1) && (x7.Value.toList == aPlace.toList))))], []⟩ ?_ ?_
  refine SRun.ck tbok 5 ⟨47, [(1, vs aPlace), (2, vi aYear), (8, .ref 8 0), (9, vl eClaim aList), (10, vi (aList.length : Int)), (11, vi s3.1), (35, vb (x7.Place.toList == aPlace.toList))], [(8, .box (tc eClaim x7))]⟩ ?_
  generalize (x7.Place.toList == aPlace.toList) = bb
  cases bb
  refine SRun.ck tbok 4 ⟨47, [(1, vs aPlace), (2, vi aYear), (8, .ref 8 0), (9, vl eClaim aList), (10, vi (aList.length : Int)), (11, vi s3.1), (35, vb false), (39, vb (x7.Kind == 1))], [(8, .box (tc eClaim x7))]⟩ ?_
  generalize (x7.Kind == 1) = bb
  cases bb
  refine SRun.ck tbok 7 ⟨47, [(1, vs aPlace), (2, vi aYear), (9, vl eClaim aList), (10, vi (aList.length : Int)), (11, vi s3.1), (30, vb false)], []⟩ ?_
  exact SRun.nil (Le.sub0)
  refine SRun.ck tbok 7 ⟨47, [(1, vs aPlace), (2, vi aYear), (9, vl eClaim aList), (10, vi (aList.length : Int)), (11, vi s3.1), (30, vb (x7.Value.toList == aPlace.toList))], []⟩ ?_
  exact SRun.nil (Le.sub0)
  refine SRun.ck tbok 11 ⟨47, [(1, vs aPlace), (2, vi aYear), (9, vl eClaim aList), (10, vi (aList.length : Int)), (11, vi s3.1), (30, vb true)], []⟩ ?_
  exact SRun.nil (Le.sub0)
  refine swp_cd h (fun h => ?_) fun h => ?_
  refine srk tbok ⟨47, [(6, vi 1)], []⟩ ?_
  refine swp_ret ?_
  obtain rfl := inj h
  exact q_br (q_br (q_rr (q_rr (q_br (q_rr (q_fr (f1 fv)))))))
  refine swp_skip ?_
  obtain rfl := inj h
  exact q_bn (q_bn (q_l (Le.sub0)))
  refine swp_reg ?_
  refine SRun.ck tbok 2 ⟨47, [(1, vs aPlace), (2, vi aYear), (9, vl eClaim aList), (10, vi (aList.length : Int)), (11, vi (w64 (s3.1 + 1)))], []⟩ ?_
  refine SRun.nil ?_
  obtain rfl := inj h
  exact q_l (Le.sub0)
  refine swp_exit ?_
  obtain rfl := inj h
  exact nx_e (q_re (q_bh (q_l (Le.sub0))))
  refine srk tbok ⟨47, [(6, vi 0)], []⟩ ?_
  refine swp_ret ?_
  obtain rfl := inj h
  exact q_fr (f1 fv)
theorem ents45 : Ents Tryz.prog 45 := ents_of Tryz.func45 (by kernel_rfl) rfl
noncomputable def impl_ExistsBy (aList : (List Claim)) (aPlace : ByteArray) (aYear : Int) : Option (Int × Int) :=
  ((impl_toldCode aList aPlace aYear).bind fun x1 => (bif (x1 != 0) then some (0, x1) else ((impl_existsBy aList aPlace aYear).bind fun x2 => some (x2, 0))))
theorem impl_ExistsBy_run (aList : (List Claim)) (aPlace : ByteArray) (aYear : Int) (r : Int × Int) (h : impl_ExistsBy aList aPlace aYear = some r) : SCall Tryz.prog 19 [.v (vl eClaim aList), .v (vs aPlace), .v (vi aYear)] ⟨[.v (vi r.1), .v (vi r.2)], [], false⟩ := by
  refine scall_in Tryz.func19 rfl [(.tmp 6), (.tmp 7)] rfl (fun r => ⟨[.v (vi r.1), .v (vi r.2)], [], false⟩) (r := r) ?_
  unfold impl_ExistsBy at h
  refine srk tbok ⟨20, [(0, vl eClaim aList), (1, vs aPlace), (2, vi aYear)], []⟩ ?_
  refine swp_seq ?_
  refine sr ?_
  refine SRun.ck tbok 3 ⟨20, [(0, vl eClaim aList), (1, vs aPlace), (2, vi aYear), (9, vl eClaim aList), (10, vs aPlace), (11, vi aYear)], []⟩ ?_
  obtain ⟨x1, hx1, h⟩ := bind_some h
  refine SRun.ls (xc ents44 (impl_toldCode_run aList aPlace aYear _ hx1)) ?_
  refine ckn tbok 1 ⟨20, [(0, vl eClaim aList), (1, vs aPlace), (2, vi aYear), (8, vi x1)], []⟩ ?_
  refine srk tbok ⟨20, [(0, vl eClaim aList), (1, vs aPlace), (2, vi aYear), (8, vi x1), (14, vb (x1 != 0))], []⟩ ?_
  refine swp_cd h (fun h => ?_) fun h => ?_
  refine srk tbok ⟨20, [(6, vi 0), (7, vi x1)], []⟩ ?_
  refine swp_ret ?_
  obtain rfl := inj h
  exact nx_r (q_fr (f2 fv fv))
  refine swp_skip ?_
  refine nx_n ?_
  refine sr ?_
  refine SRun.ck tbok 3 ⟨20, [(16, vl eClaim aList), (17, vs aPlace), (18, vi aYear)], []⟩ ?_
  obtain ⟨x2, hx2, h⟩ := bind_some h
  refine SRun.ls (xc ents45 (impl_existsBy_run aList aPlace aYear _ hx2)) ?_
  refine ckn tbok 2 ⟨20, [(6, vi x2), (7, vi 0)], []⟩ ?_
  refine swp_ret ?_
  obtain rfl := inj h
  exact q_fr (f2 fv fv)
theorem ents19 : Ents Tryz.prog 19 := ents_of Tryz.func19 (by kernel_rfl) rfl
noncomputable def spec_l21Exists (aList : (List Claim)) (aPlace : ByteArray) (aYear : Int) : Option (Int) :=
  (((forS (aList.length : Int) (fun (i3 : Int) (s3 : Int) => ((at' aList i3).bind fun x7 => ((spec_l01In aYear x7.Years.From x7.Years.To).bind fun x8 => (bif (!x8) then some s3 else (bif ((x7.Kind == 3) && (x7.Place.toList == aPlace.toList)) then some (-1) else (bif ((x7.Place.toList == aPlace.toList) || ((x7.Kind == 1) && (x7.Value.toList == aPlace.toList))) then some 1 else some s3)))))) (fun (s3 : Int) => s3) 0 0)).bind fun (j1 : Int) => some j1)
theorem spec_l21Exists_run (aList : (List Claim)) (aPlace : ByteArray) (aYear : Int) (r : Int) (h : spec_l21Exists aList aPlace aYear = some r) : SCall Tryz.prog 46 [.v (vl eClaim aList), .v (vs aPlace), .v (vi aYear)] ⟨[.v (vi r)], [], false⟩ := by
  refine scall_in Tryz.func46 rfl [(.tmp 6)] rfl (fun r => ⟨[.v (vi r)], [], false⟩) (r := r) ?_
  unfold spec_l21Exists at h
  refine srk tbok ⟨56, [(0, vl eClaim aList), (1, vs aPlace), (2, vi aYear)], []⟩ ?_
  refine srk tbok ⟨56, [(0, vl eClaim aList), (1, vs aPlace), (2, vi aYear), (7, vi 0)], []⟩ ?_
  refine swp_seq ?_
  refine srk tbok ⟨56, [(0, vl eClaim aList), (1, vs aPlace), (2, vi aYear), (7, vi 0), (8, vi 0)], []⟩ ?_
  refine swp_seqJ h (fun j1 => ⟨56, [(7, vi j1)], []⟩) (fun v2 h => ?_) (fun j1 h => ?_)
  refine swp_blk (a := v2) ?_
  refine swp_lpL (r := v2) (s := (0, 0)) _ (fun s3 => ⟨56, [(0, vl eClaim aList), (1, vs aPlace), (2, vi aYear), (7, vi s3.2), (8, vi s3.1)], []⟩) _ (Le.sub0) h (fun s3 v4 h => ?_)
  refine swp_seq ?_
  refine srk tbok ⟨56, [(0, vl eClaim aList), (1, vs aPlace), (2, vi aYear), (7, vi s3.2), (8, vi s3.1), (13, vb (decide (s3.1 < (aList.length : Int))))], []⟩ ?_
  refine swp_cd h (fun h => ?_) fun h => ?_
  refine swp_skip ?_
  refine nx_n ?_
  refine swp_seq ?_
  refine swp_seqJ h (fun j5 => ⟨56, [(0, vl eClaim aList), (1, vs aPlace), (2, vi aYear), (7, vi j5), (8, vi s3.1)], []⟩) (fun v6 h => ?_) (fun j5 h => ?_)
  refine swp_blk (a := v6) ?_
  refine sr ?_
  refine SRun.ck tbok 2 ⟨56, [(0, vl eClaim aList), (1, vs aPlace), (2, vi aYear), (7, vi s3.2), (8, vi s3.1), (16, vl eClaim aList), (17, vi s3.1)], []⟩ ?_
  obtain ⟨x7, hx7, h⟩ := bind_some h
  refine SRun.ls (x_index (L := aList) (f := eClaim) (ti := ti24) (tj := ti35) (e := 35) (k := .i64) tbok rfl hx7) ?_
  refine ckn tbok 3 ⟨56, [(0, vl eClaim aList), (1, vs aPlace), (2, vi aYear), (7, vi s3.2), (8, vi s3.1), (9, .ref 9 0)], [(9, .box (tc eClaim x7))]⟩ ?_
  refine swp_seq ?_
  refine sr ?_
  refine SRun.ck tbok 7 ⟨56, [(0, vl eClaim aList), (1, vs aPlace), (2, vi aYear), (7, vi s3.2), (8, vi s3.1), (9, .ref 9 0), (20, vi aYear), (23, vi x7.Years.From), (26, vi x7.Years.To)], [(9, .box (tc eClaim x7))]⟩ ?_
  obtain ⟨x8, hx8, h⟩ := bind_some h
  refine SRun.ls (xc ents57 (spec_l01In_run aYear x7.Years.From x7.Years.To _ hx8)) ?_
  refine ckn tbok 1 ⟨56, [(0, vl eClaim aList), (1, vs aPlace), (2, vi aYear), (7, vi s3.2), (8, vi s3.1), (9, .ref 9 0), (28, vb (!x8))], [(9, .box (tc eClaim x7))]⟩ ?_
  refine swp_cd h (fun h => ?_) fun h => ?_
  refine swp_exit ?_
  obtain rfl := inj h
  exact nx_e (q_bh (q_j (Le.sub0)))
  refine swp_skip ?_
  refine nx_n ?_
  refine swp_blk (a := v6) ?_
  refine swp_seq ?_
  refine swp_regP ⟨56, [(0, vl eClaim aList), (1, vs aPlace), (2, vi aYear), (7, vi s3.2), (8, vi s3.1), (9, .ref 9 0), (29, vb ((x7.Kind == 3) && (x7.Place.toList == aPlace.toList)))], [(9, .box (tc eClaim x7))]⟩ ?_ ?_
  refine SRun.ck tbok 4 ⟨56, [(0, vl eClaim aList), (1, vs aPlace), (2, vi aYear), (7, vi s3.2), (8, vi s3.1), (9, .ref 9 0), (33, vb (x7.Kind == 3))], [(9, .box (tc eClaim x7))]⟩ ?_
  generalize (x7.Kind == 3) = bb
  cases bb
  refine SRun.ck tbok 6 ⟨56, [(0, vl eClaim aList), (1, vs aPlace), (2, vi aYear), (7, vi s3.2), (8, vi s3.1), (9, .ref 9 0), (29, vb false)], [(9, .box (tc eClaim x7))]⟩ ?_
  exact SRun.nil (Le.sub0)
  refine SRun.ck tbok 6 ⟨56, [(0, vl eClaim aList), (1, vs aPlace), (2, vi aYear), (7, vi s3.2), (8, vi s3.1), (9, .ref 9 0), (29, vb (x7.Place.toList == aPlace.toList))], [(9, .box (tc eClaim x7))]⟩ ?_
  exact SRun.nil (Le.sub0)
  refine swp_cd h (fun h => ?_) fun h => ?_
  refine swp_reg ?_
  refine SRun.ck tbok 1 ⟨56, [(0, vl eClaim aList), (1, vs aPlace), (2, vi aYear), (7, vi (-1)), (8, vi s3.1)], []⟩ ?_
  refine SRun.nil ?_
  obtain rfl := inj h
  exact q_bn (q_bn (q_j (Le.sub0)))
  refine swp_seq ?_
  refine swp_regP ⟨56, [(0, vl eClaim aList), (1, vs aPlace), (2, vi aYear), (7, vi s3.2), (8, vi s3.1), (39, vb ((x7.Place.toList == aPlace.toList) || ((x7.Kind == 1) && (x7.Value.toList == aPlace.toList))))], []⟩ ?_ ?_
  refine SRun.ck tbok 5 ⟨56, [(0, vl eClaim aList), (1, vs aPlace), (2, vi aYear), (7, vi s3.2), (8, vi s3.1), (9, .ref 9 0), (44, vb (x7.Place.toList == aPlace.toList))], [(9, .box (tc eClaim x7))]⟩ ?_
  generalize (x7.Place.toList == aPlace.toList) = bb
  cases bb
  refine SRun.ck tbok 4 ⟨56, [(0, vl eClaim aList), (1, vs aPlace), (2, vi aYear), (7, vi s3.2), (8, vi s3.1), (9, .ref 9 0), (44, vb false), (48, vb (x7.Kind == 1))], [(9, .box (tc eClaim x7))]⟩ ?_
  generalize (x7.Kind == 1) = bb
  cases bb
  refine SRun.ck tbok 7 ⟨56, [(0, vl eClaim aList), (1, vs aPlace), (2, vi aYear), (7, vi s3.2), (8, vi s3.1), (39, vb false)], []⟩ ?_
  exact SRun.nil (Le.sub0)
  refine SRun.ck tbok 7 ⟨56, [(0, vl eClaim aList), (1, vs aPlace), (2, vi aYear), (7, vi s3.2), (8, vi s3.1), (39, vb (x7.Value.toList == aPlace.toList))], []⟩ ?_
  exact SRun.nil (Le.sub0)
  refine SRun.ck tbok 11 ⟨56, [(0, vl eClaim aList), (1, vs aPlace), (2, vi aYear), (7, vi s3.2), (8, vi s3.1), (39, vb true)], []⟩ ?_
  exact SRun.nil (Le.sub0)
  refine swp_cd h (fun h => ?_) fun h => ?_
  refine swp_reg ?_
  refine SRun.ck tbok 1 ⟨56, [(0, vl eClaim aList), (1, vs aPlace), (2, vi aYear), (7, vi 1), (8, vi s3.1)], []⟩ ?_
  refine SRun.nil ?_
  obtain rfl := inj h
  exact q_bn (q_bn (q_j (Le.sub0)))
  refine swp_skip ?_
  obtain rfl := inj h
  exact q_bn (q_bn (q_j (Le.sub0)))
  refine swp_reg ?_
  refine SRun.ck tbok 3 ⟨56, [(0, vl eClaim aList), (1, vs aPlace), (2, vi aYear), (7, vi j5), (8, vi (w64 (s3.1 + 1)))], []⟩ ?_
  refine SRun.nil ?_
  obtain rfl := inj h
  exact q_l (Le.sub0)
  refine swp_exit ?_
  obtain rfl := inj h
  exact nx_e (q_re (q_bh (q_j (Le.sub0))))
  refine srk tbok ⟨56, [(6, vi j1)], []⟩ ?_
  refine swp_ret ?_
  obtain rfl := inj h
  exact q_fr (f1 fv)
theorem ents46 : Ents Tryz.prog 46 := ents_of Tryz.func46 (by kernel_rfl) rfl
noncomputable def spec_ExistsBy (aList : (List Claim)) (aPlace : ByteArray) (aYear : Int) : Option (Int × Int) :=
  ((spec_l21Sound aList aPlace aYear).bind fun x1 => (bif (x1 != 0) then some (0, x1) else ((spec_l21Exists aList aPlace aYear).bind fun x2 => some (x2, 0))))
theorem spec_ExistsBy_run (aList : (List Claim)) (aPlace : ByteArray) (aYear : Int) (r : Int × Int) (h : spec_ExistsBy aList aPlace aYear = some r) : SCall Tryz.prog 20 [.v (vl eClaim aList), .v (vs aPlace), .v (vi aYear)] ⟨[.v (vi r.1), .v (vi r.2)], [], false⟩ := by
  refine scall_in Tryz.func20 rfl [(.tmp 6), (.tmp 7)] rfl (fun r => ⟨[.v (vi r.1), .v (vi r.2)], [], false⟩) (r := r) ?_
  unfold spec_ExistsBy at h
  refine srk tbok ⟨20, [(0, vl eClaim aList), (1, vs aPlace), (2, vi aYear)], []⟩ ?_
  refine sr ?_
  refine SRun.ck tbok 3 ⟨20, [(0, vl eClaim aList), (1, vs aPlace), (2, vi aYear), (9, vl eClaim aList), (10, vs aPlace), (11, vi aYear)], []⟩ ?_
  obtain ⟨x1, hx1, h⟩ := bind_some h
  refine SRun.ls (xc ents41 (spec_l21Sound_run aList aPlace aYear _ hx1)) ?_
  refine ckn tbok 1 ⟨20, [(0, vl eClaim aList), (1, vs aPlace), (2, vi aYear), (8, vi x1)], []⟩ ?_
  refine swp_seq ?_
  refine srk tbok ⟨20, [(0, vl eClaim aList), (1, vs aPlace), (2, vi aYear), (8, vi x1), (14, vb (x1 != 0))], []⟩ ?_
  refine swp_cd h (fun h => ?_) fun h => ?_
  refine srk tbok ⟨20, [(6, vi 0), (7, vi x1)], []⟩ ?_
  refine swp_ret ?_
  obtain rfl := inj h
  exact nx_r (q_fr (f2 fv fv))
  refine swp_skip ?_
  refine nx_n ?_
  refine sr ?_
  refine SRun.ck tbok 3 ⟨20, [(16, vl eClaim aList), (17, vs aPlace), (18, vi aYear)], []⟩ ?_
  obtain ⟨x2, hx2, h⟩ := bind_some h
  refine SRun.ls (xc ents46 (spec_l21Exists_run aList aPlace aYear _ hx2)) ?_
  refine ckn tbok 2 ⟨20, [(6, vi x2), (7, vi 0)], []⟩ ?_
  refine swp_ret ?_
  obtain rfl := inj h
  exact q_fr (f2 fv fv)
theorem ents20 : Ents Tryz.prog 20 := ents_of Tryz.func20 (by kernel_rfl) rfl
noncomputable def impl_PairsOf (aList : (List Claim)) : Option ((List (List Int)) × Int) :=
  ((impl_AreClaims aList).bind fun x1 => (bif (!x1) then some (([] : List (List Int)), 1) else (((forS (aList.length : Int) (fun (i4 : Int) (s4 : (List (List Int))) => ((at' aList i4).bind fun x8 => (forS (aList.length : Int) (fun (i9 : Int) (s9 : (List (List Int))) => ((at' aList i9).bind fun x13 => ((impl_Claim_contradicts x8 x13).bind fun x14 => (bif x14 then ((app' s9 ([([i4, i9] : List Int)] : List (List Int))).bind fun x15 => some x15) else some s9)))) (fun (s9 : (List (List Int))) => s9) (w64 (i4 + 1)) s4))) (fun (s4 : (List (List Int))) => s4) 0 ([] : List (List Int)))).bind fun (j2 : (List (List Int))) => some (j2, 0))))
theorem impl_PairsOf_run (aList : (List Claim)) (r : (List (List Int)) × Int) (h : impl_PairsOf aList = some r) : SCall Tryz.prog 21 [.v (vl eClaim aList)] ⟨[.deep 28 1 r.1.length [(.sl 2 1 [.flat])] (r.1.map (eL (eI .i64))), .v (vi r.2)], [], false⟩ := by
  refine scall_in Tryz.func21 rfl [(.tmp 2), (.tmp 3)] rfl (fun r => ⟨[.deep 28 1 r.1.length [(.sl 2 1 [.flat])] (r.1.map (eL (eI .i64))), .v (vi r.2)], [], false⟩) (r := r) ?_
  unfold impl_PairsOf at h
  refine sr ?_
  refine SRun.ck tbok 1 ⟨40, [(2, .own 2), (0, vl eClaim aList)], [(2, oa 28 1 (eL (eI .i64)) ([] : List (List Int)))]⟩ ?_
  refine SRun.le (Le.deep0 (d := 2) (e := 28) (m := 1) (ss := [(.sl 2 1 [.flat])]) (by kernel_rfl) (by kernel_rfl)) ?_
  refine ckn tbok 1 ⟨40, [(0, vl eClaim aList)], []⟩ ?_
  refine swp_seq ?_
  refine sr ?_
  refine SRun.ck tbok 1 ⟨40, [(0, vl eClaim aList), (8, vl eClaim aList)], []⟩ ?_
  obtain ⟨x1, hx1, h⟩ := bind_some h
  refine SRun.ls (xc ents26 (impl_AreClaims_run aList _ hx1)) ?_
  refine ckn tbok 1 ⟨40, [(0, vl eClaim aList), (10, vb (!x1))], []⟩ ?_
  refine swp_cd h (fun h => ?_) fun h => ?_
  refine sr ?_
  refine SRun.ck tbok 1 ⟨40, [(2, .own 2), (0, vl eClaim aList), (10, vb (!x1))], [(2, oa 28 1 (eL (eI .i64)) ([] : List (List Int)))]⟩ ?_
  refine SRun.le (Le.deep0 (d := 2) (e := 28) (m := 1) (ss := [(.sl 2 1 [.flat])]) (by kernel_rfl) (by kernel_rfl)) ?_
  refine ckn tbok 1 ⟨40, [(2, .own 2), (3, vi 1)], [(2, .deep 28 1 ([] : List (List Int)).length [(.sl 2 1 [.flat])] (([] : List (List Int)).map (eL (eI .i64))))]⟩ ?_
  refine swp_ret ?_
  obtain rfl := inj h
  exact nx_r (q_fr (f2 (finD (d := 2) (holds_t (by kernel_rfl)) (by kernel_rfl) (by kernel_rfl)) fv))
  refine swp_skip ?_
  refine nx_n ?_
  refine sr ?_
  refine SRun.ck tbok 1 ⟨40, [(4, .own 4), (0, vl eClaim aList), (10, vb (!x1))], [(4, oa 28 1 (eL (eI .i64)) ([] : List (List Int)))]⟩ ?_
  refine SRun.le (Le.deep0 (d := 4) (e := 28) (m := 1) (ss := [(.sl 2 1 [.flat])]) (by kernel_rfl) (by kernel_rfl)) ?_
  refine SRun.nx ?_
  refine swp_seq ?_
  refine srk tbok ⟨40, [(0, vl eClaim aList), (4, .own 4), (11, vl eClaim aList), (12, vi (aList.length : Int)), (13, vi 0)], [(4, .deep 28 1 ([] : List (List Int)).length [(.sl 2 1 [.flat])] (([] : List (List Int)).map (eL (eI .i64))))]⟩ ?_
  refine swp_seqJ h (fun j2 => ⟨40, [(4, .own 4)], [(4, .deep 28 1 j2.length [(.sl 2 1 [.flat])] (j2.map (eL (eI .i64))))]⟩) (fun v3 h => ?_) (fun j2 h => ?_)
  refine swp_blk (a := v3) ?_
  refine swp_lpL (r := v3) (s := (0, ([] : List (List Int)))) _ (fun s4 => ⟨40, [(0, vl eClaim aList), (4, .own 4), (11, vl eClaim aList), (12, vi (aList.length : Int)), (13, vi s4.1)], [(4, .deep 28 1 s4.2.length [(.sl 2 1 [.flat])] (s4.2.map (eL (eI .i64))))]⟩) _ (Le.sub0) h (fun s4 v5 h => ?_)
  refine srk tbok ⟨40, [(0, vl eClaim aList), (4, .own 4), (11, vl eClaim aList), (12, vi (aList.length : Int)), (13, vi s4.1), (14, vb (decide (s4.1 < (aList.length : Int))))], [(4, .deep 28 1 s4.2.length [(.sl 2 1 [.flat])] (s4.2.map (eL (eI .i64))))]⟩ ?_
  refine swp_seq ?_
  refine swp_cd h (fun h => ?_) fun h => ?_
  refine swp_skip ?_
  refine nx_n ?_
  refine swp_seq ?_
  refine swp_seqJ h (fun j6 => ⟨40, [(0, vl eClaim aList), (4, .own 4), (11, vl eClaim aList), (12, vi (aList.length : Int)), (13, vi s4.1)], [(4, .deep 28 1 j6.length [(.sl 2 1 [.flat])] (j6.map (eL (eI .i64))))]⟩) (fun v7 h => ?_) (fun j6 h => ?_)
  refine swp_blk (a := v7) ?_
  refine sr ?_
  refine SRun.ck tbok 1 ⟨40, [(0, vl eClaim aList), (4, .own 4), (11, vl eClaim aList), (12, vi (aList.length : Int)), (13, vi s4.1), (15, vi s4.1)], [(4, .deep 28 1 s4.2.length [(.sl 2 1 [.flat])] (s4.2.map (eL (eI .i64))))]⟩ ?_
  obtain ⟨x8, hx8, h⟩ := bind_some h
  refine SRun.ls (x_index (L := aList) (f := eClaim) (ti := ti24) (tj := ti35) (e := 35) (k := .i64) tbok rfl hx8) ?_
  refine ckn tbok 4 ⟨40, [(0, vl eClaim aList), (4, .own 4), (5, vi s4.1), (6, .ref 6 0), (11, vl eClaim aList), (12, vi (aList.length : Int)), (13, vi s4.1)], [(4, .deep 28 1 s4.2.length [(.sl 2 1 [.flat])] (s4.2.map (eL (eI .i64)))), (6, .box (tc eClaim x8))]⟩ ?_
  refine srk tbok ⟨40, [(0, vl eClaim aList), (4, .own 4), (5, vi s4.1), (6, .ref 6 0), (7, vi (w64 (s4.1 + 1))), (11, vl eClaim aList), (12, vi (aList.length : Int)), (13, vi s4.1)], [(4, .deep 28 1 s4.2.length [(.sl 2 1 [.flat])] (s4.2.map (eL (eI .i64)))), (6, .box (tc eClaim x8))]⟩ ?_
  refine swp_blk (a := v7) ?_
  refine swp_lpL (r := v7) (s := ((w64 (s4.1 + 1)), s4.2)) _ (fun s9 => ⟨40, [(0, vl eClaim aList), (4, .own 4), (5, vi s4.1), (6, .ref 6 0), (7, vi s9.1), (11, vl eClaim aList), (12, vi (aList.length : Int)), (13, vi s4.1)], [(4, .deep 28 1 s9.2.length [(.sl 2 1 [.flat])] (s9.2.map (eL (eI .i64)))), (6, .box (tc eClaim x8))]⟩) _ (Le.sub0) h (fun s9 v10 h => ?_)
  refine swp_seq ?_
  refine srk tbok ⟨40, [(0, vl eClaim aList), (4, .own 4), (5, vi s4.1), (6, .ref 6 0), (7, vi s9.1), (11, vl eClaim aList), (12, vi (aList.length : Int)), (13, vi s4.1), (23, vb (decide (s9.1 < (aList.length : Int))))], [(4, .deep 28 1 s9.2.length [(.sl 2 1 [.flat])] (s9.2.map (eL (eI .i64)))), (6, .box (tc eClaim x8))]⟩ ?_
  refine swp_cd h (fun h => ?_) fun h => ?_
  refine swp_skip ?_
  refine nx_n ?_
  refine swp_seq ?_
  refine swp_seqJ h (fun j11 => ⟨40, [(0, vl eClaim aList), (4, .own 4), (5, vi s4.1), (6, .ref 6 0), (7, vi s9.1), (11, vl eClaim aList), (12, vi (aList.length : Int)), (13, vi s4.1)], [(4, .deep 28 1 j11.length [(.sl 2 1 [.flat])] (j11.map (eL (eI .i64)))), (6, .box (tc eClaim x8))]⟩) (fun v12 h => ?_) (fun j11 h => ?_)
  refine swp_blk (a := v12) ?_
  refine swp_seq ?_
  refine swp_dr mixed ?_
  refine DGo.ck tbok false 3 ⟨40, [(0, vl eClaim aList), (4, .own 4), (5, vi s4.1), (6, .ref 6 0), (7, vi s9.1), (11, vl eClaim aList), (12, vi (aList.length : Int)), (13, vi s4.1), (26, .agg (tc eClaim x8)), (27, vl eClaim aList), (28, vi s9.1)], [(4, .deep 28 1 s9.2.length [(.sl 2 1 [.flat])] (s9.2.map (eL (eI .i64)))), (6, .box (tc eClaim x8))]⟩ ?_
  obtain ⟨x13, hx13, h⟩ := bind_some h
  refine DGo.step (x_index (L := aList) (f := eClaim) (ti := ti24) (tj := ti35) (e := 35) (k := .i64) tbok rfl hx13) ?_
  refine DGo.ck tbok false 1 ⟨40, [(0, vl eClaim aList), (4, .own 4), (5, vi s4.1), (6, .ref 6 0), (7, vi s9.1), (11, vl eClaim aList), (12, vi (aList.length : Int)), (13, vi s4.1), (26, .agg (tc eClaim x8)), (30, .agg (tc eClaim x13))], [(4, .deep 28 1 s9.2.length [(.sl 2 1 [.flat])] (s9.2.map (eL (eI .i64)))), (6, .box (tc eClaim x8))]⟩ ?_
  obtain ⟨x14, hx14, h⟩ := bind_some h
  refine DGo.step (xc ents47 (impl_Claim_contradicts_run x8 x13 _ hx14)) ?_
  refine DGo.nx ?_
  refine swp_cd h (fun h => ?_) fun h => ?_
  refine swp_reg ?_
  refine SRun.ck tbok 4 ⟨40, [(0, vl eClaim aList), (5, vi s4.1), (6, .ref 6 0), (7, vi s9.1), (11, vl eClaim aList), (12, vi (aList.length : Int)), (13, vi s4.1), (32, .own 4), (35, .own 35)], [(4, .deep 28 1 s9.2.length [(.sl 2 1 [.flat])] (s9.2.map (eL (eI .i64)))), (6, .box (tc eClaim x8)), (35, oa 2 1 (eI .i64) ([s4.1, s9.1] : List Int))]⟩ ?_
  refine SRun.estep (x_build_deep (ti := ti45) (tj := ti28) (e := 28) (m := 1) (zs := [.slice none 0 0]) (v := .own 35) (cs := [.own 35]) (ss := [(.sl 2 1 [.flat])]) (ts := [.sl ([s4.1, s9.1] : List Int).length (([s4.1, s9.1] : List Int).map (eI .i64))]) (ds := [35]) tbok rfl rfl rfl (.cons _ _ _ [35] _ _ _ _ (cD_arr (d := 35) (e := 2) (m := 1) (n := ([s4.1, s9.1] : List Int).length) (es := ([s4.1, s9.1] : List Int).map (eI .i64)) (ss := [.flat]) (flat_map (eI_flat .i64) _)) .nil (by decide))) ?_
  obtain ⟨x15, hx15, h⟩ := bind_some h
  refine SRun.estep (x_append_deep (f := (eL (eI .i64))) (L := s9.2) (M := ([([s4.1, s9.1] : List Int)] : List (List Int))) (t := 45) (ti := ti45) (tj := ti28) (zs := [.slice none 0 0]) (e := 28) (m := 1) (d := 4) (dx := 36) (ss := [(.sl 2 1 [.flat])]) hx15 tbok rfl rfl rfl rfl) ?_
  refine SRun.ck tbok 1 ⟨40, [(0, vl eClaim aList), (4, .own 37), (5, vi s4.1), (6, .ref 6 0), (7, vi s9.1), (11, vl eClaim aList), (12, vi (aList.length : Int)), (13, vi s4.1)], [(6, .box (tc eClaim x8)), (37, .deep 28 1 x15.length [(.sl 2 1 [.flat])] (x15.map (eL (eI .i64))))]⟩ ?_
  refine SRun.nil ?_
  obtain rfl := inj h
  exact q_bn (q_j (Le.rr [6, 37] [(37, 4)]))
  refine swp_skip ?_
  obtain rfl := inj h
  exact q_bn (q_j (Le.sub0))
  refine swp_reg ?_
  refine SRun.ck tbok 3 ⟨40, [(0, vl eClaim aList), (4, .own 4), (5, vi s4.1), (6, .ref 6 0), (7, vi (w64 (s9.1 + 1))), (11, vl eClaim aList), (12, vi (aList.length : Int)), (13, vi s4.1)], [(4, .deep 28 1 j11.length [(.sl 2 1 [.flat])] (j11.map (eL (eI .i64)))), (6, .box (tc eClaim x8))]⟩ ?_
  refine SRun.nil ?_
  obtain rfl := inj h
  exact q_l (Le.sub0)
  refine swp_exit ?_
  obtain rfl := inj h
  exact nx_e (q_re (q_bh (q_bn (q_j (Le.sub0)))))
  refine swp_reg ?_
  refine SRun.ck tbok 2 ⟨40, [(0, vl eClaim aList), (4, .own 4), (11, vl eClaim aList), (12, vi (aList.length : Int)), (13, vi (w64 (s4.1 + 1)))], [(4, .deep 28 1 j6.length [(.sl 2 1 [.flat])] (j6.map (eL (eI .i64))))]⟩ ?_
  refine SRun.nil ?_
  obtain rfl := inj h
  exact q_l (Le.sub0)
  refine swp_exit ?_
  obtain rfl := inj h
  exact nx_e (q_re (q_bh (q_j (Le.sub0))))
  refine srk tbok ⟨40, [(2, .own 4), (3, vi 0)], [(4, .deep 28 1 j2.length [(.sl 2 1 [.flat])] (j2.map (eL (eI .i64))))]⟩ ?_
  refine swp_ret ?_
  obtain rfl := inj h
  exact q_fr (f2 (finD (d := 4) (holds_t (by kernel_rfl)) (by kernel_rfl) (by kernel_rfl)) fv)
theorem ents21 : Ents Tryz.prog 21 := ents_of Tryz.func21 (by kernel_rfl) rfl
noncomputable def laws_FnConsistent (aCode : (List Int)) : Option (Bool) :=
  ((laws_big aCode).bind fun x1 => (bif x1 then some true else ((spec_DrawAreConsistent aCode).bind fun x2 => ((impl_AreConsistent x2).bind fun x3 => ((spec_AreConsistent x2).bind fun x4 => ((spec_DrawAreChosenConsistent aCode).bind fun x5 => ((impl_AreChosenConsistent x5.1 x5.2).bind fun x6 => ((spec_AreChosenConsistent x5.1 x5.2).bind fun x7 => ((spec_DrawFitsTo aCode).bind fun x8 => ((impl_FitsTo x8.1 x8.2).bind fun x9 => ((spec_FitsTo x8.1 x8.2).bind fun x10 => ((spec_DrawNameBy aCode).bind fun x11 => ((impl_NameBy x11.1 x11.2.1 x11.2.2).bind fun x12 => ((spec_NameBy x11.1 x11.2.1 x11.2.2).bind fun x13 => ((impl_ParentBy x11.1 x11.2.1 x11.2.2).bind fun x14 => ((spec_ParentBy x11.1 x11.2.1 x11.2.2).bind fun x15 => ((impl_ExistsBy x11.1 x11.2.1 x11.2.2).bind fun x16 => ((spec_ExistsBy x11.1 x11.2.1 x11.2.2).bind fun x17 => (bif ((x3.2 != x4.2) || ((!(x3.1 == x4.1)) || ((x6.2 != x7.2) || ((!(x6.1 == x7.1)) || ((x9.2 != x10.2) || ((!(x9.1 == x10.1)) || ((x12.2 != x13.2) || ((!(x12.1.toList == x13.1.toList)) || ((x14.2 != x15.2) || ((!(x14.1.toList == x15.1.toList)) || ((x16.2 != x17.2) || (x16.1 != x17.1)))))))))))) then some false else (bif ((x16.2 == 0) && (cond (x12.2 == 0) (x16.1 != 1) ((x14.2 == 0) && (x16.1 != 1)))) then some false else ((impl_AreConsistent x5.1).bind fun x18 => (bif ((x6.2 == 0) && ((x18.2 == 0) && (x18.1 && (!x6.1)))) then some false else (bif (x3.2 != 0) then some true else ((impl_PairsOf x2).bind fun x19 => some ((x19.2 == 0) && ((!x3.1) || ((x19.1.length : Int) == 0)))))))))))))))))))))))))))
theorem laws_FnConsistent_run (aCode : (List Int)) (r : Bool) (h : laws_FnConsistent aCode = some r) : SCall Tryz.prog 3 [.v (vl (eI .u8) aCode)] ⟨[.v (vb r)], [], false⟩ := by
  refine scall_in Tryz.func3 rfl [(.tmp 2)] rfl (fun r => ⟨[.v (vb r)], [], false⟩) (r := r) ?_
  unfold laws_FnConsistent at h
  refine srk tbok ⟨243, [(0, vl (eI .u8) aCode)], []⟩ ?_
  refine swp_seq ?_
  refine sr ?_
  refine SRun.ck tbok 1 ⟨243, [(0, vl (eI .u8) aCode), (39, vl (eI .u8) aCode)], []⟩ ?_
  obtain ⟨x1, hx1, h⟩ := bind_some h
  refine SRun.ls (xc ents4 (laws_big_run aCode _ hx1)) ?_
  refine SRun.nx ?_
  refine swp_cd h (fun h => ?_) fun h => ?_
  refine srk tbok ⟨243, [(2, vb true)], []⟩ ?_
  refine swp_ret ?_
  obtain rfl := inj h
  exact nx_r (q_fr (f1 fv))
  refine swp_skip ?_
  refine nx_n ?_
  refine sr ?_
  refine SRun.ck tbok 1 ⟨243, [(0, vl (eI .u8) aCode), (41, vl (eI .u8) aCode)], []⟩ ?_
  obtain ⟨x2, hx2, h⟩ := bind_some h
  refine SRun.ls (xc ents5 (spec_DrawAreConsistent_run aCode _ hx2)) ?_
  refine ckn tbok 1 ⟨243, [(0, vl (eI .u8) aCode), (3, .own 42)], [(42, oa 35 7 eClaim x2)]⟩ ?_
  refine sr ?_
  refine SRun.ck tbok 1 ⟨243, [(0, vl (eI .u8) aCode), (3, .own 42), (44, .own 42)], [(42, oa 35 7 eClaim x2)]⟩ ?_
  obtain ⟨x3, hx3, h⟩ := bind_some h
  refine SRun.ls (xc ents6 (impl_AreConsistent_run x2 _ hx3)) ?_
  refine ckn tbok 5 ⟨243, [(0, vl (eI .u8) aCode), (3, .own 42), (4, vb x3.1), (5, vi x3.2)], [(42, oa 35 7 eClaim x2)]⟩ ?_
  refine sr ?_
  refine SRun.ck tbok 1 ⟨243, [(0, vl (eI .u8) aCode), (3, .own 42), (4, vb x3.1), (5, vi x3.2), (49, .own 42)], [(42, oa 35 7 eClaim x2)]⟩ ?_
  obtain ⟨x4, hx4, h⟩ := bind_some h
  refine SRun.ls (xc ents7 (spec_AreConsistent_run x2 _ hx4)) ?_
  refine ckn tbok 5 ⟨243, [(0, vl (eI .u8) aCode), (3, .own 42), (4, vb x3.1), (5, vi x3.2), (6, vb x4.1), (7, vi x4.2)], [(42, oa 35 7 eClaim x2)]⟩ ?_
  refine sr ?_
  refine SRun.ck tbok 1 ⟨243, [(0, vl (eI .u8) aCode), (3, .own 42), (4, vb x3.1), (5, vi x3.2), (6, vb x4.1), (7, vi x4.2), (54, vl (eI .u8) aCode)], [(42, oa 35 7 eClaim x2)]⟩ ?_
  obtain ⟨x5, hx5, h⟩ := bind_some h
  refine SRun.ls (xc ents8 (spec_DrawAreChosenConsistent_run aCode _ hx5)) ?_
  refine ckn tbok 5 ⟨243, [(0, vl (eI .u8) aCode), (3, .own 42), (4, vb x3.1), (5, vi x3.2), (6, vb x4.1), (7, vi x4.2), (8, vl eClaim x5.1), (9, vl (eI .i64) x5.2)], [(42, oa 35 7 eClaim x2)]⟩ ?_
  refine sr ?_
  refine SRun.ck tbok 2 ⟨243, [(0, vl (eI .u8) aCode), (3, .own 42), (4, vb x3.1), (5, vi x3.2), (6, vb x4.1), (7, vi x4.2), (8, vl eClaim x5.1), (9, vl (eI .i64) x5.2), (59, vl eClaim x5.1), (60, vl (eI .i64) x5.2)], [(42, oa 35 7 eClaim x2)]⟩ ?_
  obtain ⟨x6, hx6, h⟩ := bind_some h
  refine SRun.ls (xc ents9 (impl_AreChosenConsistent_run x5.1 x5.2 _ hx6)) ?_
  refine ckn tbok 5 ⟨243, [(0, vl (eI .u8) aCode), (3, .own 42), (4, vb x3.1), (5, vi x3.2), (6, vb x4.1), (7, vi x4.2), (8, vl eClaim x5.1), (9, vl (eI .i64) x5.2), (10, vb x6.1), (11, vi x6.2)], [(42, oa 35 7 eClaim x2)]⟩ ?_
  refine sr ?_
  refine SRun.ck tbok 2 ⟨243, [(0, vl (eI .u8) aCode), (3, .own 42), (4, vb x3.1), (5, vi x3.2), (6, vb x4.1), (7, vi x4.2), (8, vl eClaim x5.1), (10, vb x6.1), (11, vi x6.2), (65, vl eClaim x5.1), (66, vl (eI .i64) x5.2)], [(42, oa 35 7 eClaim x2)]⟩ ?_
  obtain ⟨x7, hx7, h⟩ := bind_some h
  refine SRun.ls (xc ents10 (spec_AreChosenConsistent_run x5.1 x5.2 _ hx7)) ?_
  refine ckn tbok 5 ⟨243, [(0, vl (eI .u8) aCode), (3, .own 42), (4, vb x3.1), (5, vi x3.2), (6, vb x4.1), (7, vi x4.2), (8, vl eClaim x5.1), (10, vb x6.1), (11, vi x6.2), (12, vb x7.1), (13, vi x7.2)], [(42, oa 35 7 eClaim x2)]⟩ ?_
  refine sr ?_
  refine SRun.ck tbok 1 ⟨243, [(0, vl (eI .u8) aCode), (3, .own 42), (4, vb x3.1), (5, vi x3.2), (6, vb x4.1), (7, vi x4.2), (8, vl eClaim x5.1), (10, vb x6.1), (11, vi x6.2), (12, vb x7.1), (13, vi x7.2), (71, vl (eI .u8) aCode)], [(42, oa 35 7 eClaim x2)]⟩ ?_
  obtain ⟨x8, hx8, h⟩ := bind_some h
  refine SRun.ls (xc ents11 (spec_DrawFitsTo_run aCode _ hx8)) ?_
  refine ckn tbok 6 ⟨243, [(0, vl (eI .u8) aCode), (3, .own 42), (4, vb x3.1), (5, vi x3.2), (6, vb x4.1), (7, vi x4.2), (8, vl eClaim x5.1), (10, vb x6.1), (11, vi x6.2), (12, vb x7.1), (13, vi x7.2), (14, .own 72), (15, .ref 15 0)], [(15, .box (tc eClaim x8.2)), (42, oa 35 7 eClaim x2), (72, oa 35 7 eClaim x8.1)]⟩ ?_
  refine sr ?_
  refine SRun.ck tbok 2 ⟨243, [(0, vl (eI .u8) aCode), (3, .own 42), (4, vb x3.1), (5, vi x3.2), (6, vb x4.1), (7, vi x4.2), (8, vl eClaim x5.1), (10, vb x6.1), (11, vi x6.2), (12, vb x7.1), (13, vi x7.2), (14, .own 72), (15, .ref 15 0), (76, .own 72), (77, .agg (tc eClaim x8.2))], [(15, .box (tc eClaim x8.2)), (42, oa 35 7 eClaim x2), (72, oa 35 7 eClaim x8.1)]⟩ ?_
  obtain ⟨x9, hx9, h⟩ := bind_some h
  refine SRun.ls (xc ents12 (impl_FitsTo_run x8.1 x8.2 _ hx9)) ?_
  refine ckn tbok 5 ⟨243, [(0, vl (eI .u8) aCode), (3, .own 42), (4, vb x3.1), (5, vi x3.2), (6, vb x4.1), (7, vi x4.2), (8, vl eClaim x5.1), (10, vb x6.1), (11, vi x6.2), (12, vb x7.1), (13, vi x7.2), (14, .own 72), (15, .ref 15 0), (16, vb x9.1), (17, vi x9.2)], [(15, .box (tc eClaim x8.2)), (42, oa 35 7 eClaim x2), (72, oa 35 7 eClaim x8.1)]⟩ ?_
  refine sr ?_
  refine SRun.ck tbok 2 ⟨243, [(0, vl (eI .u8) aCode), (3, .own 42), (4, vb x3.1), (5, vi x3.2), (6, vb x4.1), (7, vi x4.2), (8, vl eClaim x5.1), (10, vb x6.1), (11, vi x6.2), (12, vb x7.1), (13, vi x7.2), (16, vb x9.1), (17, vi x9.2), (82, .own 72), (83, .agg (tc eClaim x8.2))], [(42, oa 35 7 eClaim x2), (72, oa 35 7 eClaim x8.1)]⟩ ?_
  obtain ⟨x10, hx10, h⟩ := bind_some h
  refine SRun.ls (xc ents13 (spec_FitsTo_run x8.1 x8.2 _ hx10)) ?_
  refine ckn tbok 5 ⟨243, [(0, vl (eI .u8) aCode), (3, .own 42), (4, vb x3.1), (5, vi x3.2), (6, vb x4.1), (7, vi x4.2), (8, vl eClaim x5.1), (10, vb x6.1), (11, vi x6.2), (12, vb x7.1), (13, vi x7.2), (16, vb x9.1), (17, vi x9.2), (18, vb x10.1), (19, vi x10.2)], [(42, oa 35 7 eClaim x2)]⟩ ?_
  refine sr ?_
  refine SRun.ck tbok 1 ⟨243, [(3, .own 42), (4, vb x3.1), (5, vi x3.2), (6, vb x4.1), (7, vi x4.2), (8, vl eClaim x5.1), (10, vb x6.1), (11, vi x6.2), (12, vb x7.1), (13, vi x7.2), (16, vb x9.1), (17, vi x9.2), (18, vb x10.1), (19, vi x10.2), (88, vl (eI .u8) aCode)], [(42, oa 35 7 eClaim x2)]⟩ ?_
  obtain ⟨x11, hx11, h⟩ := bind_some h
  refine SRun.ls (xc ents14 (spec_DrawNameBy_run aCode _ hx11)) ?_
  refine ckn tbok 7 ⟨243, [(3, .own 42), (4, vb x3.1), (5, vi x3.2), (6, vb x4.1), (7, vi x4.2), (8, vl eClaim x5.1), (10, vb x6.1), (11, vi x6.2), (12, vb x7.1), (13, vi x7.2), (16, vb x9.1), (17, vi x9.2), (18, vb x10.1), (19, vi x10.2), (20, .own 89), (21, vs x11.2.1), (22, vi x11.2.2)], [(42, oa 35 7 eClaim x2), (89, oa 35 7 eClaim x11.1)]⟩ ?_
  refine sr ?_
  refine SRun.ck tbok 3 ⟨243, [(3, .own 42), (4, vb x3.1), (5, vi x3.2), (6, vb x4.1), (7, vi x4.2), (8, vl eClaim x5.1), (10, vb x6.1), (11, vi x6.2), (12, vb x7.1), (13, vi x7.2), (16, vb x9.1), (17, vi x9.2), (18, vb x10.1), (19, vi x10.2), (20, .own 89), (21, vs x11.2.1), (22, vi x11.2.2), (94, .own 89), (95, vs x11.2.1), (96, vi x11.2.2)], [(42, oa 35 7 eClaim x2), (89, oa 35 7 eClaim x11.1)]⟩ ?_
  obtain ⟨x12, hx12, h⟩ := bind_some h
  refine SRun.ls (xc ents15 (impl_NameBy_run x11.1 x11.2.1 x11.2.2 _ hx12)) ?_
  refine ckn tbok 5 ⟨243, [(3, .own 42), (4, vb x3.1), (5, vi x3.2), (6, vb x4.1), (7, vi x4.2), (8, vl eClaim x5.1), (10, vb x6.1), (11, vi x6.2), (12, vb x7.1), (13, vi x7.2), (16, vb x9.1), (17, vi x9.2), (18, vb x10.1), (19, vi x10.2), (20, .own 89), (21, vs x11.2.1), (22, vi x11.2.2), (23, vs x12.1), (24, vi x12.2)], [(42, oa 35 7 eClaim x2), (89, oa 35 7 eClaim x11.1)]⟩ ?_
  refine sr ?_
  refine SRun.ck tbok 3 ⟨243, [(3, .own 42), (4, vb x3.1), (5, vi x3.2), (6, vb x4.1), (7, vi x4.2), (8, vl eClaim x5.1), (10, vb x6.1), (11, vi x6.2), (12, vb x7.1), (13, vi x7.2), (16, vb x9.1), (17, vi x9.2), (18, vb x10.1), (19, vi x10.2), (20, .own 89), (21, vs x11.2.1), (22, vi x11.2.2), (23, vs x12.1), (24, vi x12.2), (101, .own 89), (102, vs x11.2.1), (103, vi x11.2.2)], [(42, oa 35 7 eClaim x2), (89, oa 35 7 eClaim x11.1)]⟩ ?_
  obtain ⟨x13, hx13, h⟩ := bind_some h
  refine SRun.ls (xc ents16 (spec_NameBy_run x11.1 x11.2.1 x11.2.2 _ hx13)) ?_
  refine ckn tbok 5 ⟨243, [(3, .own 42), (4, vb x3.1), (5, vi x3.2), (6, vb x4.1), (7, vi x4.2), (8, vl eClaim x5.1), (10, vb x6.1), (11, vi x6.2), (12, vb x7.1), (13, vi x7.2), (16, vb x9.1), (17, vi x9.2), (18, vb x10.1), (19, vi x10.2), (20, .own 89), (21, vs x11.2.1), (22, vi x11.2.2), (23, vs x12.1), (24, vi x12.2), (25, vs x13.1), (26, vi x13.2)], [(42, oa 35 7 eClaim x2), (89, oa 35 7 eClaim x11.1)]⟩ ?_
  refine sr ?_
  refine SRun.ck tbok 3 ⟨243, [(3, .own 42), (4, vb x3.1), (5, vi x3.2), (6, vb x4.1), (7, vi x4.2), (8, vl eClaim x5.1), (10, vb x6.1), (11, vi x6.2), (12, vb x7.1), (13, vi x7.2), (16, vb x9.1), (17, vi x9.2), (18, vb x10.1), (19, vi x10.2), (20, .own 89), (21, vs x11.2.1), (22, vi x11.2.2), (23, vs x12.1), (24, vi x12.2), (25, vs x13.1), (26, vi x13.2), (108, .own 89), (109, vs x11.2.1), (110, vi x11.2.2)], [(42, oa 35 7 eClaim x2), (89, oa 35 7 eClaim x11.1)]⟩ ?_
  obtain ⟨x14, hx14, h⟩ := bind_some h
  refine SRun.ls (xc ents17 (impl_ParentBy_run x11.1 x11.2.1 x11.2.2 _ hx14)) ?_
  refine ckn tbok 5 ⟨243, [(3, .own 42), (4, vb x3.1), (5, vi x3.2), (6, vb x4.1), (7, vi x4.2), (8, vl eClaim x5.1), (10, vb x6.1), (11, vi x6.2), (12, vb x7.1), (13, vi x7.2), (16, vb x9.1), (17, vi x9.2), (18, vb x10.1), (19, vi x10.2), (20, .own 89), (21, vs x11.2.1), (22, vi x11.2.2), (23, vs x12.1), (24, vi x12.2), (25, vs x13.1), (26, vi x13.2), (27, vs x14.1), (28, vi x14.2)], [(42, oa 35 7 eClaim x2), (89, oa 35 7 eClaim x11.1)]⟩ ?_
  refine sr ?_
  refine SRun.ck tbok 3 ⟨243, [(3, .own 42), (4, vb x3.1), (5, vi x3.2), (6, vb x4.1), (7, vi x4.2), (8, vl eClaim x5.1), (10, vb x6.1), (11, vi x6.2), (12, vb x7.1), (13, vi x7.2), (16, vb x9.1), (17, vi x9.2), (18, vb x10.1), (19, vi x10.2), (20, .own 89), (21, vs x11.2.1), (22, vi x11.2.2), (23, vs x12.1), (24, vi x12.2), (25, vs x13.1), (26, vi x13.2), (27, vs x14.1), (28, vi x14.2), (115, .own 89), (116, vs x11.2.1), (117, vi x11.2.2)], [(42, oa 35 7 eClaim x2), (89, oa 35 7 eClaim x11.1)]⟩ ?_
  obtain ⟨x15, hx15, h⟩ := bind_some h
  refine SRun.ls (xc ents18 (spec_ParentBy_run x11.1 x11.2.1 x11.2.2 _ hx15)) ?_
  refine ckn tbok 5 ⟨243, [(3, .own 42), (4, vb x3.1), (5, vi x3.2), (6, vb x4.1), (7, vi x4.2), (8, vl eClaim x5.1), (10, vb x6.1), (11, vi x6.2), (12, vb x7.1), (13, vi x7.2), (16, vb x9.1), (17, vi x9.2), (18, vb x10.1), (19, vi x10.2), (20, .own 89), (21, vs x11.2.1), (22, vi x11.2.2), (23, vs x12.1), (24, vi x12.2), (25, vs x13.1), (26, vi x13.2), (27, vs x14.1), (28, vi x14.2), (29, vs x15.1), (30, vi x15.2)], [(42, oa 35 7 eClaim x2), (89, oa 35 7 eClaim x11.1)]⟩ ?_
  refine sr ?_
  refine SRun.ck tbok 3 ⟨243, [(3, .own 42), (4, vb x3.1), (5, vi x3.2), (6, vb x4.1), (7, vi x4.2), (8, vl eClaim x5.1), (10, vb x6.1), (11, vi x6.2), (12, vb x7.1), (13, vi x7.2), (16, vb x9.1), (17, vi x9.2), (18, vb x10.1), (19, vi x10.2), (20, .own 89), (21, vs x11.2.1), (22, vi x11.2.2), (23, vs x12.1), (24, vi x12.2), (25, vs x13.1), (26, vi x13.2), (27, vs x14.1), (28, vi x14.2), (29, vs x15.1), (30, vi x15.2), (122, .own 89), (123, vs x11.2.1), (124, vi x11.2.2)], [(42, oa 35 7 eClaim x2), (89, oa 35 7 eClaim x11.1)]⟩ ?_
  obtain ⟨x16, hx16, h⟩ := bind_some h
  refine SRun.ls (xc ents19 (impl_ExistsBy_run x11.1 x11.2.1 x11.2.2 _ hx16)) ?_
  refine ckn tbok 5 ⟨243, [(3, .own 42), (4, vb x3.1), (5, vi x3.2), (6, vb x4.1), (7, vi x4.2), (8, vl eClaim x5.1), (10, vb x6.1), (11, vi x6.2), (12, vb x7.1), (13, vi x7.2), (16, vb x9.1), (17, vi x9.2), (18, vb x10.1), (19, vi x10.2), (20, .own 89), (21, vs x11.2.1), (22, vi x11.2.2), (23, vs x12.1), (24, vi x12.2), (25, vs x13.1), (26, vi x13.2), (27, vs x14.1), (28, vi x14.2), (29, vs x15.1), (30, vi x15.2), (31, vi x16.1), (32, vi x16.2)], [(42, oa 35 7 eClaim x2), (89, oa 35 7 eClaim x11.1)]⟩ ?_
  refine sr ?_
  refine SRun.ck tbok 3 ⟨243, [(3, .own 42), (4, vb x3.1), (5, vi x3.2), (6, vb x4.1), (7, vi x4.2), (8, vl eClaim x5.1), (10, vb x6.1), (11, vi x6.2), (12, vb x7.1), (13, vi x7.2), (16, vb x9.1), (17, vi x9.2), (18, vb x10.1), (19, vi x10.2), (23, vs x12.1), (24, vi x12.2), (25, vs x13.1), (26, vi x13.2), (27, vs x14.1), (28, vi x14.2), (29, vs x15.1), (30, vi x15.2), (31, vi x16.1), (32, vi x16.2), (129, .own 89), (130, vs x11.2.1), (131, vi x11.2.2)], [(42, oa 35 7 eClaim x2), (89, oa 35 7 eClaim x11.1)]⟩ ?_
  obtain ⟨x17, hx17, h⟩ := bind_some h
  refine SRun.ls (xc ents20 (spec_ExistsBy_run x11.1 x11.2.1 x11.2.2 _ hx17)) ?_
  refine ckn tbok 5 ⟨243, [(3, .own 42), (4, vb x3.1), (5, vi x3.2), (6, vb x4.1), (7, vi x4.2), (8, vl eClaim x5.1), (10, vb x6.1), (11, vi x6.2), (12, vb x7.1), (13, vi x7.2), (16, vb x9.1), (17, vi x9.2), (18, vb x10.1), (19, vi x10.2), (23, vs x12.1), (24, vi x12.2), (25, vs x13.1), (26, vi x13.2), (27, vs x14.1), (28, vi x14.2), (29, vs x15.1), (30, vi x15.2), (31, vi x16.1), (32, vi x16.2), (33, vi x17.1), (34, vi x17.2)], [(42, oa 35 7 eClaim x2)]⟩ ?_
  refine swp_seq ?_
  refine swp_seq ?_
  refine swp_regP ⟨243, [(3, .own 42), (4, vb x3.1), (5, vi x3.2), (8, vl eClaim x5.1), (10, vb x6.1), (11, vi x6.2), (24, vi x12.2), (28, vi x14.2), (31, vi x16.1), (32, vi x16.2), (192, vb ((x3.2 != x4.2) || ((!(x3.1 == x4.1)) || ((x6.2 != x7.2) || ((!(x6.1 == x7.1)) || ((x9.2 != x10.2) || ((!(x9.1 == x10.1)) || ((x12.2 != x13.2) || ((!(x12.1.toList == x13.1.toList)) || ((x14.2 != x15.2) || ((!(x14.1.toList == x15.1.toList)) || ((x16.2 != x17.2) || (x16.1 != x17.1)))))))))))))], [(42, oa 35 7 eClaim x2)]⟩ ?_ ?_
  refine SRun.ck tbok 4 ⟨243, [(3, .own 42), (4, vb x3.1), (5, vi x3.2), (6, vb x4.1), (8, vl eClaim x5.1), (10, vb x6.1), (11, vi x6.2), (12, vb x7.1), (13, vi x7.2), (16, vb x9.1), (17, vi x9.2), (18, vb x10.1), (19, vi x10.2), (23, vs x12.1), (24, vi x12.2), (25, vs x13.1), (26, vi x13.2), (27, vs x14.1), (28, vi x14.2), (29, vs x15.1), (30, vi x15.2), (31, vi x16.1), (32, vi x16.2), (33, vi x17.1), (34, vi x17.2), (138, vb (x3.2 != x4.2))], [(42, oa 35 7 eClaim x2)]⟩ ?_
  generalize (x3.2 != x4.2) = bb
  cases bb
  refine SRun.ck tbok 2 ⟨243, [(3, .own 42), (4, vb x3.1), (5, vi x3.2), (8, vl eClaim x5.1), (10, vb x6.1), (11, vi x6.2), (12, vb x7.1), (13, vi x7.2), (16, vb x9.1), (17, vi x9.2), (18, vb x10.1), (19, vi x10.2), (23, vs x12.1), (24, vi x12.2), (25, vs x13.1), (26, vi x13.2), (27, vs x14.1), (28, vi x14.2), (29, vs x15.1), (30, vi x15.2), (31, vi x16.1), (32, vi x16.2), (33, vi x17.1), (34, vi x17.2), (138, vb false), (139, vb x3.1), (140, vb x4.1)], [(42, oa 35 7 eClaim x2)]⟩ ?_
  refine SRun.ls (x_lstep_eqb tbok (ti := ti4) (i := x3.1) (j := x4.1) true rfl) ?_
  refine SRun.ck tbok 2 ⟨243, [(3, .own 42), (4, vb x3.1), (5, vi x3.2), (8, vl eClaim x5.1), (10, vb x6.1), (11, vi x6.2), (12, vb x7.1), (13, vi x7.2), (16, vb x9.1), (17, vi x9.2), (18, vb x10.1), (19, vi x10.2), (23, vs x12.1), (24, vi x12.2), (25, vs x13.1), (26, vi x13.2), (27, vs x14.1), (28, vi x14.2), (29, vs x15.1), (30, vi x15.2), (31, vi x16.1), (32, vi x16.2), (33, vi x17.1), (34, vi x17.2), (143, vb (!(x3.1 == x4.1)))], [(42, oa 35 7 eClaim x2)]⟩ ?_
  generalize (!(x3.1 == x4.1)) = bb
  cases bb
  refine SRun.ck tbok 5 ⟨243, [(3, .own 42), (4, vb x3.1), (5, vi x3.2), (8, vl eClaim x5.1), (10, vb x6.1), (11, vi x6.2), (12, vb x7.1), (16, vb x9.1), (17, vi x9.2), (18, vb x10.1), (19, vi x10.2), (23, vs x12.1), (24, vi x12.2), (25, vs x13.1), (26, vi x13.2), (27, vs x14.1), (28, vi x14.2), (29, vs x15.1), (30, vi x15.2), (31, vi x16.1), (32, vi x16.2), (33, vi x17.1), (34, vi x17.2), (148, vb (x6.2 != x7.2))], [(42, oa 35 7 eClaim x2)]⟩ ?_
  generalize (x6.2 != x7.2) = bb
  cases bb
  refine SRun.ck tbok 2 ⟨243, [(3, .own 42), (4, vb x3.1), (5, vi x3.2), (8, vl eClaim x5.1), (10, vb x6.1), (11, vi x6.2), (16, vb x9.1), (17, vi x9.2), (18, vb x10.1), (19, vi x10.2), (23, vs x12.1), (24, vi x12.2), (25, vs x13.1), (26, vi x13.2), (27, vs x14.1), (28, vi x14.2), (29, vs x15.1), (30, vi x15.2), (31, vi x16.1), (32, vi x16.2), (33, vi x17.1), (34, vi x17.2), (148, vb false), (149, vb x6.1), (150, vb x7.1)], [(42, oa 35 7 eClaim x2)]⟩ ?_
  refine SRun.ls (x_lstep_eqb tbok (ti := ti4) (i := x6.1) (j := x7.1) true rfl) ?_
  refine SRun.ck tbok 2 ⟨243, [(3, .own 42), (4, vb x3.1), (5, vi x3.2), (8, vl eClaim x5.1), (10, vb x6.1), (11, vi x6.2), (16, vb x9.1), (17, vi x9.2), (18, vb x10.1), (19, vi x10.2), (23, vs x12.1), (24, vi x12.2), (25, vs x13.1), (26, vi x13.2), (27, vs x14.1), (28, vi x14.2), (29, vs x15.1), (30, vi x15.2), (31, vi x16.1), (32, vi x16.2), (33, vi x17.1), (34, vi x17.2), (153, vb (!(x6.1 == x7.1)))], [(42, oa 35 7 eClaim x2)]⟩ ?_
  generalize (!(x6.1 == x7.1)) = bb
  cases bb
  refine SRun.ck tbok 5 ⟨243, [(3, .own 42), (4, vb x3.1), (5, vi x3.2), (8, vl eClaim x5.1), (10, vb x6.1), (11, vi x6.2), (16, vb x9.1), (18, vb x10.1), (23, vs x12.1), (24, vi x12.2), (25, vs x13.1), (26, vi x13.2), (27, vs x14.1), (28, vi x14.2), (29, vs x15.1), (30, vi x15.2), (31, vi x16.1), (32, vi x16.2), (33, vi x17.1), (34, vi x17.2), (158, vb (x9.2 != x10.2))], [(42, oa 35 7 eClaim x2)]⟩ ?_
  generalize (x9.2 != x10.2) = bb
  cases bb
  refine SRun.ck tbok 2 ⟨243, [(3, .own 42), (4, vb x3.1), (5, vi x3.2), (8, vl eClaim x5.1), (10, vb x6.1), (11, vi x6.2), (23, vs x12.1), (24, vi x12.2), (25, vs x13.1), (26, vi x13.2), (27, vs x14.1), (28, vi x14.2), (29, vs x15.1), (30, vi x15.2), (31, vi x16.1), (32, vi x16.2), (33, vi x17.1), (34, vi x17.2), (158, vb false), (159, vb x9.1), (160, vb x10.1)], [(42, oa 35 7 eClaim x2)]⟩ ?_
  refine SRun.ls (x_lstep_eqb tbok (ti := ti4) (i := x9.1) (j := x10.1) true rfl) ?_
  refine SRun.ck tbok 2 ⟨243, [(3, .own 42), (4, vb x3.1), (5, vi x3.2), (8, vl eClaim x5.1), (10, vb x6.1), (11, vi x6.2), (23, vs x12.1), (24, vi x12.2), (25, vs x13.1), (26, vi x13.2), (27, vs x14.1), (28, vi x14.2), (29, vs x15.1), (30, vi x15.2), (31, vi x16.1), (32, vi x16.2), (33, vi x17.1), (34, vi x17.2), (163, vb (!(x9.1 == x10.1)))], [(42, oa 35 7 eClaim x2)]⟩ ?_
  generalize (!(x9.1 == x10.1)) = bb
  cases bb
  refine SRun.ck tbok 5 ⟨243, [(3, .own 42), (4, vb x3.1), (5, vi x3.2), (8, vl eClaim x5.1), (10, vb x6.1), (11, vi x6.2), (23, vs x12.1), (24, vi x12.2), (25, vs x13.1), (27, vs x14.1), (28, vi x14.2), (29, vs x15.1), (30, vi x15.2), (31, vi x16.1), (32, vi x16.2), (33, vi x17.1), (34, vi x17.2), (168, vb (x12.2 != x13.2))], [(42, oa 35 7 eClaim x2)]⟩ ?_
  generalize (x12.2 != x13.2) = bb
  cases bb
  refine SRun.ck tbok 5 ⟨243, [(3, .own 42), (4, vb x3.1), (5, vi x3.2), (8, vl eClaim x5.1), (10, vb x6.1), (11, vi x6.2), (24, vi x12.2), (27, vs x14.1), (28, vi x14.2), (29, vs x15.1), (30, vi x15.2), (31, vi x16.1), (32, vi x16.2), (33, vi x17.1), (34, vi x17.2), (173, vb (!(x12.1.toList == x13.1.toList)))], [(42, oa 35 7 eClaim x2)]⟩ ?_
  generalize (!(x12.1.toList == x13.1.toList)) = bb
  cases bb
  refine SRun.ck tbok 5 ⟨243, [(3, .own 42), (4, vb x3.1), (5, vi x3.2), (8, vl eClaim x5.1), (10, vb x6.1), (11, vi x6.2), (24, vi x12.2), (27, vs x14.1), (28, vi x14.2), (29, vs x15.1), (31, vi x16.1), (32, vi x16.2), (33, vi x17.1), (34, vi x17.2), (178, vb (x14.2 != x15.2))], [(42, oa 35 7 eClaim x2)]⟩ ?_
  generalize (x14.2 != x15.2) = bb
  cases bb
  refine SRun.ck tbok 5 ⟨243, [(3, .own 42), (4, vb x3.1), (5, vi x3.2), (8, vl eClaim x5.1), (10, vb x6.1), (11, vi x6.2), (24, vi x12.2), (28, vi x14.2), (31, vi x16.1), (32, vi x16.2), (33, vi x17.1), (34, vi x17.2), (183, vb (!(x14.1.toList == x15.1.toList)))], [(42, oa 35 7 eClaim x2)]⟩ ?_
  generalize (!(x14.1.toList == x15.1.toList)) = bb
  cases bb
  refine SRun.ck tbok 5 ⟨243, [(3, .own 42), (4, vb x3.1), (5, vi x3.2), (8, vl eClaim x5.1), (10, vb x6.1), (11, vi x6.2), (24, vi x12.2), (28, vi x14.2), (31, vi x16.1), (32, vi x16.2), (33, vi x17.1), (188, vb (x16.2 != x17.2))], [(42, oa 35 7 eClaim x2)]⟩ ?_
  generalize (x16.2 != x17.2) = bb
  cases bb
  refine SRun.ck tbok 4 ⟨243, [(3, .own 42), (4, vb x3.1), (5, vi x3.2), (8, vl eClaim x5.1), (10, vb x6.1), (11, vi x6.2), (24, vi x12.2), (28, vi x14.2), (31, vi x16.1), (32, vi x16.2), (192, vb (x16.1 != x17.1))], [(42, oa 35 7 eClaim x2)]⟩ ?_
  exact SRun.nil (Le.sub0)
  refine SRun.ck tbok 4 ⟨243, [(3, .own 42), (4, vb x3.1), (5, vi x3.2), (8, vl eClaim x5.1), (10, vb x6.1), (11, vi x6.2), (24, vi x12.2), (28, vi x14.2), (31, vi x16.1), (32, vi x16.2), (192, vb true)], [(42, oa 35 7 eClaim x2)]⟩ ?_
  exact SRun.nil (Le.sub0)
  refine SRun.ck tbok 9 ⟨243, [(3, .own 42), (4, vb x3.1), (5, vi x3.2), (8, vl eClaim x5.1), (10, vb x6.1), (11, vi x6.2), (24, vi x12.2), (28, vi x14.2), (31, vi x16.1), (32, vi x16.2), (192, vb true)], [(42, oa 35 7 eClaim x2)]⟩ ?_
  exact SRun.nil (Le.sub0)
  refine SRun.ck tbok 14 ⟨243, [(3, .own 42), (4, vb x3.1), (5, vi x3.2), (8, vl eClaim x5.1), (10, vb x6.1), (11, vi x6.2), (24, vi x12.2), (28, vi x14.2), (31, vi x16.1), (32, vi x16.2), (192, vb true)], [(42, oa 35 7 eClaim x2)]⟩ ?_
  exact SRun.nil (Le.sub0)
  refine SRun.ck tbok 19 ⟨243, [(3, .own 42), (4, vb x3.1), (5, vi x3.2), (8, vl eClaim x5.1), (10, vb x6.1), (11, vi x6.2), (24, vi x12.2), (28, vi x14.2), (31, vi x16.1), (32, vi x16.2), (192, vb true)], [(42, oa 35 7 eClaim x2)]⟩ ?_
  exact SRun.nil (Le.sub0)
  refine SRun.ck tbok 24 ⟨243, [(3, .own 42), (4, vb x3.1), (5, vi x3.2), (8, vl eClaim x5.1), (10, vb x6.1), (11, vi x6.2), (24, vi x12.2), (28, vi x14.2), (31, vi x16.1), (32, vi x16.2), (192, vb true)], [(42, oa 35 7 eClaim x2)]⟩ ?_
  exact SRun.nil (Le.sub0)
  refine SRun.ck tbok 29 ⟨243, [(3, .own 42), (4, vb x3.1), (5, vi x3.2), (8, vl eClaim x5.1), (10, vb x6.1), (11, vi x6.2), (24, vi x12.2), (28, vi x14.2), (31, vi x16.1), (32, vi x16.2), (192, vb true)], [(42, oa 35 7 eClaim x2)]⟩ ?_
  exact SRun.nil (Le.sub0)
  refine SRun.ck tbok 34 ⟨243, [(3, .own 42), (4, vb x3.1), (5, vi x3.2), (8, vl eClaim x5.1), (10, vb x6.1), (11, vi x6.2), (24, vi x12.2), (28, vi x14.2), (31, vi x16.1), (32, vi x16.2), (192, vb true)], [(42, oa 35 7 eClaim x2)]⟩ ?_
  exact SRun.nil (Le.sub0)
  refine SRun.ck tbok 39 ⟨243, [(3, .own 42), (4, vb x3.1), (5, vi x3.2), (8, vl eClaim x5.1), (10, vb x6.1), (11, vi x6.2), (24, vi x12.2), (28, vi x14.2), (31, vi x16.1), (32, vi x16.2), (192, vb true)], [(42, oa 35 7 eClaim x2)]⟩ ?_
  exact SRun.nil (Le.sub0)
  refine SRun.ck tbok 44 ⟨243, [(3, .own 42), (4, vb x3.1), (5, vi x3.2), (8, vl eClaim x5.1), (10, vb x6.1), (11, vi x6.2), (24, vi x12.2), (28, vi x14.2), (31, vi x16.1), (32, vi x16.2), (192, vb true)], [(42, oa 35 7 eClaim x2)]⟩ ?_
  exact SRun.nil (Le.sub0)
  refine SRun.ck tbok 49 ⟨243, [(3, .own 42), (4, vb x3.1), (5, vi x3.2), (8, vl eClaim x5.1), (10, vb x6.1), (11, vi x6.2), (24, vi x12.2), (28, vi x14.2), (31, vi x16.1), (32, vi x16.2), (192, vb true)], [(42, oa 35 7 eClaim x2)]⟩ ?_
  exact SRun.nil (Le.sub0)
  refine SRun.ck tbok 54 ⟨243, [(3, .own 42), (4, vb x3.1), (5, vi x3.2), (8, vl eClaim x5.1), (10, vb x6.1), (11, vi x6.2), (24, vi x12.2), (28, vi x14.2), (31, vi x16.1), (32, vi x16.2), (192, vb true)], [(42, oa 35 7 eClaim x2)]⟩ ?_
  exact SRun.nil (Le.sub0)
  refine swp_cd h (fun h => ?_) fun h => ?_
  refine srk tbok ⟨243, [(2, vb false)], []⟩ ?_
  refine swp_ret ?_
  obtain rfl := inj h
  exact nx_r (q_fr (f1 fv))
  refine swp_skip ?_
  refine nx_n ?_
  refine swp_seq ?_
  refine swp_seq ?_
  refine swp_regP ⟨243, [(3, .own 42), (4, vb x3.1), (5, vi x3.2), (8, vl eClaim x5.1), (10, vb x6.1), (11, vi x6.2), (206, vb ((x16.2 == 0) && (cond (x12.2 == 0) (x16.1 != 1) ((x14.2 == 0) && (x16.1 != 1)))))], [(42, oa 35 7 eClaim x2)]⟩ ?_ ?_
  refine SRun.ck tbok 3 ⟨243, [(3, .own 42), (4, vb x3.1), (5, vi x3.2), (8, vl eClaim x5.1), (10, vb x6.1), (11, vi x6.2), (24, vi x12.2), (28, vi x14.2), (31, vi x16.1), (195, vb (x16.2 == 0))], [(42, oa 35 7 eClaim x2)]⟩ ?_
  generalize (x16.2 == 0) = bb
  cases bb
  refine SRun.ck tbok 11 ⟨243, [(3, .own 42), (4, vb x3.1), (5, vi x3.2), (8, vl eClaim x5.1), (10, vb x6.1), (11, vi x6.2), (206, vb false)], [(42, oa 35 7 eClaim x2)]⟩ ?_
  exact SRun.nil (Le.sub0)
  refine SRun.ck tbok 3 ⟨243, [(3, .own 42), (4, vb x3.1), (5, vi x3.2), (8, vl eClaim x5.1), (10, vb x6.1), (11, vi x6.2), (28, vi x14.2), (31, vi x16.1), (195, vb true), (198, vb (x12.2 == 0))], [(42, oa 35 7 eClaim x2)]⟩ ?_
  generalize (x12.2 == 0) = bb
  cases bb
  refine SRun.ck tbok 5 ⟨243, [(3, .own 42), (4, vb x3.1), (5, vi x3.2), (8, vl eClaim x5.1), (10, vb x6.1), (11, vi x6.2), (31, vi x16.1), (203, vb (x14.2 == 0))], [(42, oa 35 7 eClaim x2)]⟩ ?_
  generalize (x14.2 == 0) = bb
  cases bb
  refine SRun.ck tbok 3 ⟨243, [(3, .own 42), (4, vb x3.1), (5, vi x3.2), (8, vl eClaim x5.1), (10, vb x6.1), (11, vi x6.2), (206, vb false)], [(42, oa 35 7 eClaim x2)]⟩ ?_
  exact SRun.nil (Le.sub0)
  refine SRun.ck tbok 3 ⟨243, [(3, .own 42), (4, vb x3.1), (5, vi x3.2), (8, vl eClaim x5.1), (10, vb x6.1), (11, vi x6.2), (206, vb (x16.1 != 1))], [(42, oa 35 7 eClaim x2)]⟩ ?_
  exact SRun.nil (Le.sub0)
  refine SRun.ck tbok 8 ⟨243, [(3, .own 42), (4, vb x3.1), (5, vi x3.2), (8, vl eClaim x5.1), (10, vb x6.1), (11, vi x6.2), (206, vb (x16.1 != 1))], [(42, oa 35 7 eClaim x2)]⟩ ?_
  exact SRun.nil (Le.sub0)
  refine swp_cd h (fun h => ?_) fun h => ?_
  refine srk tbok ⟨243, [(2, vb false)], []⟩ ?_
  refine swp_ret ?_
  obtain rfl := inj h
  exact nx_r (q_fr (f1 fv))
  refine swp_skip ?_
  refine nx_n ?_
  refine sr ?_
  refine SRun.ck tbok 1 ⟨243, [(3, .own 42), (4, vb x3.1), (5, vi x3.2), (10, vb x6.1), (11, vi x6.2), (208, vl eClaim x5.1)], [(42, oa 35 7 eClaim x2)]⟩ ?_
  obtain ⟨x18, hx18, h⟩ := bind_some h
  refine SRun.ls (xc ents6 (impl_AreConsistent_run x5.1 _ hx18)) ?_
  refine ckn tbok 5 ⟨243, [(3, .own 42), (4, vb x3.1), (5, vi x3.2), (10, vb x6.1), (11, vi x6.2), (35, vb x18.1), (36, vi x18.2)], [(42, oa 35 7 eClaim x2)]⟩ ?_
  refine swp_seq ?_
  refine swp_seq ?_
  refine swp_regP ⟨243, [(3, .own 42), (4, vb x3.1), (5, vi x3.2), (224, vb ((x6.2 == 0) && ((x18.2 == 0) && (x18.1 && (!x6.1)))))], [(42, oa 35 7 eClaim x2)]⟩ ?_ ?_
  refine SRun.ck tbok 3 ⟨243, [(3, .own 42), (4, vb x3.1), (5, vi x3.2), (10, vb x6.1), (35, vb x18.1), (36, vi x18.2), (214, vb (x6.2 == 0))], [(42, oa 35 7 eClaim x2)]⟩ ?_
  generalize (x6.2 == 0) = bb
  cases bb
  refine SRun.ck tbok 10 ⟨243, [(3, .own 42), (4, vb x3.1), (5, vi x3.2), (224, vb false)], [(42, oa 35 7 eClaim x2)]⟩ ?_
  exact SRun.nil (Le.sub0)
  refine SRun.ck tbok 4 ⟨243, [(3, .own 42), (4, vb x3.1), (5, vi x3.2), (10, vb x6.1), (35, vb x18.1), (218, vb (x18.2 == 0))], [(42, oa 35 7 eClaim x2)]⟩ ?_
  generalize (x18.2 == 0) = bb
  cases bb
  refine SRun.ck tbok 6 ⟨243, [(3, .own 42), (4, vb x3.1), (5, vi x3.2), (224, vb false)], [(42, oa 35 7 eClaim x2)]⟩ ?_
  exact SRun.nil (Le.sub0)
  refine SRun.ck tbok 3 ⟨243, [(3, .own 42), (4, vb x3.1), (5, vi x3.2), (10, vb x6.1), (221, vb x18.1)], [(42, oa 35 7 eClaim x2)]⟩ ?_
  generalize x18.1 = bb
  cases bb
  refine SRun.ck tbok 3 ⟨243, [(3, .own 42), (4, vb x3.1), (5, vi x3.2), (224, vb false)], [(42, oa 35 7 eClaim x2)]⟩ ?_
  exact SRun.nil (Le.sub0)
  refine SRun.ck tbok 3 ⟨243, [(3, .own 42), (4, vb x3.1), (5, vi x3.2), (224, vb (!x6.1))], [(42, oa 35 7 eClaim x2)]⟩ ?_
  exact SRun.nil (Le.sub0)
  refine swp_cd h (fun h => ?_) fun h => ?_
  refine srk tbok ⟨243, [(2, vb false)], []⟩ ?_
  refine swp_ret ?_
  obtain rfl := inj h
  exact nx_r (q_fr (f1 fv))
  refine swp_skip ?_
  refine nx_n ?_
  refine swp_seq ?_
  refine srk tbok ⟨243, [(3, .own 42), (4, vb x3.1), (226, vb (x3.2 != 0))], [(42, oa 35 7 eClaim x2)]⟩ ?_
  refine swp_cd h (fun h => ?_) fun h => ?_
  refine srk tbok ⟨243, [(2, vb true)], []⟩ ?_
  refine swp_ret ?_
  obtain rfl := inj h
  exact nx_r (q_fr (f1 fv))
  refine swp_skip ?_
  refine nx_n ?_
  refine sr ?_
  refine SRun.ck tbok 1 ⟨243, [(4, vb x3.1), (228, .own 42)], [(42, oa 35 7 eClaim x2)]⟩ ?_
  obtain ⟨x19, hx19, h⟩ := bind_some h
  refine SRun.ls (xc ents21 (impl_PairsOf_run x2 _ hx19)) ?_
  refine ckn tbok 5 ⟨243, [(4, vb x3.1), (37, .own 229), (38, vi x19.2)], [(229, .deep 28 1 x19.1.length [(.sl 2 1 [.flat])] (x19.1.map (eL (eI .i64))))]⟩ ?_
  refine swp_seq ?_
  refine swp_regP ⟨243, [(2, vb ((x19.2 == 0) && ((!x3.1) || ((x19.1.length : Int) == 0))))], []⟩ ?_ ?_
  refine SRun.ck tbok 3 ⟨243, [(4, vb x3.1), (37, .own 229), (234, vb (x19.2 == 0))], [(229, .deep 28 1 x19.1.length [(.sl 2 1 [.flat])] (x19.1.map (eL (eI .i64))))]⟩ ?_
  generalize (x19.2 == 0) = bb
  cases bb
  refine SRun.ck tbok 9 ⟨243, [(2, vb false)], []⟩ ?_
  exact SRun.nil (Le.sub0)
  refine SRun.ck tbok 3 ⟨243, [(37, .own 229), (234, vb true), (237, vb (!x3.1))], [(229, .deep 28 1 x19.1.length [(.sl 2 1 [.flat])] (x19.1.map (eL (eI .i64))))]⟩ ?_
  generalize (!x3.1) = bb
  cases bb
  refine SRun.ck tbok 1 ⟨243, [(234, vb true), (237, vb false), (238, .own 229)], [(229, .deep 28 1 x19.1.length [(.sl 2 1 [.flat])] (x19.1.map (eL (eI .i64))))]⟩ ?_
  refine SRun.ls (x_len_deep (d := 229) (e := 28) (e' := 28) (m := 1) (n := x19.1.length) (ss := [(.sl 2 1 [.flat])]) (es := x19.1.map (eL (eI .i64))) (ti := ti45) tbok rfl rfl rfl) ?_
  refine SRun.ck tbok 4 ⟨243, [(2, vb ((x19.1.length : Int) == 0))], []⟩ ?_
  exact SRun.nil (Le.sub0)
  refine SRun.ck tbok 6 ⟨243, [(2, vb true)], []⟩ ?_
  exact SRun.nil (Le.sub0)
  refine swp_ret ?_
  obtain rfl := inj h
  exact q_fr (f1 fv)
end Go.Proofs.YtfllgbokdhhedaaGreatDoor.Sh
