/- Typed functions and the calls that do what they say. -/
import Derived.Test.YtodgenjlhiiieaaGreatDoorGBp0
import Derived.Test.YtodgenjlhiiieaaGreatDoorKA
import Derived.Test.YtodgenjlhiiieaaGreatDoorKC
import Derived.Test.YtodgenjlhiiieaaGreatDoorKF
import Derived.Test.YtodgenjlhiiieaaGreatDoorKS
import Derived.Test.YtodgenjlhiiieaaGreatDoorSN
import Derived.Test.YtodgenjlhiiieaaGreatDoorH1
namespace Go.Proofs.YtodgenjlhiiieaaGreatDoor.Sh
open Go.RowKit
set_option maxRecDepth 100000
set_option maxHeartbeats 4000000
noncomputable def impl_siteCode (aList : (List Site)) (aDescriptions : (List Description)) (aOk : Bool) : Option (Int) :=
  ((((impl_AreSites aList).bind fun x1 => (bif (!x1) then some true else (bif (!aOk) then some true else ((slices_ContainsFunc_Description_impl_siteCode_1 aDescriptions).bind fun x2 => some x2))))).bind fun (j3 : Bool) => (bif j3 then some 1 else (((forN (aDescriptions.length : Int) (fun (i7 : Int) (_ : Unit) => ((at' aDescriptions i7).bind fun x11 => ((impl_Description_places x11).bind fun x12 => (forN (x12.length : Int) (fun (i13 : Int) (_ : Unit) => ((at' x12 i13).bind fun x17 => ((impl_findSite aList x17).bind fun x18 => (bif (!x18.2) then some (.inr (.inr (.inr 4))) else some (.inl ()))))) (fun (_ : Unit) => .inl ()) 0 ())))) (fun (_ : Unit) => .inl ()) 0 ())).bind (Sum.elim (fun (_ : Unit) => (bif (decide ((aDescriptions.length : Int) > 8)) then some 3 else some 0)) some))))
theorem impl_siteCode_run (aList : (List Site)) (aDescriptions : (List Description)) (aOk : Bool) (r : Int) (h : impl_siteCode aList aDescriptions aOk = some r) : SCall Tryz.prog 58 [.v (vl eSite aList), .v (vl eDescription aDescriptions), .v (vb aOk)] ⟨[.v (vi r)], [], false⟩ := by
  refine scall_in Tryz.func58 rfl [(.tmp 6)] rfl (fun r => ⟨[.v (vi r)], [], false⟩) (r := r) ?_
  unfold impl_siteCode at h
  refine srk tbok ⟨50, [(0, vl eSite aList), (1, vl eDescription aDescriptions), (2, vb aOk)], []⟩ ?_
  refine swp_seq ?_
  refine swp_seq ?_
  refine swp_regJ h (fun j3 => ⟨50, [(0, vl eSite aList), (1, vl eDescription aDescriptions), (23, vb j3)], []⟩) (fun v4 h => ?_) (fun j3 h => ?_)
  refine SRun.ck tbok 1 ⟨50, [(0, vl eSite aList), (1, vl eDescription aDescriptions), (2, vb aOk), (13, vl eSite aList)], []⟩ ?_
  obtain ⟨x1, hx1, h⟩ := bind_some h
  refine SRun.ls (xc ents100 (impl_AreSites_run aList _ hx1)) ?_
  refine SRun.ck tbok 2 ⟨50, [(0, vl eSite aList), (1, vl eDescription aDescriptions), (2, vb aOk), (16, vb (!x1))], []⟩ ?_
  refine SRun.cu [(16, fun b => b)] h (fun h => ?_) fun h => ?_
  refine SRun.ck tbok 7 ⟨50, [(0, vl eSite aList), (1, vl eDescription aDescriptions), (23, vb true)], []⟩ ?_
  refine SRun.nil ?_
  obtain rfl := inj h
  exact Le.sub0
  refine SRun.ck tbok 4 ⟨50, [(0, vl eSite aList), (1, vl eDescription aDescriptions), (20, vb (!aOk))], []⟩ ?_
  refine SRun.cu [(20, fun b => b)] h (fun h => ?_) fun h => ?_
  refine SRun.ck tbok 3 ⟨50, [(0, vl eSite aList), (1, vl eDescription aDescriptions), (23, vb true)], []⟩ ?_
  refine SRun.nil ?_
  obtain rfl := inj h
  exact Le.sub0
  refine SRun.ck tbok 1 ⟨50, [(0, vl eSite aList), (1, vl eDescription aDescriptions), (20, vb false), (21, vl eDescription aDescriptions)], []⟩ ?_
  obtain ⟨x2, hx2, h⟩ := bind_some h
  refine SRun.ls (xc ents101 (slices_ContainsFunc_Description_impl_siteCode_1_run aDescriptions _ hx2)) ?_
  refine SRun.ck tbok 1 ⟨50, [(0, vl eSite aList), (1, vl eDescription aDescriptions), (23, vb x2)], []⟩ ?_
  refine SRun.nil ?_
  obtain rfl := inj h
  exact Le.sub0
  refine swp_cd h (fun h => ?_) fun h => ?_
  refine srk tbok ⟨50, [(6, vi 1)], []⟩ ?_
  refine swp_ret ?_
  obtain rfl := inj h
  exact nx_r (q_fr (f1 fv))
  refine swp_skip ?_
  refine nx_n ?_
  refine swp_seq ?_
  refine srk tbok ⟨50, [(0, vl eSite aList), (1, vl eDescription aDescriptions), (24, vl eDescription aDescriptions), (25, vi (aDescriptions.length : Int)), (26, vi 0)], []⟩ ?_
  refine swp_seqE (r := r) h (fun j5 => ⟨50, [(1, vl eDescription aDescriptions)], []⟩) (fun v6 h => ?_) (fun j5 h => ?_)
  refine swp_blk (a := v6) ?_
  refine swp_lpL (r := v6) (s := (0, ())) _ (fun s7 => ⟨50, [(0, vl eSite aList), (1, vl eDescription aDescriptions), (24, vl eDescription aDescriptions), (25, vi (aDescriptions.length : Int)), (26, vi s7.1)], []⟩) _ (Le.sub0) h (fun s7 v8 h => ?_)
  refine srk tbok ⟨50, [(0, vl eSite aList), (1, vl eDescription aDescriptions), (24, vl eDescription aDescriptions), (25, vi (aDescriptions.length : Int)), (26, vi s7.1), (27, vb (decide (s7.1 < (aDescriptions.length : Int))))], []⟩ ?_
  refine swp_seq ?_
  refine swp_cd h (fun h => ?_) fun h => ?_
  refine swp_skip ?_
  refine nx_n ?_
  refine swp_seq ?_
  refine swp_seqL (r := v8) h (fun j9 => ⟨50, [(0, vl eSite aList), (1, vl eDescription aDescriptions), (24, vl eDescription aDescriptions), (25, vi (aDescriptions.length : Int)), (26, vi s7.1)], []⟩) (fun v10 h => ?_) (fun j9 h => ?_)
  refine swp_blk (a := v10) ?_
  refine sr ?_
  obtain ⟨x11, hx11, h⟩ := bind_some h
  refine SRun.ls (x_index (L := aDescriptions) (f := eDescription) (ti := ti35) (tj := ti84) (e := 84) (k := .i64) tbok rfl hx11) ?_
  refine ckn tbok 3 ⟨50, [(0, vl eSite aList), (1, vl eDescription aDescriptions), (8, .ref 8 0), (24, vl eDescription aDescriptions), (25, vi (aDescriptions.length : Int)), (26, vi s7.1)], [(8, .box (tc eDescription x11))]⟩ ?_
  refine sr ?_
  refine SRun.ck tbok 1 ⟨50, [(0, vl eSite aList), (1, vl eDescription aDescriptions), (24, vl eDescription aDescriptions), (25, vi (aDescriptions.length : Int)), (26, vi s7.1), (30, .agg (tc eDescription x11))], []⟩ ?_
  obtain ⟨x12, hx12, h⟩ := bind_some h
  refine SRun.ls (xc ents104 (impl_Description_places_run x11 _ hx12)) ?_
  refine ckn tbok 2 ⟨50, [(0, vl eSite aList), (1, vl eDescription aDescriptions), (24, vl eDescription aDescriptions), (25, vi (aDescriptions.length : Int)), (26, vi s7.1), (31, .own 31), (32, vi (x12.length : Int)), (33, vi 0)], [(31, oa 9 1 eS x12)]⟩ ?_
  refine swp_blk (a := v10) ?_
  refine swp_lpL (r := v10) (s := (0, ())) _ (fun s13 => ⟨50, [(0, vl eSite aList), (1, vl eDescription aDescriptions), (24, vl eDescription aDescriptions), (25, vi (aDescriptions.length : Int)), (26, vi s7.1), (31, .own 31), (32, vi (x12.length : Int)), (33, vi s13.1)], [(31, oa 9 1 eS x12)]⟩) _ (Le.sub0) h (fun s13 v14 h => ?_)
  refine srk tbok ⟨50, [(0, vl eSite aList), (1, vl eDescription aDescriptions), (24, vl eDescription aDescriptions), (25, vi (aDescriptions.length : Int)), (26, vi s7.1), (31, .own 31), (32, vi (x12.length : Int)), (33, vi s13.1), (34, vb (decide (s13.1 < (x12.length : Int))))], [(31, oa 9 1 eS x12)]⟩ ?_
  refine swp_seq ?_
  refine swp_cd h (fun h => ?_) fun h => ?_
  refine swp_skip ?_
  refine nx_n ?_
  refine swp_seq ?_
  refine swp_seqL (r := v14) h (fun j15 => ⟨50, [(0, vl eSite aList), (1, vl eDescription aDescriptions), (24, vl eDescription aDescriptions), (25, vi (aDescriptions.length : Int)), (26, vi s7.1), (31, .own 31), (32, vi (x12.length : Int)), (33, vi s13.1)], [(31, oa 9 1 eS x12)]⟩) (fun v16 h => ?_) (fun j15 h => ?_)
  refine swp_blk (a := v16) ?_
  refine sr ?_
  obtain ⟨x17, hx17, h⟩ := bind_some h
  refine SRun.ls (x_index_own (d := 31) (L := x12) (f := eS) (ti := ti28) (tj := ti9) (e := 9) (e' := 9) (m := 1) (k := .i64) tbok rfl hx17) ?_
  refine SRun.ls (x_load_own (d := 31) (m := 1) (j := 0) (L := x12) (f := eS) (ti := ti9) (e := 9) (v := vs x17) tbok rfl hx17) ?_
  refine ckn tbok 1 ⟨50, [(0, vl eSite aList), (1, vl eDescription aDescriptions), (10, vs x17), (24, vl eDescription aDescriptions), (25, vi (aDescriptions.length : Int)), (26, vi s7.1), (31, .own 31), (32, vi (x12.length : Int)), (33, vi s13.1)], [(31, oa 9 1 eS x12)]⟩ ?_
  refine sr ?_
  refine SRun.ck tbok 2 ⟨50, [(0, vl eSite aList), (1, vl eDescription aDescriptions), (24, vl eDescription aDescriptions), (25, vi (aDescriptions.length : Int)), (26, vi s7.1), (31, .own 31), (32, vi (x12.length : Int)), (33, vi s13.1), (38, vl eSite aList), (39, vs x17)], [(31, oa 9 1 eS x12)]⟩ ?_
  obtain ⟨x18, hx18, h⟩ := bind_some h
  refine SRun.ls (xc ents105 (impl_findSite_run aList x17 _ hx18)) ?_
  refine ckn tbok 6 ⟨50, [(0, vl eSite aList), (1, vl eDescription aDescriptions), (12, vb x18.2), (24, vl eDescription aDescriptions), (25, vi (aDescriptions.length : Int)), (26, vi s7.1), (31, .own 31), (32, vi (x12.length : Int)), (33, vi s13.1)], [(31, oa 9 1 eS x12)]⟩ ?_
  refine srk tbok ⟨50, [(0, vl eSite aList), (1, vl eDescription aDescriptions), (24, vl eDescription aDescriptions), (25, vi (aDescriptions.length : Int)), (26, vi s7.1), (31, .own 31), (32, vi (x12.length : Int)), (33, vi s13.1), (44, vb (!x18.2))], [(31, oa 9 1 eS x12)]⟩ ?_
  refine swp_cd h (fun h => ?_) fun h => ?_
  refine srk tbok ⟨50, [(6, vi 4)], []⟩ ?_
  refine swp_ret ?_
  obtain rfl := inj h
  exact q_br (q_rr (q_rr (q_br (q_br (q_rr (q_rr (q_br (q_rr (q_fr (f1 fv))))))))))
  refine swp_skip ?_
  obtain rfl := inj h
  exact q_bn (q_l (Le.sub0))
  refine swp_reg ?_
  refine SRun.ck tbok 2 ⟨50, [(0, vl eSite aList), (1, vl eDescription aDescriptions), (24, vl eDescription aDescriptions), (25, vi (aDescriptions.length : Int)), (26, vi s7.1), (31, .own 31), (32, vi (x12.length : Int)), (33, vi (w64 (s13.1 + 1)))], [(31, oa 9 1 eS x12)]⟩ ?_
  refine SRun.nil ?_
  obtain rfl := inj h
  exact q_l (Le.sub0)
  refine swp_exit ?_
  obtain rfl := inj h
  exact nx_e (q_re (q_bh (q_bn (q_l (Le.sub0)))))
  refine swp_reg ?_
  refine SRun.ck tbok 2 ⟨50, [(0, vl eSite aList), (1, vl eDescription aDescriptions), (24, vl eDescription aDescriptions), (25, vi (aDescriptions.length : Int)), (26, vi (w64 (s7.1 + 1)))], []⟩ ?_
  refine SRun.nil ?_
  obtain rfl := inj h
  exact q_l (Le.sub0)
  refine swp_exit ?_
  obtain rfl := inj h
  exact nx_e (q_re (q_bh (q_l (Le.sub0))))
  refine swp_seq ?_
  refine srk tbok ⟨50, [(49, vb (decide ((aDescriptions.length : Int) > 8)))], []⟩ ?_
  refine swp_cd h (fun h => ?_) fun h => ?_
  refine srk tbok ⟨50, [(6, vi 3)], []⟩ ?_
  refine swp_ret ?_
  obtain rfl := inj h
  exact nx_r (q_fr (f1 fv))
  refine swp_skip ?_
  refine nx_n ?_
  refine srk tbok ⟨50, [(6, vi 0)], []⟩ ?_
  refine swp_ret ?_
  obtain rfl := inj h
  exact q_fr (f1 fv)
theorem ents58 : Ents Tryz.prog 58 := ents_of Tryz.func58 (by kernel_rfl) rfl
noncomputable def impl_question_code (aQ : question) (aList : (List Candidate)) : Option (Int) :=
  ((((impl_AreCandidates aList).bind fun x1 => (bif x1 then ((impl_IsPhrase aQ.text).bind fun x2 => ((impl_siteCode aQ.sites aQ.descriptions x2).bind fun x3 => some x3)) else ((impl_siteCode aQ.sites aQ.descriptions false).bind fun x4 => some x4)))).bind fun (j5 : Int) => some j5)
theorem impl_question_code_run (aQ : question) (aList : (List Candidate)) (r : Int) (h : impl_question_code aQ aList = some r) : SCall Tryz.prog 79 [.v (.agg (tc equestion aQ)), .v (vl eCandidate aList)] ⟨[.v (vi r)], [], false⟩ := by
  refine scall_in Tryz.func79 rfl [(.tmp 4)] rfl (fun r => ⟨[.v (vi r)], [], false⟩) (r := r) ?_
  unfold impl_question_code at h
  refine srk tbok ⟨17, [(1, vl eCandidate aList), (2, .ref 2 0)], [(2, .box (tc equestion aQ))]⟩ ?_
  refine swp_seq ?_
  refine swp_drJ mixed h (fun j5 => ⟨17, [(4, vi j5)], []⟩) (fun v6 h => ?_) (fun j5 h => ?_)
  refine DGo.ck tbok false 5 ⟨17, [(2, .ref 2 0), (6, vl eSite aQ.sites), (8, vl eDescription aQ.descriptions), (9, vl eCandidate aList)], [(2, .box (tc equestion aQ))]⟩ ?_
  obtain ⟨x1, hx1, h⟩ := bind_some h
  refine DGo.step (xc ents45 (impl_AreCandidates_run aList _ hx1)) ?_
  refine DGo.ck tbok false 1 ⟨17, [(2, .ref 2 0), (6, vl eSite aQ.sites), (8, vl eDescription aQ.descriptions), (11, vb x1)], [(2, .box (tc equestion aQ))]⟩ ?_
  refine DGo.cu [(11, fun b => b)] h (fun h => ?_) fun h => ?_
  refine DGo.ck tbok false 2 ⟨17, [(6, vl eSite aQ.sites), (8, vl eDescription aQ.descriptions), (11, vb true), (13, vs aQ.text)], []⟩ ?_
  obtain ⟨x2, hx2, h⟩ := bind_some h
  refine DGo.step (xc ents87 (impl_IsPhrase_run aQ.text _ hx2)) ?_
  refine DGo.ck tbok false 1 ⟨17, [(6, vl eSite aQ.sites), (8, vl eDescription aQ.descriptions), (15, vb x2)], []⟩ ?_
  obtain ⟨x3, hx3, h⟩ := bind_some h
  refine DGo.step (xc ents58 (impl_siteCode_run aQ.sites aQ.descriptions x2 _ hx3)) ?_
  refine DGo.ck tbok false 1 ⟨17, [(4, vi x3)], []⟩ ?_
  refine DGo.nil (by kernel_rfl) ?_
  obtain rfl := inj h
  exact Le.sub0
  refine DGo.ck tbok false 4 ⟨17, [(6, vl eSite aQ.sites), (8, vl eDescription aQ.descriptions), (15, vb false)], []⟩ ?_
  obtain ⟨x4, hx4, h⟩ := bind_some h
  refine DGo.step (xc ents58 (impl_siteCode_run aQ.sites aQ.descriptions false _ hx4)) ?_
  refine DGo.ck tbok false 1 ⟨17, [(4, vi x4)], []⟩ ?_
  refine DGo.nil (by kernel_rfl) ?_
  obtain rfl := inj h
  exact Le.sub0
  refine swp_ret ?_
  obtain rfl := inj h
  exact q_fr (f1 fv)
theorem ents79 : Ents Tryz.prog 79 := ents_of Tryz.func79 (by kernel_rfl) rfl
noncomputable def impl_editDistance (aA : ByteArray) (aB : ByteArray) : Option (Int) :=
  ((make' 0 (w64 ((aB.size : Int) + 1))).bind fun x1 => (((forS (x1.length : Int) (fun (i4 : Int) (s4 : (List Int)) => ((at' s4 i4).bind fun _ => some (List.set s4 (Int.toNat i4) i4))) (fun (s4 : (List Int)) => s4) 0 x1)).bind fun (j2 : (List Int)) => (((forS (aA.size : Int) (fun (i11 : Int) (s11 : (List Int)) => (((forS (aB.size : Int) (fun (i17 : Int) (s17 : (List Int)) => ((at' s11 i17).bind fun x21 => ((byte' aA i11).bind fun x22 => ((byte' aB i17).bind fun x23 => (((bif (x22 != x23) then some (w64 (x21 + 1)) else some x21)).bind fun (j24 : Int) => ((at' s11 (w64 (i17 + 1))).bind fun x26 => ((at' s17 i17).bind fun x27 => ((app' s17 ([(minI (minI j24 (w64 (x26 + 1))) (w64 (x27 + 1)))] : List Int)).bind fun x29 => some x29)))))))) (fun (s17 : (List Int)) => s17) 0 ([(w64 (i11 + 1))] : List Int))).bind fun (j15 : (List Int)) => some j15)) (fun (s11 : (List Int)) => s11) 0 j2)).bind fun (j9 : (List Int)) => ((at' j9 (aB.size : Int)).bind fun x30 => some x30))))
theorem impl_editDistance_run (aA : ByteArray) (aB : ByteArray) (r : Int) (h : impl_editDistance aA aB = some r) : SCall Tryz.prog 120 [.v (vs aA), .v (vs aB)] ⟨[.v (vi r)], [], false⟩ := by
  refine scall_in Tryz.func120 rfl [(.tmp 4)] rfl (fun r => ⟨[.v (vi r)], [], false⟩) (r := r) ?_
  unfold impl_editDistance at h
  refine srk tbok ⟨75, [(0, vs aA), (1, vs aB)], []⟩ ?_
  refine sr ?_
  refine SRun.ck tbok 3 ⟨75, [(0, vs aA), (1, vs aB), (13, vi (w64 ((aB.size : Int) + 1)))], []⟩ ?_
  obtain ⟨x1, hx1, h⟩ := bind_some h
  refine SRun.ls (x_make (z := 0) (f := (eI .i64)) (ti := ti54) (tj := ti2) (e := 2) (m := 1) (k := .i64) (k' := .i64) hx1 tbok rfl rfl (zs := [.int .i64 0])) ?_
  refine ckn tbok 1 ⟨75, [(0, vs aA), (1, vs aB), (5, .own 14)], [(14, oa 2 1 (eI .i64) x1)]⟩ ?_
  refine swp_seq ?_
  refine srk tbok ⟨75, [(0, vs aA), (1, vs aB), (5, .own 14), (16, vi (x1.length : Int)), (17, vi 0)], [(14, oa 2 1 (eI .i64) x1)]⟩ ?_
  refine swp_seqJ h (fun j2 => ⟨75, [(0, vs aA), (1, vs aB), (5, .own 5)], [(5, oa 2 1 (eI .i64) j2)]⟩) (fun v3 h => ?_) (fun j2 h => ?_)
  refine swp_blk (a := v3) ?_
  refine swp_lpL (r := v3) (s := (0, x1)) _ (fun s4 => ⟨75, [(0, vs aA), (1, vs aB), (5, .own 5), (16, vi (x1.length : Int)), (17, vi s4.1)], [(5, oa 2 1 (eI .i64) s4.2)]⟩) _ (Le.rr [14] [(14, 5)]) h (fun s4 v5 h => ?_)
  refine srk tbok ⟨75, [(0, vs aA), (1, vs aB), (5, .own 5), (16, vi (x1.length : Int)), (17, vi s4.1), (18, vb (decide (s4.1 < (x1.length : Int))))], [(5, oa 2 1 (eI .i64) s4.2)]⟩ ?_
  refine swp_seq ?_
  refine swp_cd h (fun h => ?_) fun h => ?_
  refine swp_skip ?_
  refine nx_n ?_
  refine swp_seq ?_
  refine swp_seqJ h (fun j6 => ⟨75, [(0, vs aA), (1, vs aB), (5, .own 5), (16, vi (x1.length : Int)), (17, vi s4.1)], [(5, oa 2 1 (eI .i64) j6)]⟩) (fun v7 h => ?_) (fun j6 h => ?_)
  refine swp_blk (a := v7) ?_
  refine srk tbok ⟨75, [(0, vs aA), (1, vs aB), (5, .own 5), (6, vi s4.1), (16, vi (x1.length : Int)), (17, vi s4.1)], [(5, oa 2 1 (eI .i64) s4.2)]⟩ ?_
  refine swp_reg ?_
  refine SRun.ck tbok 3 ⟨75, [(0, vs aA), (1, vs aB), (5, .own 5), (16, vi (x1.length : Int)), (17, vi s4.1), (20, .own 5), (21, vi s4.1), (22, vi s4.1)], [(5, oa 2 1 (eI .i64) s4.2)]⟩ ?_
  obtain ⟨x8, hx8, h⟩ := bind_some h
  refine SRun.ls (x_index_own (d := 5) (L := s4.2) (f := (eI .i64)) (ti := ti54) (tj := ti2) (e := 2) (e' := 2) (m := 1) (k := .i64) tbok rfl hx8) ?_
  refine SRun.estep (x_store_own (d := 5) (m := 1) (j := 0) (L := s4.2) (f := (eI .i64)) (x := s4.1) (z := x8) (ti := ti2) (e := 2) (ts := [.int .i64 s4.1]) (vs := [vi s4.1]) (v := vi s4.1) tbok rfl rfl hx8) ?_
  refine SRun.nil ?_
  obtain rfl := inj h
  exact q_bn (q_j (Le.sub0))
  refine swp_reg ?_
  refine SRun.ck tbok 2 ⟨75, [(0, vs aA), (1, vs aB), (5, .own 5), (16, vi (x1.length : Int)), (17, vi (w64 (s4.1 + 1)))], [(5, oa 2 1 (eI .i64) j6)]⟩ ?_
  refine SRun.nil ?_
  obtain rfl := inj h
  exact q_l (Le.sub0)
  refine swp_exit ?_
  obtain rfl := inj h
  exact nx_e (q_re (q_bh (q_j (Le.sub0))))
  refine swp_seq ?_
  refine srk tbok ⟨75, [(0, vs aA), (1, vs aB), (5, .own 5), (26, vi (aA.size : Int)), (27, vi 0)], [(5, oa 2 1 (eI .i64) j2)]⟩ ?_
  refine swp_seqJ h (fun j9 => ⟨75, [(1, vs aB), (5, .own 5)], [(5, oa 2 1 (eI .i64) j9)]⟩) (fun v10 h => ?_) (fun j9 h => ?_)
  refine swp_blk (a := v10) ?_
  refine swp_lpL (r := v10) (s := (0, j2)) _ (fun s11 => ⟨75, [(0, vs aA), (1, vs aB), (5, .own 5), (26, vi (aA.size : Int)), (27, vi s11.1)], [(5, oa 2 1 (eI .i64) s11.2)]⟩) _ (Le.sub0) h (fun s11 v12 h => ?_)
  refine srk tbok ⟨75, [(0, vs aA), (1, vs aB), (5, .own 5), (26, vi (aA.size : Int)), (27, vi s11.1), (28, vb (decide (s11.1 < (aA.size : Int))))], [(5, oa 2 1 (eI .i64) s11.2)]⟩ ?_
  refine swp_seq ?_
  refine swp_cd h (fun h => ?_) fun h => ?_
  refine swp_skip ?_
  refine nx_n ?_
  refine swp_seq ?_
  refine swp_seqJ h (fun j13 => ⟨75, [(0, vs aA), (1, vs aB), (5, .own 5), (26, vi (aA.size : Int)), (27, vi s11.1)], [(5, oa 2 1 (eI .i64) j13)]⟩) (fun v14 h => ?_) (fun j13 h => ?_)
  refine swp_blk (a := v14) ?_
  refine srk tbok ⟨75, [(0, vs aA), (1, vs aB), (5, .own 5), (7, vi s11.1), (26, vi (aA.size : Int)), (27, vi s11.1)], [(5, oa 2 1 (eI .i64) s11.2)]⟩ ?_
  refine srk tbok ⟨75, [(0, vs aA), (1, vs aB), (5, .own 5), (7, vi s11.1), (8, .own 32), (26, vi (aA.size : Int)), (27, vi s11.1)], [(5, oa 2 1 (eI .i64) s11.2), (32, oa 2 1 (eI .i64) ([(w64 (s11.1 + 1))] : List Int))]⟩ ?_
  refine swp_seq ?_
  refine srk tbok ⟨75, [(0, vs aA), (1, vs aB), (5, .own 5), (7, vi s11.1), (8, .own 32), (26, vi (aA.size : Int)), (27, vi s11.1), (34, vi (aB.size : Int)), (35, vi 0)], [(5, oa 2 1 (eI .i64) s11.2), (32, oa 2 1 (eI .i64) ([(w64 (s11.1 + 1))] : List Int))]⟩ ?_
  refine swp_seqJ h (fun j15 => ⟨75, [(0, vs aA), (1, vs aB), (8, .own 8), (26, vi (aA.size : Int)), (27, vi s11.1)], [(8, oa 2 1 (eI .i64) j15)]⟩) (fun v16 h => ?_) (fun j15 h => ?_)
  refine swp_blk (a := v16) ?_
  refine swp_lpL (r := v16) (s := (0, ([(w64 (s11.1 + 1))] : List Int))) _ (fun s17 => ⟨75, [(0, vs aA), (1, vs aB), (5, .own 5), (7, vi s11.1), (8, .own 8), (26, vi (aA.size : Int)), (27, vi s11.1), (34, vi (aB.size : Int)), (35, vi s17.1)], [(5, oa 2 1 (eI .i64) s11.2), (8, oa 2 1 (eI .i64) s17.2)]⟩) _ (Le.rr [5, 32] [(32, 8)]) h (fun s17 v18 h => ?_)
  refine srk tbok ⟨75, [(0, vs aA), (1, vs aB), (5, .own 5), (7, vi s11.1), (8, .own 8), (26, vi (aA.size : Int)), (27, vi s11.1), (34, vi (aB.size : Int)), (35, vi s17.1), (36, vb (decide (s17.1 < (aB.size : Int))))], [(5, oa 2 1 (eI .i64) s11.2), (8, oa 2 1 (eI .i64) s17.2)]⟩ ?_
  refine swp_seq ?_
  refine swp_cd h (fun h => ?_) fun h => ?_
  refine swp_skip ?_
  refine nx_n ?_
  refine swp_seq ?_
  refine swp_seqJ h (fun j19 => ⟨75, [(0, vs aA), (1, vs aB), (5, .own 5), (7, vi s11.1), (8, .own 8), (26, vi (aA.size : Int)), (27, vi s11.1), (34, vi (aB.size : Int)), (35, vi s17.1)], [(5, oa 2 1 (eI .i64) s11.2), (8, oa 2 1 (eI .i64) j19)]⟩) (fun v20 h => ?_) (fun j19 h => ?_)
  refine swp_blk (a := v20) ?_
  refine srk tbok ⟨75, [(0, vs aA), (1, vs aB), (5, .own 5), (7, vi s11.1), (8, .own 8), (9, vi s17.1), (26, vi (aA.size : Int)), (27, vi s11.1), (34, vi (aB.size : Int)), (35, vi s17.1)], [(5, oa 2 1 (eI .i64) s11.2), (8, oa 2 1 (eI .i64) s17.2)]⟩ ?_
  refine sr ?_
  refine SRun.ck tbok 2 ⟨75, [(0, vs aA), (1, vs aB), (5, .own 5), (7, vi s11.1), (8, .own 8), (9, vi s17.1), (26, vi (aA.size : Int)), (27, vi s11.1), (34, vi (aB.size : Int)), (35, vi s17.1), (38, .own 5), (39, vi s17.1)], [(5, oa 2 1 (eI .i64) s11.2), (8, oa 2 1 (eI .i64) s17.2)]⟩ ?_
  obtain ⟨x21, hx21, h⟩ := bind_some h
  refine SRun.ls (x_index_own (d := 5) (L := s11.2) (f := (eI .i64)) (ti := ti54) (tj := ti2) (e := 2) (e' := 2) (m := 1) (k := .i64) tbok rfl hx21) ?_
  refine SRun.ls (x_load_own (d := 5) (m := 1) (j := 0) (L := s11.2) (f := (eI .i64)) (ti := ti2) (e := 2) (v := vi x21) tbok rfl hx21) ?_
  refine ckn tbok 1 ⟨75, [(0, vs aA), (1, vs aB), (5, .own 5), (7, vi s11.1), (8, .own 8), (9, vi s17.1), (10, vi x21), (26, vi (aA.size : Int)), (27, vi s11.1), (34, vi (aB.size : Int)), (35, vi s17.1)], [(5, oa 2 1 (eI .i64) s11.2), (8, oa 2 1 (eI .i64) s17.2)]⟩ ?_
  refine swp_seq ?_
  refine swp_seq ?_
  refine swp_dr mixed ?_
  refine DGo.ck tbok false 2 ⟨75, [(0, vs aA), (1, vs aB), (5, .own 5), (7, vi s11.1), (8, .own 8), (9, vi s17.1), (10, vi x21), (26, vi (aA.size : Int)), (27, vi s11.1), (34, vi (aB.size : Int)), (35, vi s17.1), (42, vs aA), (43, vi s11.1)], [(5, oa 2 1 (eI .i64) s11.2), (8, oa 2 1 (eI .i64) s17.2)]⟩ ?_
  obtain ⟨x22, hx22, h⟩ := bind_some h
  refine DGo.step (x_byte (ti := ti9) (k := .i64) hx22 tbok rfl) ?_
  refine DGo.ck tbok false 2 ⟨75, [(0, vs aA), (1, vs aB), (5, .own 5), (7, vi s11.1), (8, .own 8), (9, vi s17.1), (10, vi x21), (26, vi (aA.size : Int)), (27, vi s11.1), (34, vi (aB.size : Int)), (35, vi s17.1), (44, .tr (.int .u8 x22)), (45, vs aB), (46, vi s17.1)], [(5, oa 2 1 (eI .i64) s11.2), (8, oa 2 1 (eI .i64) s17.2)]⟩ ?_
  obtain ⟨x23, hx23, h⟩ := bind_some h
  refine DGo.step (x_byte (ti := ti9) (k := .i64) hx23 tbok rfl) ?_
  refine DGo.ck tbok false 1 ⟨75, [(0, vs aA), (1, vs aB), (5, .own 5), (7, vi s11.1), (8, .own 8), (9, vi s17.1), (10, vi x21), (26, vi (aA.size : Int)), (27, vi s11.1), (34, vi (aB.size : Int)), (35, vi s17.1), (48, vb (x22 != x23))], [(5, oa 2 1 (eI .i64) s11.2), (8, oa 2 1 (eI .i64) s17.2)]⟩ ?_
  refine DGo.nx ?_
  refine swp_seqJ h (fun j24 => ⟨75, [(0, vs aA), (1, vs aB), (5, .own 5), (7, vi s11.1), (8, .own 8), (9, vi s17.1), (10, vi j24), (26, vi (aA.size : Int)), (27, vi s11.1), (34, vi (aB.size : Int)), (35, vi s17.1)], [(5, oa 2 1 (eI .i64) s11.2), (8, oa 2 1 (eI .i64) s17.2)]⟩) (fun v25 h => ?_) (fun j24 h => ?_)
  refine swp_cd h (fun h => ?_) fun h => ?_
  refine swp_reg ?_
  refine SRun.ck tbok 3 ⟨75, [(0, vs aA), (1, vs aB), (5, .own 5), (7, vi s11.1), (8, .own 8), (9, vi s17.1), (10, vi (w64 (x21 + 1))), (26, vi (aA.size : Int)), (27, vi s11.1), (34, vi (aB.size : Int)), (35, vi s17.1)], [(5, oa 2 1 (eI .i64) s11.2), (8, oa 2 1 (eI .i64) s17.2)]⟩ ?_
  refine SRun.nil ?_
  obtain rfl := inj h
  exact q_j (Le.sub0)
  refine swp_skip ?_
  obtain rfl := inj h
  exact q_j (Le.sub0)
  refine swp_dr mixed ?_
  refine DGo.ck tbok false 5 ⟨75, [(0, vs aA), (1, vs aB), (5, .own 5), (7, vi s11.1), (8, .own 8), (9, vi s17.1), (26, vi (aA.size : Int)), (27, vi s11.1), (34, vi (aB.size : Int)), (35, vi s17.1), (51, .own 8), (52, vi j24), (53, .own 5), (55, vi (w64 (s17.1 + 1)))], [(5, oa 2 1 (eI .i64) s11.2), (8, oa 2 1 (eI .i64) s17.2)]⟩ ?_
  obtain ⟨x26, hx26, h⟩ := bind_some h
  refine DGo.step (x_index_own (d := 5) (L := s11.2) (f := (eI .i64)) (ti := ti54) (tj := ti2) (e := 2) (e' := 2) (m := 1) (k := .i64) tbok rfl hx26) ?_
  refine DGo.step (x_load_own (d := 5) (m := 1) (j := 0) (L := s11.2) (f := (eI .i64)) (ti := ti2) (e := 2) (v := vi x26) tbok rfl hx26) ?_
  refine DGo.ck tbok false 3 ⟨75, [(0, vs aA), (1, vs aB), (5, .own 5), (7, vi s11.1), (26, vi (aA.size : Int)), (27, vi s11.1), (34, vi (aB.size : Int)), (35, vi s17.1), (51, .own 8), (52, vi j24), (58, vi (w64 (x26 + 1))), (59, .own 8), (60, vi s17.1)], [(5, oa 2 1 (eI .i64) s11.2), (8, oa 2 1 (eI .i64) s17.2)]⟩ ?_
  obtain ⟨x27, hx27, h⟩ := bind_some h
  refine DGo.step (x_index_own (d := 8) (L := s17.2) (f := (eI .i64)) (ti := ti54) (tj := ti2) (e := 2) (e' := 2) (m := 1) (k := .i64) tbok rfl hx27) ?_
  refine DGo.step (x_load_own (d := 8) (m := 1) (j := 0) (L := s17.2) (f := (eI .i64)) (ti := ti2) (e := 2) (v := vi x27) tbok rfl hx27) ?_
  refine DGo.ck tbok false 3 ⟨75, [(0, vs aA), (1, vs aB), (5, .own 5), (7, vi s11.1), (26, vi (aA.size : Int)), (27, vi s11.1), (34, vi (aB.size : Int)), (35, vi s17.1), (51, .own 8), (65, .own 65)], [(5, oa 2 1 (eI .i64) s11.2), (8, oa 2 1 (eI .i64) s17.2), (65, oa 2 1 (eI .i64) ([(minI (minI j24 (w64 (x26 + 1))) (w64 (x27 + 1)))] : List Int))]⟩ ?_
  refine DGo.seq (by kernel_rfl) (by kernel_rfl) ?_
  obtain ⟨x29, hx29, h⟩ := bind_some h
  refine SRun.estep (x_append (f := (eI .i64)) (t := 54) (ti := ti54) (tj := ti2) (zs := [.int .i64 0]) (e := 2) (m := 1) (d := 8) (xv := .own 65) hx29 tbok rfl rfl rfl rfl (x_src_o (e := 2))) ?_
  refine SRun.ck tbok 1 ⟨75, [(0, vs aA), (1, vs aB), (5, .own 5), (7, vi s11.1), (8, .own 66), (26, vi (aA.size : Int)), (27, vi s11.1), (34, vi (aB.size : Int)), (35, vi s17.1)], [(5, oa 2 1 (eI .i64) s11.2), (66, oa 2 1 (eI .i64) x29)]⟩ ?_
  refine SRun.nil ?_
  obtain rfl := inj h
  exact q_bn (q_j (Le.rr [5, 66] [(66, 8)]))
  refine swp_reg ?_
  refine SRun.ck tbok 2 ⟨75, [(0, vs aA), (1, vs aB), (5, .own 5), (7, vi s11.1), (8, .own 8), (26, vi (aA.size : Int)), (27, vi s11.1), (34, vi (aB.size : Int)), (35, vi (w64 (s17.1 + 1)))], [(5, oa 2 1 (eI .i64) s11.2), (8, oa 2 1 (eI .i64) j19)]⟩ ?_
  refine SRun.nil ?_
  obtain rfl := inj h
  exact q_l (Le.sub0)
  refine swp_exit ?_
  obtain rfl := inj h
  exact nx_e (q_re (q_bh (q_j (Le.sub0))))
  refine swp_reg ?_
  refine SRun.ck tbok 2 ⟨75, [(0, vs aA), (1, vs aB), (5, .own 8), (26, vi (aA.size : Int)), (27, vi s11.1)], [(8, oa 2 1 (eI .i64) j15)]⟩ ?_
  refine SRun.nil ?_
  obtain rfl := inj h
  exact q_bn (q_j (Le.rr [8] [(8, 5)]))
  refine swp_reg ?_
  refine SRun.ck tbok 2 ⟨75, [(0, vs aA), (1, vs aB), (5, .own 5), (26, vi (aA.size : Int)), (27, vi (w64 (s11.1 + 1)))], [(5, oa 2 1 (eI .i64) j13)]⟩ ?_
  refine SRun.nil ?_
  obtain rfl := inj h
  exact q_l (Le.sub0)
  refine swp_exit ?_
  obtain rfl := inj h
  exact nx_e (q_re (q_bh (q_j (Le.sub0))))
  refine sr ?_
  refine SRun.ck tbok 3 ⟨75, [(70, .own 5), (72, vi (aB.size : Int))], [(5, oa 2 1 (eI .i64) j9)]⟩ ?_
  obtain ⟨x30, hx30, h⟩ := bind_some h
  refine SRun.ls (x_index_own (d := 5) (L := j9) (f := (eI .i64)) (ti := ti54) (tj := ti2) (e := 2) (e' := 2) (m := 1) (k := .i64) tbok rfl hx30) ?_
  refine SRun.ls (x_load_own (d := 5) (m := 1) (j := 0) (L := j9) (f := (eI .i64)) (ti := ti2) (e := 2) (v := vi x30) tbok rfl hx30) ?_
  refine ckn tbok 1 ⟨75, [(4, vi x30)], []⟩ ?_
  refine swp_ret ?_
  obtain rfl := inj h
  exact q_fr (f1 fv)
theorem ents120 : Ents Tryz.prog 120 := ents_of Tryz.func120 (by kernel_rfl) rfl
noncomputable def impl_phraseDistance (aA : ByteArray) (aB : ByteArray) : Option (Int) :=
  ((impl_wordsOf aA).bind fun x1 => ((impl_wordsOf aB).bind fun x2 => (((bif (decide ((x1.length : Int) < (x2.length : Int))) then some (x2, x1) else some (x1, x2))).bind fun (j3 : (List ByteArray) × (List ByteArray)) => (((forS (j3.1.length : Int) (fun (i7 : Int) (s7 : Int) => ((at' j3.1 i7).bind fun x11 => (bif (decide (i7 < (j3.2.length : Int))) then ((at' j3.2 i7).bind fun x12 => ((impl_editDistance x11 x12).bind fun x13 => some (w64 (s7 + x13)))) else some (w64 (s7 + (x11.size : Int)))))) (fun (s7 : Int) => s7) 0 0)).bind fun (j5 : Int) => some j5))))
theorem impl_phraseDistance_run (aA : ByteArray) (aB : ByteArray) (r : Int) (h : impl_phraseDistance aA aB = some r) : SCall Tryz.prog 75 [.v (vs aA), .v (vs aB)] ⟨[.v (vi r)], [], false⟩ := by
  refine scall_in Tryz.func75 rfl [(.tmp 4)] rfl (fun r => ⟨[.v (vi r)], [], false⟩) (r := r) ?_
  unfold impl_phraseDistance at h
  refine srk tbok ⟨46, [(0, vs aA), (1, vs aB)], []⟩ ?_
  refine sr ?_
  refine SRun.ck tbok 1 ⟨46, [(1, vs aB), (10, vs aA)], []⟩ ?_
  obtain ⟨x1, hx1, h⟩ := bind_some h
  refine SRun.ls (xc ents119 (impl_wordsOf_run aA _ hx1)) ?_
  refine SRun.ck tbok 1 ⟨46, [(11, .own 11), (12, vs aB)], [(11, oa 9 1 eS x1)]⟩ ?_
  obtain ⟨x2, hx2, h⟩ := bind_some h
  refine SRun.ls (xc ents119 (impl_wordsOf_run aB _ hx2)) ?_
  refine ckn tbok 2 ⟨46, [(5, .own 11), (6, .own 13)], [(11, oa 9 1 eS x1), (13, oa 9 1 eS x2)]⟩ ?_
  refine swp_seq ?_
  refine srk tbok ⟨46, [(5, .own 11), (6, .own 13), (18, vb (decide ((x1.length : Int) < (x2.length : Int))))], [(11, oa 9 1 eS x1), (13, oa 9 1 eS x2)]⟩ ?_
  refine swp_seqJ h (fun j3 => ⟨46, [(5, .own 5), (6, .own 6)], [(5, oa 9 1 eS j3.1), (6, oa 9 1 eS j3.2)]⟩) (fun v4 h => ?_) (fun j3 h => ?_)
  refine swp_cd h (fun h => ?_) fun h => ?_
  refine swp_reg ?_
  refine SRun.ck tbok 4 ⟨46, [(5, .own 13), (6, .own 11)], [(11, oa 9 1 eS x1), (13, oa 9 1 eS x2)]⟩ ?_
  refine SRun.nil ?_
  obtain rfl := inj h
  exact q_j (Le.rr [11, 13] [(13, 5), (11, 6)])
  refine swp_skip ?_
  obtain rfl := inj h
  exact q_j (Le.rr [11, 13] [(11, 5), (13, 6)])
  refine srk tbok ⟨46, [(5, .own 5), (6, .own 6), (7, vi 0)], [(5, oa 9 1 eS j3.1), (6, oa 9 1 eS j3.2)]⟩ ?_
  refine swp_seq ?_
  refine srk tbok ⟨46, [(6, .own 6), (7, vi 0), (21, .own 5), (22, vi (j3.1.length : Int)), (23, vi 0)], [(5, oa 9 1 eS j3.1), (6, oa 9 1 eS j3.2)]⟩ ?_
  refine swp_seqJ h (fun j5 => ⟨46, [(7, vi j5)], []⟩) (fun v6 h => ?_) (fun j5 h => ?_)
  refine swp_blk (a := v6) ?_
  refine swp_lpL (r := v6) (s := (0, 0)) _ (fun s7 => ⟨46, [(6, .own 6), (7, vi s7.2), (21, .own 21), (22, vi (j3.1.length : Int)), (23, vi s7.1)], [(21, oa 9 1 eS j3.1), (6, oa 9 1 eS j3.2)]⟩) _ (Le.rr [5, 6] [(5, 21)]) h (fun s7 v8 h => ?_)
  refine srk tbok ⟨46, [(6, .own 6), (7, vi s7.2), (21, .own 21), (22, vi (j3.1.length : Int)), (23, vi s7.1), (24, vb (decide (s7.1 < (j3.1.length : Int))))], [(6, oa 9 1 eS j3.2), (21, oa 9 1 eS j3.1)]⟩ ?_
  refine swp_seq ?_
  refine swp_cd h (fun h => ?_) fun h => ?_
  refine swp_skip ?_
  refine nx_n ?_
  refine swp_seq ?_
  refine swp_seqJ h (fun j9 => ⟨46, [(6, .own 6), (7, vi j9), (21, .own 21), (22, vi (j3.1.length : Int)), (23, vi s7.1)], [(6, oa 9 1 eS j3.2), (21, oa 9 1 eS j3.1)]⟩) (fun v10 h => ?_) (fun j9 h => ?_)
  refine swp_blk (a := v10) ?_
  refine sr ?_
  refine SRun.ck tbok 1 ⟨46, [(6, .own 6), (7, vi s7.2), (21, .own 21), (22, vi (j3.1.length : Int)), (23, vi s7.1), (25, vi s7.1)], [(6, oa 9 1 eS j3.2), (21, oa 9 1 eS j3.1)]⟩ ?_
  obtain ⟨x11, hx11, h⟩ := bind_some h
  refine SRun.ls (x_index_own (d := 21) (L := j3.1) (f := eS) (ti := ti28) (tj := ti9) (e := 9) (e' := 9) (m := 1) (k := .i64) tbok rfl hx11) ?_
  refine SRun.ls (x_load_own (d := 21) (m := 1) (j := 0) (L := j3.1) (f := eS) (ti := ti9) (e := 9) (v := vs x11) tbok rfl hx11) ?_
  refine ckn tbok 2 ⟨46, [(6, .own 6), (7, vi s7.2), (8, vi s7.1), (9, vs x11), (21, .own 21), (22, vi (j3.1.length : Int)), (23, vi s7.1)], [(6, oa 9 1 eS j3.2), (21, oa 9 1 eS j3.1)]⟩ ?_
  refine srk tbok ⟨46, [(6, .own 6), (7, vi s7.2), (8, vi s7.1), (9, vs x11), (21, .own 21), (22, vi (j3.1.length : Int)), (23, vi s7.1), (31, vb (decide (s7.1 < (j3.2.length : Int))))], [(6, oa 9 1 eS j3.2), (21, oa 9 1 eS j3.1)]⟩ ?_
  refine swp_cd h (fun h => ?_) fun h => ?_
  refine swp_reg ?_
  refine SRun.ck tbok 4 ⟨46, [(6, .own 6), (21, .own 21), (22, vi (j3.1.length : Int)), (23, vi s7.1), (32, vi s7.2), (33, vs x11), (34, .own 6), (35, vi s7.1)], [(6, oa 9 1 eS j3.2), (21, oa 9 1 eS j3.1)]⟩ ?_
  obtain ⟨x12, hx12, h⟩ := bind_some h
  refine SRun.ls (x_index_own (d := 6) (L := j3.2) (f := eS) (ti := ti28) (tj := ti9) (e := 9) (e' := 9) (m := 1) (k := .i64) tbok rfl hx12) ?_
  refine SRun.ls (x_load_own (d := 6) (m := 1) (j := 0) (L := j3.2) (f := eS) (ti := ti9) (e := 9) (v := vs x12) tbok rfl hx12) ?_
  obtain ⟨x13, hx13, h⟩ := bind_some h
  refine SRun.ls (xc ents120 (impl_editDistance_run x11 x12 _ hx13)) ?_
  refine SRun.ck tbok 2 ⟨46, [(6, .own 6), (7, vi (w64 (s7.2 + x13))), (21, .own 21), (22, vi (j3.1.length : Int)), (23, vi s7.1)], [(6, oa 9 1 eS j3.2), (21, oa 9 1 eS j3.1)]⟩ ?_
  refine SRun.nil ?_
  obtain rfl := inj h
  exact q_bn (q_j (Le.sub0))
  refine swp_reg ?_
  refine SRun.ck tbok 5 ⟨46, [(6, .own 6), (7, vi (w64 (s7.2 + (x11.size : Int)))), (21, .own 21), (22, vi (j3.1.length : Int)), (23, vi s7.1)], [(6, oa 9 1 eS j3.2), (21, oa 9 1 eS j3.1)]⟩ ?_
  refine SRun.nil ?_
  obtain rfl := inj h
  exact q_bn (q_j (Le.sub0))
  refine swp_reg ?_
  refine SRun.ck tbok 2 ⟨46, [(6, .own 6), (7, vi j9), (21, .own 21), (22, vi (j3.1.length : Int)), (23, vi (w64 (s7.1 + 1)))], [(6, oa 9 1 eS j3.2), (21, oa 9 1 eS j3.1)]⟩ ?_
  refine SRun.nil ?_
  obtain rfl := inj h
  exact q_l (Le.sub0)
  refine swp_exit ?_
  obtain rfl := inj h
  exact nx_e (q_re (q_bh (q_j (Le.sub0))))
  refine srk tbok ⟨46, [(4, vi j5)], []⟩ ?_
  refine swp_ret ?_
  obtain rfl := inj h
  exact q_fr (f1 fv)
theorem ents75 : Ents Tryz.prog 75 := ents_of Tryz.func75 (by kernel_rfl) rfl
noncomputable def impl_squared (aA : Point) (aB : Point) : Option (Int) :=
  some (w64 ((w64 ((w64 (aA.X - aB.X)) * (w64 (aA.X - aB.X)))) + (w64 ((w64 (aA.Y - aB.Y)) * (w64 (aA.Y - aB.Y))))))
theorem impl_squared_run (aA : Point) (aB : Point) (r : Int) (h : impl_squared aA aB = some r) : SCall Tryz.prog 108 [.v (.agg (tc ePoint aA)), .v (.agg (tc ePoint aB))] ⟨[.v (vi r)], [], false⟩ := by
  refine scall_in Tryz.func108 rfl [(.tmp 4)] rfl (fun r => ⟨[.v (vi r)], [], false⟩) (r := r) ?_
  unfold impl_squared at h
  refine srk tbok ⟨28, [(2, .ref 2 0), (3, .ref 3 0)], [(2, .box (tc ePoint aA)), (3, .box (tc ePoint aB))]⟩ ?_
  refine srk tbok ⟨28, [(4, vi (w64 ((w64 ((w64 (aA.X - aB.X)) * (w64 (aA.X - aB.X)))) + (w64 ((w64 (aA.Y - aB.Y)) * (w64 (aA.Y - aB.Y)))))))], []⟩ ?_
  refine swp_ret ?_
  obtain rfl := inj h
  exact q_fr (f1 fv)
theorem ents108 : Ents Tryz.prog 108 := ents_of Tryz.func108 (by kernel_rfl) rfl
noncomputable def internal_stringslite_HasPrefix (aS : ByteArray) (aPrefix : ByteArray) : Option (Bool) :=
  (((bif (decide ((aS.size : Int) ≥ (aPrefix.size : Int))) then ((sub' aS 0 (aPrefix.size : Int)).bind fun x1 => some (x1.toList == aPrefix.toList)) else some false)).bind fun (j2 : Bool) => some j2)
theorem internal_stringslite_HasPrefix_run (aS : ByteArray) (aPrefix : ByteArray) (r : Bool) (h : internal_stringslite_HasPrefix aS aPrefix = some r) : SCall Tryz.prog 203 [.v (vs aS), .v (vs aPrefix)] ⟨[.v (vb r)], [], false⟩ := by
  refine scall_in Tryz.func203 rfl [(.tmp 4)] rfl (fun r => ⟨[.v (vb r)], [], false⟩) (r := r) ?_
  unfold internal_stringslite_HasPrefix at h
  refine srk tbok ⟨18, [(0, vs aS), (1, vs aPrefix)], []⟩ ?_
  refine swp_seq ?_
  refine swp_regJ h (fun j2 => ⟨18, [(4, vb j2)], []⟩) (fun v3 h => ?_) (fun j2 h => ?_)
  refine SRun.ck tbok 6 ⟨18, [(0, vs aS), (1, vs aPrefix), (10, vb (decide ((aS.size : Int) ≥ (aPrefix.size : Int))))], []⟩ ?_
  refine SRun.cu [(10, fun b => b)] h (fun h => ?_) fun h => ?_
  refine SRun.ck tbok 3 ⟨18, [(1, vs aPrefix), (10, vb true), (11, vs aS), (13, vi (aPrefix.size : Int))], []⟩ ?_
  obtain ⟨x1, hx1, h⟩ := bind_some h
  refine SRun.ls (x_sub (ti := ti9) hx1 tbok rfl) ?_
  refine SRun.ck tbok 4 ⟨18, [(4, vb (x1.toList == aPrefix.toList))], []⟩ ?_
  refine SRun.nil ?_
  obtain rfl := inj h
  exact Le.sub0
  refine SRun.ck tbok 8 ⟨18, [(4, vb false)], []⟩ ?_
  refine SRun.nil ?_
  obtain rfl := inj h
  exact Le.sub0
  refine swp_ret ?_
  obtain rfl := inj h
  exact q_fr (f1 fv)
theorem ents203 : Ents Tryz.prog 203 := ents_of Tryz.func203 (by kernel_rfl) rfl
noncomputable def strings_HasPrefix (aS : ByteArray) (aPrefix : ByteArray) : Option (Bool) :=
  ((internal_stringslite_HasPrefix aS aPrefix).bind fun x1 => some x1)
theorem strings_HasPrefix_run (aS : ByteArray) (aPrefix : ByteArray) (r : Bool) (h : strings_HasPrefix aS aPrefix = some r) : SCall Tryz.prog 165 [.v (vs aS), .v (vs aPrefix)] ⟨[.v (vb r)], [], false⟩ := by
  refine scall_in Tryz.func165 rfl [(.tmp 4)] rfl (fun r => ⟨[.v (vb r)], [], false⟩) (r := r) ?_
  unfold strings_HasPrefix at h
  refine srk tbok ⟨8, [(0, vs aS), (1, vs aPrefix)], []⟩ ?_
  refine sr ?_
  refine SRun.ck tbok 2 ⟨8, [(5, vs aS), (6, vs aPrefix)], []⟩ ?_
  obtain ⟨x1, hx1, h⟩ := bind_some h
  refine SRun.ls (xc ents203 (internal_stringslite_HasPrefix_run aS aPrefix _ hx1)) ?_
  refine ckn tbok 1 ⟨8, [(4, vb x1)], []⟩ ?_
  refine swp_ret ?_
  obtain rfl := inj h
  exact q_fr (f1 fv)
theorem ents165 : Ents Tryz.prog 165 := ents_of Tryz.func165 (by kernel_rfl) rfl
noncomputable def impl_Description_steps (aD : Description) : Option (Int) :=
  ((strings_HasPrefix aD.Unit (ByteArray.mk #[109, 105, 108, 101])).bind fun x1 => (bif x1 then some (w64 (4 * aD.Count)) else some (w64 (12 * aD.Count))))
theorem impl_Description_steps_run (aD : Description) (r : Int) (h : impl_Description_steps aD = some r) : SCall Tryz.prog 144 [.v (.agg (tc eDescription aD))] ⟨[.v (vi r)], [], false⟩ := by
  refine scall_in Tryz.func144 rfl [(.tmp 2)] rfl (fun r => ⟨[.v (vi r)], [], false⟩) (r := r) ?_
  unfold impl_Description_steps at h
  refine srk tbok ⟨12, [(1, .ref 1 0)], [(1, .box (tc eDescription aD))]⟩ ?_
  refine swp_seq ?_
  refine sr ?_
  refine SRun.ck tbok 2 ⟨12, [(1, .ref 1 0), (4, vs aD.Unit)], [(1, .box (tc eDescription aD))]⟩ ?_
  obtain ⟨x1, hx1, h⟩ := bind_some h
  refine SRun.ls (xc ents165 (strings_HasPrefix_run aD.Unit (ByteArray.mk #[109, 105, 108, 101]) _ hx1)) ?_
  refine SRun.nx ?_
  refine swp_cd h (fun h => ?_) fun h => ?_
  refine srk tbok ⟨12, [(2, vi (w64 (4 * aD.Count)))], []⟩ ?_
  refine swp_ret ?_
  obtain rfl := inj h
  exact nx_r (q_fr (f1 fv))
  refine swp_skip ?_
  refine nx_n ?_
  refine srk tbok ⟨12, [(2, vi (w64 (12 * aD.Count)))], []⟩ ?_
  refine swp_ret ?_
  obtain rfl := inj h
  exact q_fr (f1 fv)
theorem ents144 : Ents Tryz.prog 144 := ents_of Tryz.func144 (by kernel_rfl) rfl
noncomputable def impl_abs (aX : Int) : Option (Int) :=
  some (maxI aX (w64 (0 - aX)))
theorem impl_abs_run (aX : Int) (r : Int) (h : impl_abs aX = some r) : SCall Tryz.prog 146 [.v (vi aX)] ⟨[.v (vi r)], [], false⟩ := by
  refine scall_in Tryz.func146 rfl [(.tmp 2)] rfl (fun r => ⟨[.v (vi r)], [], false⟩) (r := r) ?_
  unfold impl_abs at h
  refine srk tbok ⟨7, [(0, vi aX)], []⟩ ?_
  refine srk tbok ⟨7, [(2, vi (maxI aX (w64 (0 - aX))))], []⟩ ?_
  refine swp_ret ?_
  obtain rfl := inj h
  exact q_fr (f1 fv)
theorem ents146 : Ents Tryz.prog 146 := ents_of Tryz.func146 (by kernel_rfl) rfl
noncomputable def impl_sign (aX : Int) : Option (Int) :=
  some (maxI (-1) (minI 1 aX))
theorem impl_sign_run (aX : Int) (r : Int) (h : impl_sign aX = some r) : SCall Tryz.prog 166 [.v (vi aX)] ⟨[.v (vi r)], [], false⟩ := by
  refine scall_in Tryz.func166 rfl [(.tmp 2)] rfl (fun r => ⟨[.v (vi r)], [], false⟩) (r := r) ?_
  unfold impl_sign at h
  refine srk tbok ⟨6, [(0, vi aX)], []⟩ ?_
  refine srk tbok ⟨6, [(2, vi (maxI (-1) (minI 1 aX)))], []⟩ ?_
  refine swp_ret ?_
  obtain rfl := inj h
  exact q_fr (f1 fv)
theorem ents166 : Ents Tryz.prog 166 := ents_of Tryz.func166 (by kernel_rfl) rfl
noncomputable def impl_direction (aA : Point) (aB : Point) : Option (Int) :=
  ((((impl_abs (w64 (aB.X - aA.X))).bind fun x3 => ((impl_abs (w64 (aB.Y - aA.Y))).bind fun x4 => (bif (decide ((w64 (2 * x3)) < x4)) then some (0, (w64 (aB.Y - aA.Y))) else ((impl_abs (w64 (aB.Y - aA.Y))).bind fun x5 => ((impl_abs (w64 (aB.X - aA.X))).bind fun x6 => (bif (decide ((w64 (2 * x5)) < x6)) then some ((w64 (aB.X - aA.X)), 0) else some ((w64 (aB.X - aA.X)), (w64 (aB.Y - aA.Y)))))))))).bind fun (j1 : Int × Int) => ((impl_sign j1.2).bind fun x7 => ((impl_sign j1.1).bind fun x8 => ((arr' 3 (w64 (x7 + 1))).bind fun _ => ((arr' 3 (w64 (x8 + 1))).bind fun _ => ((arrN 9 ((0 + (Int.toNat (w64 (x7 + 1))) * 3) + (Int.toNat (w64 (x8 + 1))) * 1)).bind fun _ => some (pickI [5, 4, 3, 6, 0, 2, 7, 0, 1] ((0 + (Int.toNat (w64 (x7 + 1))) * 3) + (Int.toNat (w64 (x8 + 1))) * 1))))))))
theorem impl_direction_run (aA : Point) (aB : Point) (r : Int) (h : impl_direction aA aB = some r) : SCall Tryz.prog 145 [.v (.agg (tc ePoint aA)), .v (.agg (tc ePoint aB))] ⟨[.v (vi r)], [], false⟩ := by
  refine scall_in Tryz.func145 rfl [(.tmp 4)] rfl (fun r => ⟨[.v (vi r)], [], false⟩) (r := r) ?_
  unfold impl_direction at h
  refine srk tbok ⟨45, [(2, .ref 2 0), (3, .ref 3 0)], [(2, .box (tc ePoint aA)), (3, .box (tc ePoint aB))]⟩ ?_
  refine swp_seq ?_
  refine swp_dr mixed ?_
  refine DGo.ck tbok false 12 ⟨45, [(5, vi (w64 (aB.X - aA.X))), (6, vi (w64 (aB.Y - aA.Y)))], []⟩ ?_
  refine DGo.nx ?_
  refine swp_seq ?_
  refine swp_seqJ h (fun j1 => ⟨45, [(5, vi j1.1), (6, vi j1.2)], []⟩) (fun v2 h => ?_) (fun j1 h => ?_)
  refine swp_blk (a := v2) ?_
  refine sr ?_
  refine SRun.ck tbok 1 ⟨45, [(5, vi (w64 (aB.X - aA.X))), (6, vi (w64 (aB.Y - aA.Y))), (19, vi (w64 (aB.X - aA.X)))], []⟩ ?_
  obtain ⟨x3, hx3, h⟩ := bind_some h
  refine SRun.ls (xc ents146 (impl_abs_run (w64 (aB.X - aA.X)) _ hx3)) ?_
  refine SRun.ck tbok 2 ⟨45, [(5, vi (w64 (aB.X - aA.X))), (6, vi (w64 (aB.Y - aA.Y))), (21, vi (w64 (2 * x3))), (22, vi (w64 (aB.Y - aA.Y)))], []⟩ ?_
  obtain ⟨x4, hx4, h⟩ := bind_some h
  refine SRun.ls (xc ents146 (impl_abs_run (w64 (aB.Y - aA.Y)) _ hx4)) ?_
  refine ckn tbok 2 ⟨45, [(5, vi (w64 (aB.X - aA.X))), (6, vi (w64 (aB.Y - aA.Y))), (18, vb (decide ((w64 (2 * x3)) < x4)))], []⟩ ?_
  refine swp_cd h (fun h => ?_) fun h => ?_
  refine swp_reg ?_
  refine SRun.ck tbok 1 ⟨45, [(5, vi 0), (6, vi (w64 (aB.Y - aA.Y)))], []⟩ ?_
  refine SRun.nil ?_
  obtain rfl := inj h
  exact q_bn (q_j (Le.sub0))
  refine sr ?_
  refine SRun.ck tbok 1 ⟨45, [(5, vi (w64 (aB.X - aA.X))), (6, vi (w64 (aB.Y - aA.Y))), (26, vi (w64 (aB.Y - aA.Y)))], []⟩ ?_
  obtain ⟨x5, hx5, h⟩ := bind_some h
  refine SRun.ls (xc ents146 (impl_abs_run (w64 (aB.Y - aA.Y)) _ hx5)) ?_
  refine SRun.ck tbok 2 ⟨45, [(5, vi (w64 (aB.X - aA.X))), (6, vi (w64 (aB.Y - aA.Y))), (28, vi (w64 (2 * x5))), (29, vi (w64 (aB.X - aA.X)))], []⟩ ?_
  obtain ⟨x6, hx6, h⟩ := bind_some h
  refine SRun.ls (xc ents146 (impl_abs_run (w64 (aB.X - aA.X)) _ hx6)) ?_
  refine ckn tbok 2 ⟨45, [(5, vi (w64 (aB.X - aA.X))), (6, vi (w64 (aB.Y - aA.Y))), (25, vb (decide ((w64 (2 * x5)) < x6)))], []⟩ ?_
  refine swp_cd h (fun h => ?_) fun h => ?_
  refine swp_reg ?_
  refine SRun.ck tbok 1 ⟨45, [(5, vi (w64 (aB.X - aA.X))), (6, vi 0)], []⟩ ?_
  refine SRun.nil ?_
  obtain rfl := inj h
  exact q_bn (q_j (Le.sub0))
  refine swp_skip ?_
  obtain rfl := inj h
  exact q_bn (q_j (Le.sub0))
  refine sr ?_
  refine SRun.ls (x_lstep_build (v := .agg [vi 5, vi 4, vi 3]) tbok rfl) ?_
  refine SRun.ls (x_lstep_build (v := .agg [vi 6, vi 0, vi 2]) tbok rfl) ?_
  refine SRun.ls (x_lstep_build (v := .agg [vi 7, vi 0, vi 1]) tbok rfl) ?_
  refine SRun.ls (x_lstep_build (v := .agg [vi 5, vi 4, vi 3, vi 6, vi 0, vi 2, vi 7, vi 0, vi 1]) tbok rfl) ?_
  refine ckn tbok 2 ⟨45, [(5, vi j1.1), (6, vi j1.2), (7, .ref 7 0)], [(7, .box [vi 5, vi 4, vi 3, vi 6, vi 0, vi 2, vi 7, vi 0, vi 1])]⟩ ?_
  refine swp_seq ?_
  refine swp_dr mixed ?_
  refine DGo.ck tbok false 1 ⟨45, [(5, vi j1.1), (7, .ref 7 0), (36, vi j1.2)], [(7, .box [vi 5, vi 4, vi 3, vi 6, vi 0, vi 2, vi 7, vi 0, vi 1])]⟩ ?_
  obtain ⟨x7, hx7, h⟩ := bind_some h
  refine DGo.step (xc ents166 (impl_sign_run j1.2 _ hx7)) ?_
  refine DGo.ck tbok false 2 ⟨45, [(7, .ref 7 0), (38, vi (w64 (x7 + 1))), (39, vi j1.1)], [(7, .box [vi 5, vi 4, vi 3, vi 6, vi 0, vi 2, vi 7, vi 0, vi 1])]⟩ ?_
  obtain ⟨x8, hx8, h⟩ := bind_some h
  refine DGo.step (xc ents166 (impl_sign_run j1.1 _ hx8)) ?_
  refine DGo.ck tbok false 1 ⟨45, [(7, .ref 7 0), (38, vi (w64 (x7 + 1))), (41, vi (w64 (x8 + 1)))], [(7, .box [vi 5, vi 4, vi 3, vi 6, vi 0, vi 2, vi 7, vi 0, vi 1])]⟩ ?_
  obtain ⟨x9, hx9, h⟩ := bind_some h
  refine DGo.step (lstep_indexA (d := 7) (q := 0) (n := 3) (e := 187) (m := 3) (k := .i64) (ti := ti188) (tj := ti187) tbok rfl hx9) ?_
  obtain ⟨x10, hx10, h⟩ := bind_some h
  refine DGo.step (lstep_indexA (d := 7) (q := (0 + (Int.toNat (w64 (x7 + 1))) * 3)) (n := 3) (e := 2) (m := 1) (k := .i64) (ti := ti187) (tj := ti2) tbok rfl hx10) ?_
  obtain ⟨x11, hx11, h⟩ := bind_some h
  refine DGo.step (lstep_load_sym (d := 7) (q := ((0 + (Int.toNat (w64 (x7 + 1))) * 3) + (Int.toNat (w64 (x8 + 1))) * 1)) (k := .i64) (ti := ti2) tbok rfl [5, 4, 3, 6, 0, 2, 7, 0, 1] hx11 (fun _ _ => rfl)) ?_
  refine DGo.ck tbok false 1 ⟨45, [(4, vi (pickI [5, 4, 3, 6, 0, 2, 7, 0, 1] ((0 + (Int.toNat (w64 (x7 + 1))) * 3) + (Int.toNat (w64 (x8 + 1))) * 1)))], []⟩ ?_
  refine DGo.nx ?_
  refine swp_ret ?_
  obtain rfl := inj h
  exact q_fr (f1 fv)
theorem ents145 : Ents Tryz.prog 145 := ents_of Tryz.func145 (by kernel_rfl) rfl
noncomputable def impl_Description_isFrom (aD : Description) (aA : Point) (aP : Point) : Option (Bool) :=
  ((impl_Description_steps aD).bind fun x1 => ((impl_squared aA aP).bind fun x2 => (((bif ((aP.X == aA.X) && (aP.Y == aA.Y)) then some true else ((impl_within (w64 (16 * x2)) (w64 ((w64 (9 * x1)) * x1)) (w64 ((w64 (25 * x1)) * x1))).bind fun x3 => some (!x3)))).bind fun (j4 : Bool) => (bif j4 then some false else ((impl_direction aA aP).bind fun x6 => some (((Int.tmod (w64 ((w64 (x6 - aD.Direction)) + 8)) 8) == 0) || (((Int.tmod (w64 ((w64 (x6 - aD.Direction)) + 8)) 8) == 1) || ((Int.tmod (w64 ((w64 (x6 - aD.Direction)) + 8)) 8) == 7))))))))
theorem impl_Description_isFrom_run (aD : Description) (aA : Point) (aP : Point) (r : Bool) (h : impl_Description_isFrom aD aA aP = some r) : SCall Tryz.prog 109 [.v (.agg (tc eDescription aD)), .v (.agg (tc ePoint aA)), .v (.agg (tc ePoint aP))] ⟨[.v (vb r)], [], false⟩ := by
  refine scall_in Tryz.func109 rfl [(.tmp 6)] rfl (fun r => ⟨[.v (vb r)], [], false⟩) (r := r) ?_
  unfold impl_Description_isFrom at h
  refine srk tbok ⟨50, [(3, .ref 3 0), (4, .ref 4 0), (5, .ref 5 0)], [(3, .box (tc eDescription aD)), (4, .box (tc ePoint aA)), (5, .box (tc ePoint aP))]⟩ ?_
  refine swp_seq ?_
  refine swp_dr mixed ?_
  refine DGo.ck tbok false 1 ⟨50, [(3, .ref 3 0), (4, .ref 4 0), (5, .ref 5 0), (10, .agg (tc eDescription aD))], [(3, .box (tc eDescription aD)), (4, .box (tc ePoint aA)), (5, .box (tc ePoint aP))]⟩ ?_
  obtain ⟨x1, hx1, h⟩ := bind_some h
  refine DGo.step (xc ents144 (impl_Description_steps_run aD _ hx1)) ?_
  refine DGo.ck tbok false 2 ⟨50, [(3, .ref 3 0), (4, .ref 4 0), (5, .ref 5 0), (11, vi x1), (12, .agg (tc ePoint aA)), (13, .agg (tc ePoint aP))], [(3, .box (tc eDescription aD)), (4, .box (tc ePoint aA)), (5, .box (tc ePoint aP))]⟩ ?_
  obtain ⟨x2, hx2, h⟩ := bind_some h
  refine DGo.step (xc ents108 (impl_squared_run aA aP _ hx2)) ?_
  refine DGo.ck tbok false 2 ⟨50, [(3, .ref 3 0), (4, .ref 4 0), (5, .ref 5 0), (7, vi x1), (8, vi x2)], [(3, .box (tc eDescription aD)), (4, .box (tc ePoint aA)), (5, .box (tc ePoint aP))]⟩ ?_
  refine DGo.nx ?_
  refine swp_seq ?_
  refine swp_seq ?_
  refine swp_regJ h (fun j4 => ⟨50, [(3, .ref 3 0), (4, .ref 4 0), (5, .ref 5 0), (31, vb j4)], [(3, .box (tc eDescription aD)), (4, .box (tc ePoint aA)), (5, .box (tc ePoint aP))]⟩) (fun v5 h => ?_) (fun j4 h => ?_)
  refine SRun.ck tbok 2 ⟨50, [(3, .ref 3 0), (4, .ref 4 0), (5, .ref 5 0), (7, vi x1), (8, vi x2), (15, .agg (tc ePoint aP)), (16, .agg (tc ePoint aA))], [(3, .box (tc eDescription aD)), (4, .box (tc ePoint aA)), (5, .box (tc ePoint aP))]⟩ ?_
  refine SRun.ls (x_lstep_eq tbok false (xs := [vi aP.X, vi aP.Y]) (ys := [vi aA.X, vi aA.Y]) (b := ((aP.X == aA.X) && (aP.Y == aA.Y))) rfl) ?_
  refine SRun.ck tbok 1 ⟨50, [(3, .ref 3 0), (4, .ref 4 0), (5, .ref 5 0), (7, vi x1), (8, vi x2), (18, vb ((aP.X == aA.X) && (aP.Y == aA.Y)))], [(3, .box (tc eDescription aD)), (4, .box (tc ePoint aA)), (5, .box (tc ePoint aP))]⟩ ?_
  refine SRun.cu [(18, fun b => b)] h (fun h => ?_) fun h => ?_
  refine SRun.ck tbok 13 ⟨50, [(3, .ref 3 0), (4, .ref 4 0), (5, .ref 5 0), (31, vb true)], [(3, .box (tc eDescription aD)), (4, .box (tc ePoint aA)), (5, .box (tc ePoint aP))]⟩ ?_
  refine SRun.nil ?_
  obtain rfl := inj h
  exact Le.sub0
  refine SRun.ck tbok 10 ⟨50, [(3, .ref 3 0), (4, .ref 4 0), (5, .ref 5 0), (18, vb false), (20, vi (w64 (16 * x2))), (24, vi (w64 ((w64 (9 * x1)) * x1))), (28, vi (w64 ((w64 (25 * x1)) * x1)))], [(3, .box (tc eDescription aD)), (4, .box (tc ePoint aA)), (5, .box (tc ePoint aP))]⟩ ?_
  obtain ⟨x3, hx3, h⟩ := bind_some h
  refine SRun.ls (xc ents135 (impl_within_run (w64 (16 * x2)) (w64 ((w64 (9 * x1)) * x1)) (w64 ((w64 (25 * x1)) * x1)) _ hx3)) ?_
  refine SRun.ck tbok 2 ⟨50, [(3, .ref 3 0), (4, .ref 4 0), (5, .ref 5 0), (31, vb (!x3))], [(3, .box (tc eDescription aD)), (4, .box (tc ePoint aA)), (5, .box (tc ePoint aP))]⟩ ?_
  refine SRun.nil ?_
  obtain rfl := inj h
  exact Le.sub0
  refine swp_cd h (fun h => ?_) fun h => ?_
  refine srk tbok ⟨50, [(6, vb false)], []⟩ ?_
  refine swp_ret ?_
  obtain rfl := inj h
  exact nx_r (q_fr (f1 fv))
  refine swp_skip ?_
  refine nx_n ?_
  refine swp_seq ?_
  refine swp_dr mixed ?_
  refine DGo.ck tbok false 2 ⟨50, [(3, .ref 3 0), (32, .agg (tc ePoint aA)), (33, .agg (tc ePoint aP))], [(3, .box (tc eDescription aD))]⟩ ?_
  obtain ⟨x6, hx6, h⟩ := bind_some h
  refine DGo.step (xc ents145 (impl_direction_run aA aP _ hx6)) ?_
  refine DGo.ck tbok false 6 ⟨50, [(9, vi (Int.tmod (w64 ((w64 (x6 - aD.Direction)) + 8)) 8))], []⟩ ?_
  refine DGo.nx ?_
  refine swp_seq ?_
  refine swp_regP ⟨50, [(6, vb (((Int.tmod (w64 ((w64 (x6 - aD.Direction)) + 8)) 8) == 0) || (((Int.tmod (w64 ((w64 (x6 - aD.Direction)) + 8)) 8) == 1) || ((Int.tmod (w64 ((w64 (x6 - aD.Direction)) + 8)) 8) == 7))))], []⟩ ?_ ?_
  refine SRun.ck tbok 3 ⟨50, [(9, vi (Int.tmod (w64 ((w64 (x6 - aD.Direction)) + 8)) 8)), (42, vb ((Int.tmod (w64 ((w64 (x6 - aD.Direction)) + 8)) 8) == 0))], []⟩ ?_
  generalize ((Int.tmod (w64 ((w64 (x6 - aD.Direction)) + 8)) 8) == 0) = bb
  cases bb
  refine SRun.ck tbok 4 ⟨50, [(9, vi (Int.tmod (w64 ((w64 (x6 - aD.Direction)) + 8)) 8)), (46, vb ((Int.tmod (w64 ((w64 (x6 - aD.Direction)) + 8)) 8) == 1))], []⟩ ?_
  generalize ((Int.tmod (w64 ((w64 (x6 - aD.Direction)) + 8)) 8) == 1) = bb
  cases bb
  refine SRun.ck tbok 4 ⟨50, [(6, vb ((Int.tmod (w64 ((w64 (x6 - aD.Direction)) + 8)) 8) == 7))], []⟩ ?_
  exact SRun.nil (Le.sub0)
  refine SRun.ck tbok 4 ⟨50, [(6, vb true)], []⟩ ?_
  exact SRun.nil (Le.sub0)
  refine SRun.ck tbok 8 ⟨50, [(6, vb true)], []⟩ ?_
  exact SRun.nil (Le.sub0)
  refine swp_ret ?_
  obtain rfl := inj h
  exact q_fr (f1 fv)
theorem ents109 : Ents Tryz.prog 109 := ents_of Tryz.func109 (by kernel_rfl) rfl
noncomputable def impl_turn (aA : Point) (aB : Point) (aC : Point) : Option (Int) :=
  some (w64 ((w64 ((w64 (aB.X - aA.X)) * (w64 (aC.Y - aA.Y)))) - (w64 ((w64 (aB.Y - aA.Y)) * (w64 (aC.X - aA.X))))))
theorem impl_turn_run (aA : Point) (aB : Point) (aC : Point) (r : Int) (h : impl_turn aA aB aC = some r) : SCall Tryz.prog 147 [.v (.agg (tc ePoint aA)), .v (.agg (tc ePoint aB)), .v (.agg (tc ePoint aC))] ⟨[.v (vi r)], [], false⟩ := by
  refine scall_in Tryz.func147 rfl [(.tmp 6)] rfl (fun r => ⟨[.v (vi r)], [], false⟩) (r := r) ?_
  unfold impl_turn at h
  refine srk tbok ⟨30, [(3, .ref 3 0), (4, .ref 4 0), (5, .ref 5 0)], [(3, .box (tc ePoint aA)), (4, .box (tc ePoint aB)), (5, .box (tc ePoint aC))]⟩ ?_
  refine srk tbok ⟨30, [(6, vi (w64 ((w64 ((w64 (aB.X - aA.X)) * (w64 (aC.Y - aA.Y)))) - (w64 ((w64 (aB.Y - aA.Y)) * (w64 (aC.X - aA.X)))))))], []⟩ ?_
  refine swp_ret ?_
  obtain rfl := inj h
  exact q_fr (f1 fv)
theorem ents147 : Ents Tryz.prog 147 := ents_of Tryz.func147 (by kernel_rfl) rfl
noncomputable def impl_isBetween (aA : Point) (aB : Point) (aP : Point) : Option (Bool) :=
  (bif ((aA.X == aB.X) && (aA.Y == aB.Y)) then some ((aP.X == aA.X) && (aP.Y == aA.Y)) else ((((impl_squared aA aB).bind fun x1 => ((impl_within (w64 ((w64 ((w64 (aP.X - aA.X)) * (w64 (aB.X - aA.X)))) + (w64 ((w64 (aP.Y - aA.Y)) * (w64 (aB.Y - aA.Y)))))) 0 x1).bind fun x2 => (bif x2 then ((impl_turn aA aB aP).bind fun x3 => ((impl_abs x3).bind fun x4 => ((impl_squared aA aB).bind fun x5 => some (decide ((w64 (4 * x4)) ≤ x5))))) else some false)))).bind fun (j6 : Bool) => some j6))
theorem impl_isBetween_run (aA : Point) (aB : Point) (aP : Point) (r : Bool) (h : impl_isBetween aA aB aP = some r) : SCall Tryz.prog 110 [.v (.agg (tc ePoint aA)), .v (.agg (tc ePoint aB)), .v (.agg (tc ePoint aP))] ⟨[.v (vb r)], [], false⟩ := by
  refine scall_in Tryz.func110 rfl [(.tmp 6)] rfl (fun r => ⟨[.v (vb r)], [], false⟩) (r := r) ?_
  unfold impl_isBetween at h
  refine srk tbok ⟨54, [(3, .ref 3 0), (4, .ref 4 0), (5, .ref 5 0)], [(3, .box (tc ePoint aA)), (4, .box (tc ePoint aB)), (5, .box (tc ePoint aP))]⟩ ?_
  refine swp_seq ?_
  refine sr ?_
  refine SRun.ck tbok 2 ⟨54, [(3, .ref 3 0), (4, .ref 4 0), (5, .ref 5 0), (8, .agg (tc ePoint aA)), (9, .agg (tc ePoint aB))], [(3, .box (tc ePoint aA)), (4, .box (tc ePoint aB)), (5, .box (tc ePoint aP))]⟩ ?_
  refine SRun.ls (x_lstep_eq tbok false (xs := [vi aA.X, vi aA.Y]) (ys := [vi aB.X, vi aB.Y]) (b := ((aA.X == aB.X) && (aA.Y == aB.Y))) rfl) ?_
  refine SRun.nx ?_
  refine swp_cd h (fun h => ?_) fun h => ?_
  refine sr ?_
  refine SRun.ck tbok 2 ⟨54, [(11, .agg (tc ePoint aP)), (12, .agg (tc ePoint aA))], []⟩ ?_
  refine SRun.ls (x_lstep_eq tbok false (xs := [vi aP.X, vi aP.Y]) (ys := [vi aA.X, vi aA.Y]) (b := ((aP.X == aA.X) && (aP.Y == aA.Y))) rfl) ?_
  refine ckn tbok 1 ⟨54, [(6, vb ((aP.X == aA.X) && (aP.Y == aA.Y)))], []⟩ ?_
  refine swp_ret ?_
  obtain rfl := inj h
  exact nx_r (q_fr (f1 fv))
  refine swp_skip ?_
  refine nx_n ?_
  refine srk tbok ⟨54, [(3, .ref 3 0), (4, .ref 4 0), (5, .ref 5 0), (7, vi (w64 ((w64 ((w64 (aP.X - aA.X)) * (w64 (aB.X - aA.X)))) + (w64 ((w64 (aP.Y - aA.Y)) * (w64 (aB.Y - aA.Y)))))))], [(3, .box (tc ePoint aA)), (4, .box (tc ePoint aB)), (5, .box (tc ePoint aP))]⟩ ?_
  refine swp_seq ?_
  refine swp_drJ mixed h (fun j6 => ⟨54, [(6, vb j6)], []⟩) (fun v7 h => ?_) (fun j6 h => ?_)
  refine DGo.ck tbok false 3 ⟨54, [(3, .ref 3 0), (4, .ref 4 0), (5, .ref 5 0), (37, vi (w64 ((w64 ((w64 (aP.X - aA.X)) * (w64 (aB.X - aA.X)))) + (w64 ((w64 (aP.Y - aA.Y)) * (w64 (aB.Y - aA.Y))))))), (38, .agg (tc ePoint aA)), (39, .agg (tc ePoint aB))], [(3, .box (tc ePoint aA)), (4, .box (tc ePoint aB)), (5, .box (tc ePoint aP))]⟩ ?_
  obtain ⟨x1, hx1, h⟩ := bind_some h
  refine DGo.step (xc ents108 (impl_squared_run aA aB _ hx1)) ?_
  obtain ⟨x2, hx2, h⟩ := bind_some h
  refine DGo.step (xc ents135 (impl_within_run (w64 ((w64 ((w64 (aP.X - aA.X)) * (w64 (aB.X - aA.X)))) + (w64 ((w64 (aP.Y - aA.Y)) * (w64 (aB.Y - aA.Y)))))) 0 x1 _ hx2)) ?_
  refine DGo.ck tbok false 1 ⟨54, [(3, .ref 3 0), (4, .ref 4 0), (5, .ref 5 0), (42, vb x2)], [(3, .box (tc ePoint aA)), (4, .box (tc ePoint aB)), (5, .box (tc ePoint aP))]⟩ ?_
  refine DGo.cu [(42, fun b => b)] h (fun h => ?_) fun h => ?_
  refine DGo.ck tbok false 3 ⟨54, [(3, .ref 3 0), (4, .ref 4 0), (42, vb true), (43, .agg (tc ePoint aA)), (44, .agg (tc ePoint aB)), (45, .agg (tc ePoint aP))], [(3, .box (tc ePoint aA)), (4, .box (tc ePoint aB))]⟩ ?_
  obtain ⟨x3, hx3, h⟩ := bind_some h
  refine DGo.step (xc ents147 (impl_turn_run aA aB aP _ hx3)) ?_
  obtain ⟨x4, hx4, h⟩ := bind_some h
  refine DGo.step (xc ents146 (impl_abs_run x3 _ hx4)) ?_
  refine DGo.ck tbok false 3 ⟨54, [(42, vb true), (48, vi (w64 (4 * x4))), (49, .agg (tc ePoint aA)), (50, .agg (tc ePoint aB))], []⟩ ?_
  obtain ⟨x5, hx5, h⟩ := bind_some h
  refine DGo.step (xc ents108 (impl_squared_run aA aB _ hx5)) ?_
  refine DGo.ck tbok false 3 ⟨54, [(6, vb (decide ((w64 (4 * x4)) ≤ x5)))], []⟩ ?_
  refine DGo.nil (by kernel_rfl) ?_
  obtain rfl := inj h
  exact Le.sub0
  refine DGo.ck tbok false 12 ⟨54, [(6, vb false)], []⟩ ?_
  refine DGo.nil (by kernel_rfl) ?_
  obtain rfl := inj h
  exact Le.sub0
  refine swp_ret ?_
  obtain rfl := inj h
  exact q_fr (f1 fv)
theorem ents110 : Ents Tryz.prog 110 := ents_of Tryz.func110 (by kernel_rfl) rfl
noncomputable def impl_satisfies (aList : (List Site)) (aD : Description) (aP : Point) : Option (Bool) :=
  ((impl_findSite aList aD.A).bind fun x1 => (((bif (aD.Kind == 0) then some (.inr ((aP.X == x1.1.X) && (aP.Y == x1.1.Y))) else (bif (aD.Kind == 1) then ((impl_squared x1.1 aP).bind fun x4 => some (.inr (decide (x4 ≤ 64)))) else (bif (aD.Kind == 2) then ((impl_Description_isFrom aD x1.1 aP).bind fun x5 => some (.inr x5)) else some (.inl ()))))).bind (Sum.elim (fun (_ : Unit) => ((impl_findSite aList aD.B).bind fun x6 => ((impl_isBetween x1.1 x6.1 aP).bind fun x7 => some x7))) some)))
theorem impl_satisfies_run (aList : (List Site)) (aD : Description) (aP : Point) (r : Bool) (h : impl_satisfies aList aD aP = some r) : SCall Tryz.prog 60 [.v (vl eSite aList), .v (.agg (tc eDescription aD)), .v (.agg (tc ePoint aP))] ⟨[.v (vb r)], [], false⟩ := by
  refine scall_in Tryz.func60 rfl [(.tmp 6)] rfl (fun r => ⟨[.v (vb r)], [], false⟩) (r := r) ?_
  unfold impl_satisfies at h
  refine srk tbok ⟨48, [(0, vl eSite aList), (4, .ref 4 0), (5, .ref 5 0)], [(4, .box (tc eDescription aD)), (5, .box (tc ePoint aP))]⟩ ?_
  refine sr ?_
  refine SRun.ck tbok 3 ⟨48, [(0, vl eSite aList), (4, .ref 4 0), (5, .ref 5 0), (12, vl eSite aList), (14, vs aD.A)], [(4, .box (tc eDescription aD)), (5, .box (tc ePoint aP))]⟩ ?_
  obtain ⟨x1, hx1, h⟩ := bind_some h
  refine SRun.ls (xc ents105 (impl_findSite_run aList aD.A _ hx1)) ?_
  refine ckn tbok 6 ⟨48, [(0, vl eSite aList), (4, .ref 4 0), (5, .ref 5 0), (7, .ref 7 0)], [(4, .box (tc eDescription aD)), (5, .box (tc ePoint aP)), (7, .box (tc ePoint x1.1))]⟩ ?_
  refine swp_seq ?_
  refine srk tbok ⟨48, [(0, vl eSite aList), (4, .ref 4 0), (5, .ref 5 0), (7, .ref 7 0), (19, vi aD.Kind)], [(4, .box (tc eDescription aD)), (5, .box (tc ePoint aP)), (7, .box (tc ePoint x1.1))]⟩ ?_
  refine swp_seqE (r := r) h (fun j2 => ⟨48, [(0, vl eSite aList), (4, .ref 4 0), (5, .ref 5 0), (7, .ref 7 0)], [(4, .box (tc eDescription aD)), (5, .box (tc ePoint aP)), (7, .box (tc ePoint x1.1))]⟩) (fun v3 h => ?_) (fun j2 h => ?_)
  refine swp_blk (a := v3) ?_
  refine srk tbok ⟨48, [(0, vl eSite aList), (4, .ref 4 0), (5, .ref 5 0), (7, .ref 7 0), (19, vi aD.Kind), (20, vb (aD.Kind == 0))], [(4, .box (tc eDescription aD)), (5, .box (tc ePoint aP)), (7, .box (tc ePoint x1.1))]⟩ ?_
  refine swp_cd h (fun h => ?_) fun h => ?_
  refine sr ?_
  refine SRun.ck tbok 2 ⟨48, [(22, .agg (tc ePoint aP)), (23, .agg (tc ePoint x1.1))], []⟩ ?_
  refine SRun.ls (x_lstep_eq tbok false (xs := [vi aP.X, vi aP.Y]) (ys := [vi x1.1.X, vi x1.1.Y]) (b := ((aP.X == x1.1.X) && (aP.Y == x1.1.Y))) rfl) ?_
  refine ckn tbok 1 ⟨48, [(6, vb ((aP.X == x1.1.X) && (aP.Y == x1.1.Y)))], []⟩ ?_
  refine swp_ret ?_
  obtain rfl := inj h
  exact q_br (q_rr (q_fr (f1 fv)))
  refine srk tbok ⟨48, [(0, vl eSite aList), (4, .ref 4 0), (5, .ref 5 0), (7, .ref 7 0), (19, vi aD.Kind), (25, vb (aD.Kind == 1))], [(4, .box (tc eDescription aD)), (5, .box (tc ePoint aP)), (7, .box (tc ePoint x1.1))]⟩ ?_
  refine swp_cd h (fun h => ?_) fun h => ?_
  refine sr ?_
  refine SRun.ck tbok 2 ⟨48, [(27, .agg (tc ePoint x1.1)), (28, .agg (tc ePoint aP))], []⟩ ?_
  obtain ⟨x4, hx4, h⟩ := bind_some h
  refine SRun.ls (xc ents108 (impl_squared_run x1.1 aP _ hx4)) ?_
  refine ckn tbok 2 ⟨48, [(6, vb (decide (x4 ≤ 64)))], []⟩ ?_
  refine swp_ret ?_
  obtain rfl := inj h
  exact q_br (q_rr (q_fr (f1 fv)))
  refine srk tbok ⟨48, [(0, vl eSite aList), (4, .ref 4 0), (5, .ref 5 0), (7, .ref 7 0), (31, vb (aD.Kind == 2))], [(4, .box (tc eDescription aD)), (5, .box (tc ePoint aP)), (7, .box (tc ePoint x1.1))]⟩ ?_
  refine swp_cd h (fun h => ?_) fun h => ?_
  refine sr ?_
  refine SRun.ck tbok 3 ⟨48, [(33, .agg (tc eDescription aD)), (34, .agg (tc ePoint x1.1)), (35, .agg (tc ePoint aP))], []⟩ ?_
  obtain ⟨x5, hx5, h⟩ := bind_some h
  refine SRun.ls (xc ents109 (impl_Description_isFrom_run aD x1.1 aP _ hx5)) ?_
  refine ckn tbok 1 ⟨48, [(6, vb x5)], []⟩ ?_
  refine swp_ret ?_
  obtain rfl := inj h
  exact q_br (q_rr (q_fr (f1 fv)))
  refine swp_skip ?_
  obtain rfl := inj h
  exact q_bn (q_l (Le.sub0))
  refine sr ?_
  refine SRun.ck tbok 3 ⟨48, [(5, .ref 5 0), (7, .ref 7 0), (38, vl eSite aList), (40, vs aD.B)], [(5, .box (tc ePoint aP)), (7, .box (tc ePoint x1.1))]⟩ ?_
  obtain ⟨x6, hx6, h⟩ := bind_some h
  refine SRun.ls (xc ents105 (impl_findSite_run aList aD.B _ hx6)) ?_
  refine ckn tbok 6 ⟨48, [(5, .ref 5 0), (7, .ref 7 0), (9, .ref 9 0)], [(5, .box (tc ePoint aP)), (7, .box (tc ePoint x1.1)), (9, .box (tc ePoint x6.1))]⟩ ?_
  refine sr ?_
  refine SRun.ck tbok 3 ⟨48, [(44, .agg (tc ePoint x1.1)), (45, .agg (tc ePoint x6.1)), (46, .agg (tc ePoint aP))], []⟩ ?_
  obtain ⟨x7, hx7, h⟩ := bind_some h
  refine SRun.ls (xc ents110 (impl_isBetween_run x1.1 x6.1 aP _ hx7)) ?_
  refine ckn tbok 1 ⟨48, [(6, vb x7)], []⟩ ?_
  refine swp_ret ?_
  obtain rfl := inj h
  exact q_fr (f1 fv)
theorem ents60 : Ents Tryz.prog 60 := ents_of Tryz.func60 (by kernel_rfl) rfl
noncomputable def impl_countSatisfied (aList : (List Site)) (aDescriptions : (List Description)) (aP : Point) : Option (Int) :=
  (((forS (aDescriptions.length : Int) (fun (i3 : Int) (s3 : Int) => ((at' aDescriptions i3).bind fun x7 => ((impl_satisfies aList x7 aP).bind fun x8 => (bif x8 then some (w64 (s3 + 1)) else some s3)))) (fun (s3 : Int) => s3) 0 0)).bind fun (j1 : Int) => some j1)
theorem impl_countSatisfied_run (aList : (List Site)) (aDescriptions : (List Description)) (aP : Point) (r : Int) (h : impl_countSatisfied aList aDescriptions aP = some r) : SCall Tryz.prog 132 [.v (vl eSite aList), .v (vl eDescription aDescriptions), .v (.agg (tc ePoint aP))] ⟨[.v (vi r)], [], false⟩ := by
  refine scall_in Tryz.func132 rfl [(.tmp 6)] rfl (fun r => ⟨[.v (vi r)], [], false⟩) (r := r) ?_
  unfold impl_countSatisfied at h
  refine srk tbok ⟨24, [(0, vl eSite aList), (1, vl eDescription aDescriptions), (5, .ref 5 0)], [(5, .box (tc ePoint aP))]⟩ ?_
  refine srk tbok ⟨24, [(0, vl eSite aList), (1, vl eDescription aDescriptions), (5, .ref 5 0), (7, vi 0)], [(5, .box (tc ePoint aP))]⟩ ?_
  refine swp_seq ?_
  refine srk tbok ⟨24, [(0, vl eSite aList), (5, .ref 5 0), (7, vi 0), (10, vl eDescription aDescriptions), (11, vi (aDescriptions.length : Int)), (12, vi 0)], [(5, .box (tc ePoint aP))]⟩ ?_
  refine swp_seqJ h (fun j1 => ⟨24, [(7, vi j1)], []⟩) (fun v2 h => ?_) (fun j1 h => ?_)
  refine swp_blk (a := v2) ?_
  refine swp_lpL (r := v2) (s := (0, 0)) _ (fun s3 => ⟨24, [(0, vl eSite aList), (5, .ref 5 0), (7, vi s3.2), (10, vl eDescription aDescriptions), (11, vi (aDescriptions.length : Int)), (12, vi s3.1)], [(5, .box (tc ePoint aP))]⟩) _ (Le.sub0) h (fun s3 v4 h => ?_)
  refine srk tbok ⟨24, [(0, vl eSite aList), (5, .ref 5 0), (7, vi s3.2), (10, vl eDescription aDescriptions), (11, vi (aDescriptions.length : Int)), (12, vi s3.1), (13, vb (decide (s3.1 < (aDescriptions.length : Int))))], [(5, .box (tc ePoint aP))]⟩ ?_
  refine swp_seq ?_
  refine swp_cd h (fun h => ?_) fun h => ?_
  refine swp_skip ?_
  refine nx_n ?_
  refine swp_seq ?_
  refine swp_seqJ h (fun j5 => ⟨24, [(0, vl eSite aList), (5, .ref 5 0), (7, vi j5), (10, vl eDescription aDescriptions), (11, vi (aDescriptions.length : Int)), (12, vi s3.1)], [(5, .box (tc ePoint aP))]⟩) (fun v6 h => ?_) (fun j5 h => ?_)
  refine swp_blk (a := v6) ?_
  refine sr ?_
  obtain ⟨x7, hx7, h⟩ := bind_some h
  refine SRun.ls (x_index (L := aDescriptions) (f := eDescription) (ti := ti35) (tj := ti84) (e := 84) (k := .i64) tbok rfl hx7) ?_
  refine ckn tbok 3 ⟨24, [(0, vl eSite aList), (5, .ref 5 0), (7, vi s3.2), (9, .ref 9 0), (10, vl eDescription aDescriptions), (11, vi (aDescriptions.length : Int)), (12, vi s3.1)], [(5, .box (tc ePoint aP)), (9, .box (tc eDescription x7))]⟩ ?_
  refine sr ?_
  refine SRun.ck tbok 3 ⟨24, [(0, vl eSite aList), (5, .ref 5 0), (7, vi s3.2), (10, vl eDescription aDescriptions), (11, vi (aDescriptions.length : Int)), (12, vi s3.1), (16, vl eSite aList), (17, .agg (tc eDescription x7)), (18, .agg (tc ePoint aP))], [(5, .box (tc ePoint aP))]⟩ ?_
  obtain ⟨x8, hx8, h⟩ := bind_some h
  refine SRun.ls (xc ents60 (impl_satisfies_run aList x7 aP _ hx8)) ?_
  refine SRun.nx ?_
  refine swp_cd h (fun h => ?_) fun h => ?_
  refine swp_reg ?_
  refine SRun.ck tbok 3 ⟨24, [(0, vl eSite aList), (5, .ref 5 0), (7, vi (w64 (s3.2 + 1))), (10, vl eDescription aDescriptions), (11, vi (aDescriptions.length : Int)), (12, vi s3.1)], [(5, .box (tc ePoint aP))]⟩ ?_
  refine SRun.nil ?_
  obtain rfl := inj h
  exact q_bn (q_j (Le.sub0))
  refine swp_skip ?_
  obtain rfl := inj h
  exact q_bn (q_j (Le.sub0))
  refine swp_reg ?_
  refine SRun.ck tbok 2 ⟨24, [(0, vl eSite aList), (5, .ref 5 0), (7, vi j5), (10, vl eDescription aDescriptions), (11, vi (aDescriptions.length : Int)), (12, vi (w64 (s3.1 + 1)))], [(5, .box (tc ePoint aP))]⟩ ?_
  refine SRun.nil ?_
  obtain rfl := inj h
  exact q_l (Le.sub0)
  refine swp_exit ?_
  obtain rfl := inj h
  exact nx_e (q_re (q_bh (q_j (Le.sub0))))
  refine srk tbok ⟨24, [(6, vi j1)], []⟩ ?_
  refine swp_ret ?_
  obtain rfl := inj h
  exact q_fr (f1 fv)
theorem ents132 : Ents Tryz.prog 132 := ents_of Tryz.func132 (by kernel_rfl) rfl
noncomputable def impl_question_answer (aQ : question) (aC : Candidate) : Option (Answer) :=
  ((impl_phraseDistance aQ.text aC.Text).bind fun x1 => ((impl_countSatisfied aQ.sites aQ.descriptions aC.At).bind fun x2 => some (Answer.mk aC.Code x1 x2)))
theorem impl_question_answer_run (aQ : question) (aC : Candidate) (r : Answer) (h : impl_question_answer aQ aC = some r) : SCall Tryz.prog 83 [.v (.agg (tc equestion aQ)), .v (.agg (tc eCandidate aC))] ⟨[.v (.agg (tc eAnswer r))], [], false⟩ := by
  refine scall_in Tryz.func83 rfl [(.cell 4 59)] rfl (fun r => ⟨[.v (.agg (tc eAnswer r))], [], false⟩) (r := r) ?_
  unfold impl_question_answer at h
  refine srk tbok ⟨20, [(2, .ref 2 0), (3, .ref 3 0), (4, .ref 4 0)], [(2, .box (tc equestion aQ)), (3, .box (tc eCandidate aC)), (4, .box [vs (ByteArray.mk #[]), vi 0, vi 0])]⟩ ?_
  refine swp_seq ?_
  refine swp_dr mixed ?_
  refine DGo.ck tbok false 6 ⟨20, [(2, .ref 2 0), (3, .ref 3 0), (4, .ref 4 0), (6, vs aC.Code), (8, vs aQ.text), (10, vs aC.Text)], [(2, .box (tc equestion aQ)), (3, .box (tc eCandidate aC)), (4, .box [vs (ByteArray.mk #[]), vi 0, vi 0])]⟩ ?_
  obtain ⟨x1, hx1, h⟩ := bind_some h
  refine DGo.step (xc ents75 (impl_phraseDistance_run aQ.text aC.Text _ hx1)) ?_
  refine DGo.ck tbok false 6 ⟨20, [(4, .ref 4 0), (6, vs aC.Code), (11, vi x1), (13, vl eSite aQ.sites), (15, vl eDescription aQ.descriptions), (17, .agg (tc ePoint aC.At))], [(4, .box [vs (ByteArray.mk #[]), vi 0, vi 0])]⟩ ?_
  obtain ⟨x2, hx2, h⟩ := bind_some h
  refine DGo.step (xc ents132 (impl_countSatisfied_run aQ.sites aQ.descriptions aC.At _ hx2)) ?_
  refine DGo.step (x_lstep_build (v := .agg [vs aC.Code, vi x1, vi x2]) tbok rfl) ?_
  refine DGo.seq (by kernel_rfl) (by kernel_rfl) ?_
  refine ckn tbok 1 ⟨20, [(4, .ref 4 0)], [(4, .box [vs aC.Code, vi x1, vi x2])]⟩ ?_
  refine swp_ret ?_
  obtain rfl := inj h
  exact q_fr (f1 (fc tbok))
theorem ents83 : Ents Tryz.prog 83 := ents_of Tryz.func83 (by kernel_rfl) rfl
noncomputable def bits_Len32 (aX : Int) : Option (Int) :=
  (((bif (decide (aX ≥ 65536)) then some ((Int.fdiv aX (2 ^ 16)), 16) else some (aX, 0))).bind fun (j1 : Int × Int) => (((bif (decide (j1.1 ≥ 256)) then some ((Int.fdiv j1.1 (2 ^ 8)), (w64 (j1.2 + 8))) else some (j1.1, j1.2))).bind fun (j3 : Int × Int) => ((byte' (ByteArray.mk #[0, 1, 2, 2, 3, 3, 3, 3, 4, 4, 4, 4, 4, 4, 4, 4, 5, 5, 5, 5, 5, 5, 5, 5, 5, 5, 5, 5, 5, 5, 5, 5, 6, 6, 6, 6, 6, 6, 6, 6, 6, 6, 6, 6, 6, 6, 6, 6, 6, 6, 6, 6, 6, 6, 6, 6, 6, 6, 6, 6, 6, 6, 6, 6, 7, 7, 7, 7, 7, 7, 7, 7, 7, 7, 7, 7, 7, 7, 7, 7, 7, 7, 7, 7, 7, 7, 7, 7, 7, 7, 7, 7, 7, 7, 7, 7, 7, 7, 7, 7, 7, 7, 7, 7, 7, 7, 7, 7, 7, 7, 7, 7, 7, 7, 7, 7, 7, 7, 7, 7, 7, 7, 7, 7, 7, 7, 7, 7, 8, 8, 8, 8, 8, 8, 8, 8, 8, 8, 8, 8, 8, 8, 8, 8, 8, 8, 8, 8, 8, 8, 8, 8, 8, 8, 8, 8, 8, 8, 8, 8, 8, 8, 8, 8, 8, 8, 8, 8, 8, 8, 8, 8, 8, 8, 8, 8, 8, 8, 8, 8, 8, 8, 8, 8, 8, 8, 8, 8, 8, 8, 8, 8, 8, 8, 8, 8, 8, 8, 8, 8, 8, 8, 8, 8, 8, 8, 8, 8, 8, 8, 8, 8, 8, 8, 8, 8, 8, 8, 8, 8, 8, 8, 8, 8, 8, 8, 8, 8, 8, 8, 8, 8, 8, 8, 8, 8, 8, 8, 8, 8, 8, 8, 8, 8, 8, 8, 8, 8, 8, 8, 8, 8, 8, 8, 8, 8]) (IntKind.wrap .u8 j3.1)).bind fun x5 => some (w64 (j3.2 + (w64 x5))))))
theorem bits_Len32_run (aX : Int) (r : Int) (h : bits_Len32 aX = some r) : SCall Tryz.prog 178 [.v (.tr (.int .u32 aX))] ⟨[.v (vi r)], [], false⟩ := by
  refine scall_in Tryz.func178 rfl [(.tmp 2)] rfl (fun r => ⟨[.v (vi r)], [], false⟩) (r := r) ?_
  unfold bits_Len32 at h
  refine srk tbok ⟨19, [(0, .tr (.int .u32 aX)), (2, vi 0)], []⟩ ?_
  refine swp_seq ?_
  refine srk tbok ⟨19, [(0, .tr (.int .u32 aX)), (2, vi 0), (4, vb (decide (aX ≥ 65536)))], []⟩ ?_
  refine swp_seqJ h (fun j1 => ⟨19, [(0, .tr (.int .u32 j1.1)), (2, vi j1.2)], []⟩) (fun v2 h => ?_) (fun j1 h => ?_)
  refine swp_cd h (fun h => ?_) fun h => ?_
  refine srk tbok ⟨19, [(0, .tr (.int .u32 (Int.fdiv aX (2 ^ 16))))], []⟩ ?_
  refine swp_reg ?_
  refine SRun.ck tbok 1 ⟨19, [(0, .tr (.int .u32 (Int.fdiv aX (2 ^ 16)))), (2, vi 16)], []⟩ ?_
  refine SRun.nil ?_
  obtain rfl := inj h
  exact q_j (Le.sub0)
  refine swp_skip ?_
  obtain rfl := inj h
  exact q_j (Le.sub0)
  refine swp_seq ?_
  refine srk tbok ⟨19, [(0, .tr (.int .u32 j1.1)), (2, vi j1.2), (8, vb (decide (j1.1 ≥ 256)))], []⟩ ?_
  refine swp_seqJ h (fun j3 => ⟨19, [(0, .tr (.int .u32 j3.1)), (2, vi j3.2)], []⟩) (fun v4 h => ?_) (fun j3 h => ?_)
  refine swp_cd h (fun h => ?_) fun h => ?_
  refine srk tbok ⟨19, [(0, .tr (.int .u32 (Int.fdiv j1.1 (2 ^ 8)))), (2, vi j1.2)], []⟩ ?_
  refine swp_reg ?_
  refine SRun.ck tbok 3 ⟨19, [(0, .tr (.int .u32 (Int.fdiv j1.1 (2 ^ 8)))), (2, vi (w64 (j1.2 + 8)))], []⟩ ?_
  refine SRun.nil ?_
  obtain rfl := inj h
  exact q_j (Le.sub0)
  refine swp_skip ?_
  obtain rfl := inj h
  exact q_j (Le.sub0)
  refine sr ?_
  refine SRun.ck tbok 3 ⟨19, [(13, vi j3.2), (15, .tr (.int .u8 (IntKind.wrap .u8 j3.1)))], []⟩ ?_
  obtain ⟨x5, hx5, h⟩ := bind_some h
  refine SRun.ls (x_byte (ti := ti9) (k := .u8) hx5 tbok rfl) ?_
  refine ckn tbok 3 ⟨19, [(2, vi (w64 (j3.2 + (w64 x5))))], []⟩ ?_
  refine swp_ret ?_
  obtain rfl := inj h
  exact q_fr (f1 fv)
theorem ents178 : Ents Tryz.prog 178 := ents_of Tryz.func178 (by kernel_rfl) rfl
noncomputable def bits_Len64 (aX : Int) : Option (Int) :=
  (((bif (decide (aX ≥ 4294967296)) then some ((Int.fdiv aX (2 ^ 32)), 32) else some (aX, 0))).bind fun (j1 : Int × Int) => (((bif (decide (j1.1 ≥ 65536)) then some ((Int.fdiv j1.1 (2 ^ 16)), (w64 (j1.2 + 16))) else some (j1.1, j1.2))).bind fun (j3 : Int × Int) => (((bif (decide (j3.1 ≥ 256)) then some ((Int.fdiv j3.1 (2 ^ 8)), (w64 (j3.2 + 8))) else some (j3.1, j3.2))).bind fun (j5 : Int × Int) => ((byte' (ByteArray.mk #[0, 1, 2, 2, 3, 3, 3, 3, 4, 4, 4, 4, 4, 4, 4, 4, 5, 5, 5, 5, 5, 5, 5, 5, 5, 5, 5, 5, 5, 5, 5, 5, 6, 6, 6, 6, 6, 6, 6, 6, 6, 6, 6, 6, 6, 6, 6, 6, 6, 6, 6, 6, 6, 6, 6, 6, 6, 6, 6, 6, 6, 6, 6, 6, 7, 7, 7, 7, 7, 7, 7, 7, 7, 7, 7, 7, 7, 7, 7, 7, 7, 7, 7, 7, 7, 7, 7, 7, 7, 7, 7, 7, 7, 7, 7, 7, 7, 7, 7, 7, 7, 7, 7, 7, 7, 7, 7, 7, 7, 7, 7, 7, 7, 7, 7, 7, 7, 7, 7, 7, 7, 7, 7, 7, 7, 7, 7, 7, 8, 8, 8, 8, 8, 8, 8, 8, 8, 8, 8, 8, 8, 8, 8, 8, 8, 8, 8, 8, 8, 8, 8, 8, 8, 8, 8, 8, 8, 8, 8, 8, 8, 8, 8, 8, 8, 8, 8, 8, 8, 8, 8, 8, 8, 8, 8, 8, 8, 8, 8, 8, 8, 8, 8, 8, 8, 8, 8, 8, 8, 8, 8, 8, 8, 8, 8, 8, 8, 8, 8, 8, 8, 8, 8, 8, 8, 8, 8, 8, 8, 8, 8, 8, 8, 8, 8, 8, 8, 8, 8, 8, 8, 8, 8, 8, 8, 8, 8, 8, 8, 8, 8, 8, 8, 8, 8, 8, 8, 8, 8, 8, 8, 8, 8, 8, 8, 8, 8, 8, 8, 8, 8, 8, 8, 8, 8, 8]) (IntKind.wrap .u8 j5.1)).bind fun x7 => some (w64 (j5.2 + (w64 x7)))))))
theorem bits_Len64_run (aX : Int) (r : Int) (h : bits_Len64 aX = some r) : SCall Tryz.prog 179 [.v (.tr (.int .u64 aX))] ⟨[.v (vi r)], [], false⟩ := by
  refine scall_in Tryz.func179 rfl [(.tmp 2)] rfl (fun r => ⟨[.v (vi r)], [], false⟩) (r := r) ?_
  unfold bits_Len64 at h
  refine srk tbok ⟨25, [(0, .tr (.int .u64 aX)), (2, vi 0)], []⟩ ?_
  refine swp_seq ?_
  refine srk tbok ⟨25, [(0, .tr (.int .u64 aX)), (2, vi 0), (4, vb (decide (aX ≥ 4294967296)))], []⟩ ?_
  refine swp_seqJ h (fun j1 => ⟨25, [(0, .tr (.int .u64 j1.1)), (2, vi j1.2)], []⟩) (fun v2 h => ?_) (fun j1 h => ?_)
  refine swp_cd h (fun h => ?_) fun h => ?_
  refine srk tbok ⟨25, [(0, .tr (.int .u64 (Int.fdiv aX (2 ^ 32))))], []⟩ ?_
  refine swp_reg ?_
  refine SRun.ck tbok 1 ⟨25, [(0, .tr (.int .u64 (Int.fdiv aX (2 ^ 32)))), (2, vi 32)], []⟩ ?_
  refine SRun.nil ?_
  obtain rfl := inj h
  exact q_j (Le.sub0)
  refine swp_skip ?_
  obtain rfl := inj h
  exact q_j (Le.sub0)
  refine swp_seq ?_
  refine srk tbok ⟨25, [(0, .tr (.int .u64 j1.1)), (2, vi j1.2), (8, vb (decide (j1.1 ≥ 65536)))], []⟩ ?_
  refine swp_seqJ h (fun j3 => ⟨25, [(0, .tr (.int .u64 j3.1)), (2, vi j3.2)], []⟩) (fun v4 h => ?_) (fun j3 h => ?_)
  refine swp_cd h (fun h => ?_) fun h => ?_
  refine srk tbok ⟨25, [(0, .tr (.int .u64 (Int.fdiv j1.1 (2 ^ 16)))), (2, vi j1.2)], []⟩ ?_
  refine swp_reg ?_
  refine SRun.ck tbok 3 ⟨25, [(0, .tr (.int .u64 (Int.fdiv j1.1 (2 ^ 16)))), (2, vi (w64 (j1.2 + 16)))], []⟩ ?_
  refine SRun.nil ?_
  obtain rfl := inj h
  exact q_j (Le.sub0)
  refine swp_skip ?_
  obtain rfl := inj h
  exact q_j (Le.sub0)
  refine swp_seq ?_
  refine srk tbok ⟨25, [(0, .tr (.int .u64 j3.1)), (2, vi j3.2), (14, vb (decide (j3.1 ≥ 256)))], []⟩ ?_
  refine swp_seqJ h (fun j5 => ⟨25, [(0, .tr (.int .u64 j5.1)), (2, vi j5.2)], []⟩) (fun v6 h => ?_) (fun j5 h => ?_)
  refine swp_cd h (fun h => ?_) fun h => ?_
  refine srk tbok ⟨25, [(0, .tr (.int .u64 (Int.fdiv j3.1 (2 ^ 8)))), (2, vi j3.2)], []⟩ ?_
  refine swp_reg ?_
  refine SRun.ck tbok 3 ⟨25, [(0, .tr (.int .u64 (Int.fdiv j3.1 (2 ^ 8)))), (2, vi (w64 (j3.2 + 8)))], []⟩ ?_
  refine SRun.nil ?_
  obtain rfl := inj h
  exact q_j (Le.sub0)
  refine swp_skip ?_
  obtain rfl := inj h
  exact q_j (Le.sub0)
  refine sr ?_
  refine SRun.ck tbok 3 ⟨25, [(19, vi j5.2), (21, .tr (.int .u8 (IntKind.wrap .u8 j5.1)))], []⟩ ?_
  obtain ⟨x7, hx7, h⟩ := bind_some h
  refine SRun.ls (x_byte (ti := ti9) (k := .u8) hx7 tbok rfl) ?_
  refine ckn tbok 3 ⟨25, [(2, vi (w64 (j5.2 + (w64 x7))))], []⟩ ?_
  refine swp_ret ?_
  obtain rfl := inj h
  exact q_fr (f1 fv)
theorem ents179 : Ents Tryz.prog 179 := ents_of Tryz.func179 (by kernel_rfl) rfl
noncomputable def bits_Len (aX : Int) : Option (Int) :=
  (bif false then ((bits_Len32 (IntKind.wrap .u32 aX)).bind fun x1 => some x1) else ((bits_Len64 aX).bind fun x2 => some x2))
theorem bits_Len_run (aX : Int) (r : Int) (h : bits_Len aX = some r) : SCall Tryz.prog 152 [.v (.tr (.int .u64 aX))] ⟨[.v (vi r)], [], false⟩ := by
  refine scall_in Tryz.func152 rfl [(.tmp 2)] rfl (fun r => ⟨[.v (vi r)], [], false⟩) (r := r) ?_
  unfold bits_Len at h
  refine srk tbok ⟨8, [(0, .tr (.int .u64 aX))], []⟩ ?_
  refine swp_seq ?_
  refine swp_cd h (fun h => ?_) fun h => ?_
  refine sr ?_
  refine SRun.ck tbok 2 ⟨8, [(4, .tr (.int .u32 (IntKind.wrap .u32 aX)))], []⟩ ?_
  obtain ⟨x1, hx1, h⟩ := bind_some h
  refine SRun.ls (xc ents178 (bits_Len32_run (IntKind.wrap .u32 aX) _ hx1)) ?_
  refine ckn tbok 1 ⟨8, [(2, vi x1)], []⟩ ?_
  refine swp_ret ?_
  obtain rfl := inj h
  exact nx_r (q_fr (f1 fv))
  refine swp_skip ?_
  refine nx_n ?_
  refine sr ?_
  refine SRun.ck tbok 1 ⟨8, [(6, .tr (.int .u64 aX))], []⟩ ?_
  obtain ⟨x2, hx2, h⟩ := bind_some h
  refine SRun.ls (xc ents179 (bits_Len64_run aX _ hx2)) ?_
  refine ckn tbok 1 ⟨8, [(2, vi x2)], []⟩ ?_
  refine swp_ret ?_
  obtain rfl := inj h
  exact q_fr (f1 fv)
theorem ents152 : Ents Tryz.prog 152 := ents_of Tryz.func152 (by kernel_rfl) rfl
noncomputable def cmp_isNaN_int64 (aX : Int) : Option (Bool) :=
  some (aX != aX)
theorem cmp_isNaN_int64_run (aX : Int) (r : Bool) (h : cmp_isNaN_int64 aX = some r) : SCall Tryz.prog 161 [.v (vi aX)] ⟨[.v (vb r)], [], false⟩ := by
  refine scall_in Tryz.func161 rfl [(.tmp 2)] rfl (fun r => ⟨[.v (vb r)], [], false⟩) (r := r) ?_
  unfold cmp_isNaN_int64 at h
  refine srk tbok ⟨6, [(0, vi aX)], []⟩ ?_
  refine srk tbok ⟨6, [(2, vb (aX != aX))], []⟩ ?_
  refine swp_ret ?_
  obtain rfl := inj h
  exact q_fr (f1 fv)
theorem ents161 : Ents Tryz.prog 161 := ents_of Tryz.func161 (by kernel_rfl) rfl
noncomputable def cmp_Compare_int64 (aX : Int) (aY : Int) : Option (Int) :=
  ((cmp_isNaN_int64 aX).bind fun x1 => ((cmp_isNaN_int64 aY).bind fun x2 => (bif x1 then (bif x2 then some 0 else some (-1)) else (bif x2 then some 1 else (bif (decide (aX < aY)) then some (-1) else (bif (decide (aX > aY)) then some 1 else some 0))))))
theorem cmp_Compare_int64_run (aX : Int) (aY : Int) (r : Int) (h : cmp_Compare_int64 aX aY = some r) : SCall Tryz.prog 128 [.v (vi aX), .v (vi aY)] ⟨[.v (vi r)], [], false⟩ := by
  refine scall_in Tryz.func128 rfl [(.tmp 4)] rfl (fun r => ⟨[.v (vi r)], [], false⟩) (r := r) ?_
  unfold cmp_Compare_int64 at h
  refine srk tbok ⟨20, [(0, vi aX), (1, vi aY)], []⟩ ?_
  refine sr ?_
  refine SRun.ck tbok 1 ⟨20, [(0, vi aX), (1, vi aY), (7, vi aX)], []⟩ ?_
  obtain ⟨x1, hx1, h⟩ := bind_some h
  refine SRun.ls (xc ents161 (cmp_isNaN_int64_run aX _ hx1)) ?_
  refine ckn tbok 1 ⟨20, [(0, vi aX), (1, vi aY), (5, vb x1)], []⟩ ?_
  refine sr ?_
  refine SRun.ck tbok 1 ⟨20, [(0, vi aX), (1, vi aY), (5, vb x1), (9, vi aY)], []⟩ ?_
  obtain ⟨x2, hx2, h⟩ := bind_some h
  refine SRun.ls (xc ents161 (cmp_isNaN_int64_run aY _ hx2)) ?_
  refine ckn tbok 1 ⟨20, [(0, vi aX), (1, vi aY), (5, vb x1), (6, vb x2)], []⟩ ?_
  refine swp_seq ?_
  refine srk tbok ⟨20, [(0, vi aX), (1, vi aY), (6, vb x2), (11, vb x1)], []⟩ ?_
  refine swp_cd h (fun h => ?_) fun h => ?_
  refine swp_seq ?_
  refine srk tbok ⟨20, [(12, vb x2)], []⟩ ?_
  refine swp_cd h (fun h => ?_) fun h => ?_
  refine srk tbok ⟨20, [(4, vi 0)], []⟩ ?_
  refine swp_ret ?_
  obtain rfl := inj h
  exact nx_r (nx_r (q_fr (f1 fv)))
  refine swp_skip ?_
  refine nx_n ?_
  refine srk tbok ⟨20, [(4, vi (-1))], []⟩ ?_
  refine swp_ret ?_
  obtain rfl := inj h
  exact nx_r (q_fr (f1 fv))
  refine swp_skip ?_
  refine nx_n ?_
  refine swp_seq ?_
  refine srk tbok ⟨20, [(0, vi aX), (1, vi aY), (13, vb x2)], []⟩ ?_
  refine swp_cd h (fun h => ?_) fun h => ?_
  refine srk tbok ⟨20, [(4, vi 1)], []⟩ ?_
  refine swp_ret ?_
  obtain rfl := inj h
  exact nx_r (q_fr (f1 fv))
  refine swp_skip ?_
  refine nx_n ?_
  refine swp_seq ?_
  refine srk tbok ⟨20, [(0, vi aX), (1, vi aY), (16, vb (decide (aX < aY)))], []⟩ ?_
  refine swp_cd h (fun h => ?_) fun h => ?_
  refine srk tbok ⟨20, [(4, vi (-1))], []⟩ ?_
  refine swp_ret ?_
  obtain rfl := inj h
  exact nx_r (q_fr (f1 fv))
  refine swp_skip ?_
  refine nx_n ?_
  refine swp_seq ?_
  refine srk tbok ⟨20, [(19, vb (decide (aX > aY)))], []⟩ ?_
  refine swp_cd h (fun h => ?_) fun h => ?_
  refine srk tbok ⟨20, [(4, vi 1)], []⟩ ?_
  refine swp_ret ?_
  obtain rfl := inj h
  exact nx_r (q_fr (f1 fv))
  refine swp_skip ?_
  refine nx_n ?_
  refine srk tbok ⟨20, [(4, vi 0)], []⟩ ?_
  refine swp_ret ?_
  obtain rfl := inj h
  exact q_fr (f1 fv)
theorem ents128 : Ents Tryz.prog 128 := ents_of Tryz.func128 (by kernel_rfl) rfl
noncomputable def cmp_Or_int (aVals : (List Int)) : Option (Int) :=
  (((forN (aVals.length : Int) (fun (i3 : Int) (_ : Unit) => ((at' aVals i3).bind fun x7 => (bif (x7 != 0) then some (.inr (.inr x7)) else some (.inl ())))) (fun (_ : Unit) => .inl ()) 0 ())).bind (Sum.elim (fun (_ : Unit) => some 0) some))
theorem cmp_Or_int_run (aVals : (List Int)) (r : Int) (h : cmp_Or_int aVals = some r) : SCall Tryz.prog 127 [.v (vl (eI .i64) aVals)] ⟨[.v (vi r)], [], false⟩ := by
  refine scall_in Tryz.func127 rfl [(.tmp 2)] rfl (fun r => ⟨[.v (vi r)], [], false⟩) (r := r) ?_
  unfold cmp_Or_int at h
  refine srk tbok ⟨18, [(0, vl (eI .i64) aVals)], []⟩ ?_
  refine srk tbok ⟨18, [(0, vl (eI .i64) aVals), (3, vi 0)], []⟩ ?_
  refine swp_seq ?_
  refine srk tbok ⟨18, [(3, vi 0), (6, vl (eI .i64) aVals), (7, vi (aVals.length : Int)), (8, vi 0)], []⟩ ?_
  refine swp_seqE (r := r) h (fun j1 => ⟨18, [(3, vi 0)], []⟩) (fun v2 h => ?_) (fun j1 h => ?_)
  refine swp_blk (a := v2) ?_
  refine swp_lpL (r := v2) (s := (0, ())) _ (fun s3 => ⟨18, [(3, vi 0), (6, vl (eI .i64) aVals), (7, vi (aVals.length : Int)), (8, vi s3.1)], []⟩) _ (Le.sub0) h (fun s3 v4 h => ?_)
  refine srk tbok ⟨18, [(3, vi 0), (6, vl (eI .i64) aVals), (7, vi (aVals.length : Int)), (8, vi s3.1), (9, vb (decide (s3.1 < (aVals.length : Int))))], []⟩ ?_
  refine swp_seq ?_
  refine swp_cd h (fun h => ?_) fun h => ?_
  refine swp_skip ?_
  refine nx_n ?_
  refine swp_seq ?_
  refine swp_seqL (r := v4) h (fun j5 => ⟨18, [(3, vi 0), (6, vl (eI .i64) aVals), (7, vi (aVals.length : Int)), (8, vi s3.1)], []⟩) (fun v6 h => ?_) (fun j5 h => ?_)
  refine swp_blk (a := v6) ?_
  refine sr ?_
  obtain ⟨x7, hx7, h⟩ := bind_some h
  refine SRun.ls (x_index (L := aVals) (f := (eI .i64)) (ti := ti183) (tj := ti3) (e := 3) (k := .i64) tbok rfl hx7) ?_
  refine ckn tbok 2 ⟨18, [(3, vi 0), (5, vi x7), (6, vl (eI .i64) aVals), (7, vi (aVals.length : Int)), (8, vi s3.1)], []⟩ ?_
  refine srk tbok ⟨18, [(3, vi 0), (5, vi x7), (6, vl (eI .i64) aVals), (7, vi (aVals.length : Int)), (8, vi s3.1), (14, vb (x7 != 0))], []⟩ ?_
  refine swp_cd h (fun h => ?_) fun h => ?_
  refine srk tbok ⟨18, [(2, vi x7)], []⟩ ?_
  refine swp_ret ?_
  obtain rfl := inj h
  exact q_br (q_rr (q_rr (q_br (q_rr (q_fr (f1 fv))))))
  refine swp_skip ?_
  obtain rfl := inj h
  exact q_bn (q_l (Le.sub0))
  refine swp_reg ?_
  refine SRun.ck tbok 2 ⟨18, [(3, vi 0), (6, vl (eI .i64) aVals), (7, vi (aVals.length : Int)), (8, vi (w64 (s3.1 + 1)))], []⟩ ?_
  refine SRun.nil ?_
  obtain rfl := inj h
  exact q_l (Le.sub0)
  refine swp_exit ?_
  obtain rfl := inj h
  exact nx_e (q_re (q_bh (q_l (Le.sub0))))
  refine srk tbok ⟨18, [(2, vi 0)], []⟩ ?_
  refine swp_ret ?_
  obtain rfl := inj h
  exact q_fr (f1 fv)
theorem ents127 : Ents Tryz.prog 127 := ents_of Tryz.func127 (by kernel_rfl) rfl
noncomputable def impl_question_answers_1 (aA : Answer) (aB : Answer) : Option (Int) :=
  ((cmp_Compare_int64 (w64 ((w64 (10 * aB.Satisfied)) - aB.Distance)) (w64 ((w64 (10 * aA.Satisfied)) - aA.Distance))).bind fun x1 => ((strings_Compare aA.Code aB.Code).bind fun x2 => ((cmp_Or_int ([x1, x2] : List Int)).bind fun x3 => some x3)))
theorem impl_question_answers_1_run (aA : Answer) (aB : Answer) (r : Int) (h : impl_question_answers_1 aA aB = some r) : SCall Tryz.prog 126 [.v (.agg (tc eAnswer aA)), .v (.agg (tc eAnswer aB))] ⟨[.v (vi r)], [], false⟩ := by
  refine scall_in Tryz.func126 rfl [(.tmp 4)] rfl (fun r => ⟨[.v (vi r)], [], false⟩) (r := r) ?_
  unfold impl_question_answers_1 at h
  refine srk tbok ⟨25, [(2, .ref 2 0), (3, .ref 3 0)], [(2, .box (tc eAnswer aA)), (3, .box (tc eAnswer aB))]⟩ ?_
  refine swp_seq ?_
  refine swp_dr mixed ?_
  refine DGo.ck tbok false 12 ⟨25, [(2, .ref 2 0), (3, .ref 3 0), (10, vi (w64 ((w64 (10 * aB.Satisfied)) - aB.Distance))), (16, vi (w64 ((w64 (10 * aA.Satisfied)) - aA.Distance)))], [(2, .box (tc eAnswer aA)), (3, .box (tc eAnswer aB))]⟩ ?_
  obtain ⟨x1, hx1, h⟩ := bind_some h
  refine DGo.step (xc ents128 (cmp_Compare_int64_run (w64 ((w64 (10 * aB.Satisfied)) - aB.Distance)) (w64 ((w64 (10 * aA.Satisfied)) - aA.Distance)) _ hx1)) ?_
  refine DGo.ck tbok false 4 ⟨25, [(17, vi x1), (19, vs aA.Code), (21, vs aB.Code)], []⟩ ?_
  obtain ⟨x2, hx2, h⟩ := bind_some h
  refine DGo.step (xc ents129 (strings_Compare_run aA.Code aB.Code _ hx2)) ?_
  refine DGo.ck tbok false 1 ⟨25, [(23, .own 23)], [(23, oa 3 1 (eI .i64) ([x1, x2] : List Int))]⟩ ?_
  obtain ⟨x3, hx3, h⟩ := bind_some h
  refine DGo.stepW false [23] (xc ents127 (cmp_Or_int_run ([x1, x2] : List Int) _ hx3)) ?_
  refine DGo.ck tbok false 1 ⟨25, [(4, vi x3)], []⟩ ?_
  refine DGo.nx ?_
  refine swp_ret ?_
  obtain rfl := inj h
  exact q_fr (f1 fv)
theorem ents126 : Ents Tryz.prog 126 := ents_of Tryz.func126 (by kernel_rfl) rfl
noncomputable def slices_insertionSortCmpFunc_Answer_impl_question_answers_1 (aData : (List Answer)) (aA : Int) (aB : Int) : Option ((List Answer)) :=
  (forS aB (fun (i1 : Int) (s1 : (List Answer)) => (loop (fun (s5 : Int × (List Answer)) => (((bif (decide (s5.1 > aA)) then ((at' s5.2 s5.1).bind fun x7 => ((at' s5.2 (w64 (s5.1 - 1))).bind fun x8 => ((impl_question_answers_1 x7 x8).bind fun x9 => some (decide (x9 < 0))))) else some false)).bind fun (j10 : Bool) => (bif j10 then ((((at' s5.2 (w64 (s5.1 - 1))).bind fun x14 => ((at' s5.2 s5.1).bind fun x15 => ((at' s5.2 s5.1).bind fun _ => ((at' (List.set s5.2 (Int.toNat s5.1) x14) (w64 (s5.1 - 1))).bind fun _ => some (List.set (List.set s5.2 (Int.toNat s5.1) x14) (Int.toNat (w64 (s5.1 - 1))) x15)))))).bind fun (j12 : (List Answer)) => some (.inl ((w64 (s5.1 - 1)), j12))) else some (.inr s5.2)))) (i1, s1))) (fun (s1 : (List Answer)) => s1) (w64 (aA + 1)) aData)
theorem slices_insertionSortCmpFunc_Answer_impl_question_answers_1_run (aData : (List Answer)) (aA : Int) (aB : Int) (r : (List Answer)) (h : slices_insertionSortCmpFunc_Answer_impl_question_answers_1 aData aA aB = some r) : SCall Tryz.prog 186 [.o (oa 59 3 eAnswer aData), .v (vi aA), .v (vi aB), .v (.clo 126 [])] ⟨[], [(0, oa 59 3 eAnswer r)], false⟩ := by
  refine scall_in Tryz.func186 rfl [] rfl (fun r => ⟨[], [(0, oa 59 3 eAnswer r)], false⟩) (r := r) ?_
  unfold slices_insertionSortCmpFunc_Answer_impl_question_answers_1 at h
  refine srk tbok ⟨53, [(0, .own 1000000), (1, vi aA), (2, vi aB), (3, .clo 126 []), (8, vi (w64 (aA + 1)))], [(1000000, oa 59 3 eAnswer aData)]⟩ ?_
  refine swp_blk (a := r) ?_
  refine swp_lpL (r := r) (s := ((w64 (aA + 1)), aData)) _ (fun s1 => ⟨53, [(0, .own 1000000), (1, vi aA), (2, vi aB), (3, .clo 126 []), (8, vi s1.1)], [(1000000, oa 59 3 eAnswer s1.2)]⟩) _ (Le.sub0) h (fun s1 v2 h => ?_)
  refine swp_seq ?_
  refine srk tbok ⟨53, [(0, .own 1000000), (1, vi aA), (2, vi aB), (3, .clo 126 []), (8, vi s1.1), (14, vb (decide (s1.1 < aB)))], [(1000000, oa 59 3 eAnswer s1.2)]⟩ ?_
  refine swp_cd h (fun h => ?_) fun h => ?_
  refine swp_skip ?_
  refine nx_n ?_
  refine swp_seq ?_
  refine swp_seqJ h (fun j3 => ⟨53, [(0, .own 1000000), (1, vi aA), (2, vi aB), (3, .clo 126 []), (8, vi s1.1)], [(1000000, oa 59 3 eAnswer j3)]⟩) (fun v4 h => ?_) (fun j3 h => ?_)
  refine swp_blk (a := v4) ?_
  refine srk tbok ⟨53, [(0, .own 1000000), (1, vi aA), (2, vi aB), (3, .clo 126 []), (8, vi s1.1), (9, vi s1.1)], [(1000000, oa 59 3 eAnswer s1.2)]⟩ ?_
  refine swp_blk (a := v4) ?_
  refine swp_lpL (r := v4) (s := (s1.1, s1.2)) _ (fun s5 => ⟨53, [(0, .own 1000000), (1, vi aA), (2, vi aB), (3, .clo 126 []), (8, vi s1.1), (9, vi s5.1)], [(1000000, oa 59 3 eAnswer s5.2)]⟩) _ (Le.sub0) h (fun s5 v6 h => ?_)
  refine swp_seq ?_
  refine swp_seq ?_
  refine swp_drJ mixed h (fun j10 => ⟨53, [(0, .own 1000000), (1, vi aA), (2, vi aB), (3, .clo 126 []), (8, vi s1.1), (9, vi s5.1), (34, vb j10)], [(1000000, oa 59 3 eAnswer s5.2)]⟩) (fun v11 h => ?_) (fun j10 h => ?_)
  refine DGo.ck tbok false 4 ⟨53, [(0, .own 1000000), (1, vi aA), (2, vi aB), (3, .clo 126 []), (8, vi s1.1), (9, vi s5.1), (21, vb (decide (s5.1 > aA)))], [(1000000, oa 59 3 eAnswer s5.2)]⟩ ?_
  refine DGo.cu [(21, fun b => b)] h (fun h => ?_) fun h => ?_
  refine DGo.ck tbok false 3 ⟨53, [(0, .own 1000000), (1, vi aA), (2, vi aB), (3, .clo 126 []), (8, vi s1.1), (9, vi s5.1), (21, vb true), (22, .clo 126 []), (23, .own 1000000), (24, vi s5.1)], [(1000000, oa 59 3 eAnswer s5.2)]⟩ ?_
  obtain ⟨x7, hx7, h⟩ := bind_some h
  refine DGo.step (x_index_own (d := 1000000) (L := s5.2) (f := eAnswer) (ti := ti62) (tj := ti59) (e := 59) (e' := 59) (m := 3) (k := .i64) tbok rfl hx7) ?_
  refine DGo.step (x_load_own (d := 1000000) (m := 3) (j := 0) (L := s5.2) (f := eAnswer) (ti := ti59) (e := 59) (v := .agg (tc eAnswer x7)) tbok rfl hx7) ?_
  refine DGo.ck tbok false 3 ⟨53, [(0, .own 1000000), (1, vi aA), (2, vi aB), (3, .clo 126 []), (8, vi s1.1), (9, vi s5.1), (21, vb true), (22, .clo 126 []), (26, .agg (tc eAnswer x7)), (27, .own 1000000), (29, vi (w64 (s5.1 - 1)))], [(1000000, oa 59 3 eAnswer s5.2)]⟩ ?_
  obtain ⟨x8, hx8, h⟩ := bind_some h
  refine DGo.step (x_index_own (d := 1000000) (L := s5.2) (f := eAnswer) (ti := ti62) (tj := ti59) (e := 59) (e' := 59) (m := 3) (k := .i64) tbok rfl hx8) ?_
  refine DGo.step (x_load_own (d := 1000000) (m := 3) (j := 0) (L := s5.2) (f := eAnswer) (ti := ti59) (e := 59) (v := .agg (tc eAnswer x8)) tbok rfl hx8) ?_
  obtain ⟨x9, hx9, h⟩ := bind_some h
  refine DGo.step (xc ents126 (impl_question_answers_1_run x7 x8 _ hx9)) ?_
  refine DGo.ck tbok false 2 ⟨53, [(0, .own 1000000), (1, vi aA), (2, vi aB), (3, .clo 126 []), (8, vi s1.1), (9, vi s5.1), (34, vb (decide (x9 < 0)))], [(1000000, oa 59 3 eAnswer s5.2)]⟩ ?_
  refine DGo.nil (by kernel_rfl) ?_
  obtain rfl := inj h
  exact Le.sub0
  refine DGo.ck tbok false 13 ⟨53, [(0, .own 1000000), (1, vi aA), (2, vi aB), (3, .clo 126 []), (8, vi s1.1), (9, vi s5.1), (34, vb false)], [(1000000, oa 59 3 eAnswer s5.2)]⟩ ?_
  refine DGo.nil (by kernel_rfl) ?_
  obtain rfl := inj h
  exact Le.sub0
  refine swp_cd h (fun h => ?_) fun h => ?_
  refine swp_skip ?_
  refine nx_n ?_
  refine swp_seq ?_
  refine swp_seqJ h (fun j12 => ⟨53, [(0, .own 1000000), (1, vi aA), (2, vi aB), (3, .clo 126 []), (8, vi s1.1), (9, vi s5.1)], [(1000000, oa 59 3 eAnswer j12)]⟩) (fun v13 h => ?_) (fun j12 h => ?_)
  refine swp_blk (a := v13) ?_
  refine swp_drD [1000000] mixed ?_
  refine DGo.ck tbok false 8 ⟨53, [(0, .own 1000000), (1, vi aA), (2, vi aB), (3, .clo 126 []), (8, vi s1.1), (9, vi s5.1), (37, .own 1000000), (38, vi s5.1), (39, .own 1000000), (41, vi (w64 (s5.1 - 1))), (42, .own 1000000), (44, vi (w64 (s5.1 - 1)))], [(1000000, oa 59 3 eAnswer s5.2)]⟩ ?_
  obtain ⟨x14, hx14, h⟩ := bind_some h
  refine DGo.stepW true [] (x_index_own (d := 1000000) (L := s5.2) (f := eAnswer) (ti := ti62) (tj := ti59) (e := 59) (e' := 59) (m := 3) (k := .i64) tbok rfl hx14) ?_
  refine DGo.stepW true [] (x_load_own (d := 1000000) (m := 3) (j := 0) (L := s5.2) (f := eAnswer) (ti := ti59) (e := 59) (v := .agg (tc eAnswer x14)) tbok rfl hx14) ?_
  refine DGo.ck tbok false 2 ⟨53, [(0, .own 1000000), (1, vi aA), (2, vi aB), (3, .clo 126 []), (8, vi s1.1), (9, vi s5.1), (37, .own 1000000), (38, vi s5.1), (39, .own 1000000), (41, vi (w64 (s5.1 - 1))), (46, .agg (tc eAnswer x14)), (47, .own 1000000), (48, vi s5.1)], [(1000000, oa 59 3 eAnswer s5.2)]⟩ ?_
  obtain ⟨x15, hx15, h⟩ := bind_some h
  refine DGo.stepW true [] (x_index_own (d := 1000000) (L := s5.2) (f := eAnswer) (ti := ti62) (tj := ti59) (e := 59) (e' := 59) (m := 3) (k := .i64) tbok rfl hx15) ?_
  refine DGo.stepW true [] (x_load_own (d := 1000000) (m := 3) (j := 0) (L := s5.2) (f := eAnswer) (ti := ti59) (e := 59) (v := .agg (tc eAnswer x15)) tbok rfl hx15) ?_
  obtain ⟨x16, hx16, h⟩ := bind_some h
  refine DGo.stepW true [] (x_index_own (d := 1000000) (L := s5.2) (f := eAnswer) (ti := ti62) (tj := ti59) (e := 59) (e' := 59) (m := 3) (k := .i64) tbok rfl hx16) ?_
  refine DGo.write [] (x_wstore_own (d := 1000000) (m := 3) (j := 0) (L := s5.2) (f := eAnswer) (x := x14) (z := x16) (ti := ti59) (e := 59) (ts := [.str x14.Code, .int .i64 x14.Distance, .int .i64 x14.Satisfied]) (vs := [vs x14.Code, vi x14.Distance, vi x14.Satisfied]) (v := .agg (tc eAnswer x14)) tbok rfl rfl hx16) ?_
  obtain ⟨x17, hx17, h⟩ := bind_some h
  refine DGo.stepW true [] (x_index_own (d := 1000000) (L := (List.set s5.2 (Int.toNat s5.1) x14)) (f := eAnswer) (ti := ti62) (tj := ti59) (e := 59) (e' := 59) (m := 3) (k := .i64) tbok rfl hx17) ?_
  refine DGo.write [] (x_wstore_own (d := 1000000) (m := 3) (j := 0) (L := (List.set s5.2 (Int.toNat s5.1) x14)) (f := eAnswer) (x := x15) (z := x17) (ti := ti59) (e := 59) (ts := [.str x15.Code, .int .i64 x15.Distance, .int .i64 x15.Satisfied]) (vs := [vs x15.Code, vi x15.Distance, vi x15.Satisfied]) (v := .agg (tc eAnswer x15)) tbok rfl rfl hx17) ?_
  refine DGo.nil (by kernel_rfl) ?_
  obtain rfl := inj h
  exact q_bn (q_j (Le.sub0))
  refine swp_reg ?_
  refine SRun.ck tbok 3 ⟨53, [(0, .own 1000000), (1, vi aA), (2, vi aB), (3, .clo 126 []), (8, vi s1.1), (9, vi (w64 (s5.1 - 1)))], [(1000000, oa 59 3 eAnswer j12)]⟩ ?_
  refine SRun.nil ?_
  obtain rfl := inj h
  exact q_l (Le.sub0)
  refine swp_exit ?_
  obtain rfl := inj h
  exact nx_e (q_re (q_bh (q_bn (q_j (Le.sub0)))))
  refine swp_reg ?_
  refine SRun.ck tbok 3 ⟨53, [(0, .own 1000000), (1, vi aA), (2, vi aB), (3, .clo 126 []), (8, vi (w64 (s1.1 + 1)))], [(1000000, oa 59 3 eAnswer j3)]⟩ ?_
  refine SRun.nil ?_
  obtain rfl := inj h
  exact q_l (Le.sub0)
  refine swp_exit ?_
  obtain rfl := inj h
  exact nx_e (q_re (q_bh (q_fn (fin_io (fin0 (by kernel_rfl)) (y := oa 59 3 eAnswer s1.2) (by kernel_rfl) rfl (by kernel_rfl) (by kernel_rfl)))))
theorem ents186 : Ents Tryz.prog 186 := ents_of Tryz.func186 (by kernel_rfl) rfl
noncomputable def slices_pdqsortCmpFunc_Answer_impl_question_answers_1 (aData : (List Answer)) (aA : Int) (aB : Int) (aLimit : Int) : Option ((List Answer)) :=
  (loop (fun (s1 : Int × Int × Int × Bool × Bool × (List Answer)) => (bif (decide ((w64 (s1.2.1 - s1.1)) ≤ 12)) then ((slices_insertionSortCmpFunc_Answer_impl_question_answers_1 s1.2.2.2.2.2 s1.1 s1.2.1).bind fun x3 => some (.inr x3)) else (bif (s1.2.2.1 == 0) then none else (((bif (!s1.2.2.2.1) then none else some s1.2.2.1)).bind fun (_ : Int) => none)))) (aA, aB, aLimit, true, true, aData))
theorem slices_pdqsortCmpFunc_Answer_impl_question_answers_1_run (aData : (List Answer)) (aA : Int) (aB : Int) (aLimit : Int) (r : (List Answer)) (h : slices_pdqsortCmpFunc_Answer_impl_question_answers_1 aData aA aB aLimit = some r) : SCall Tryz.prog 160 [.o (oa 59 3 eAnswer aData), .v (vi aA), .v (vi aB), .v (vi aLimit), .v (.clo 126 [])] ⟨[], [(0, oa 59 3 eAnswer r)], false⟩ := by
  refine scall_in Tryz.func160 rfl [] rfl (fun r => ⟨[], [(0, oa 59 3 eAnswer r)], false⟩) (r := r) ?_
  unfold slices_pdqsortCmpFunc_Answer_impl_question_answers_1 at h
  refine srk tbok ⟨148, [(0, .own 1000000), (1, vi aA), (2, vi aB), (3, vi aLimit), (4, .clo 126 []), (10, vb true)], [(1000000, oa 59 3 eAnswer aData)]⟩ ?_
  refine srk tbok ⟨148, [(0, .own 1000000), (1, vi aA), (2, vi aB), (3, vi aLimit), (4, .clo 126 []), (10, vb true), (11, vb true)], [(1000000, oa 59 3 eAnswer aData)]⟩ ?_
  refine swp_blk (a := r) ?_
  refine swp_lpL (r := r) (s := (aA, aB, aLimit, true, true, aData)) _ (fun s1 => ⟨148, [(0, .own 1000000), (1, vi s1.1), (2, vi s1.2.1), (3, vi s1.2.2.1), (4, .clo 126 []), (10, vb s1.2.2.2.1), (11, vb s1.2.2.2.2.1)], [(1000000, oa 59 3 eAnswer s1.2.2.2.2.2)]⟩) _ (Le.sub0) h (fun s1 v2 h => ?_)
  refine swp_blk (a := v2) ?_
  refine srk tbok ⟨148, [(0, .own 1000000), (1, vi s1.1), (2, vi s1.2.1), (3, vi s1.2.2.1), (4, .clo 126 []), (10, vb s1.2.2.2.1), (11, vb s1.2.2.2.2.1), (12, vi (w64 (s1.2.1 - s1.1)))], [(1000000, oa 59 3 eAnswer s1.2.2.2.2.2)]⟩ ?_
  refine swp_seq ?_
  refine srk tbok ⟨148, [(0, .own 1000000), (1, vi s1.1), (2, vi s1.2.1), (3, vi s1.2.2.1), (4, .clo 126 []), (10, vb s1.2.2.2.1), (11, vb s1.2.2.2.2.1), (12, vi (w64 (s1.2.1 - s1.1))), (25, vb (decide ((w64 (s1.2.1 - s1.1)) ≤ 12)))], [(1000000, oa 59 3 eAnswer s1.2.2.2.2.2)]⟩ ?_
  refine swp_cd h (fun h => ?_) fun h => ?_
  refine sr ?_
  refine SRun.ck tbok 4 ⟨148, [(26, .own 1000000), (27, vi s1.1), (28, vi s1.2.1), (29, .clo 126 [])], [(1000000, oa 59 3 eAnswer s1.2.2.2.2.2)]⟩ ?_
  obtain ⟨x3, hx3, h⟩ := bind_some h
  refine SRun.estep (xe ents186 (slices_insertionSortCmpFunc_Answer_impl_question_answers_1_run s1.2.2.2.2.2 s1.1 s1.2.1 _ hx3)) ?_
  refine SRun.nx ?_
  refine swp_ret ?_
  obtain rfl := inj h
  exact nx_r (q_br (q_rr (q_br (q_fr (fin_io (fin0 (by kernel_rfl)) (y := oa 59 3 eAnswer x3) (by kernel_rfl) rfl (by kernel_rfl) (by kernel_rfl))))))
  refine swp_skip ?_
  refine nx_n ?_
  refine swp_seq ?_
  refine srk tbok ⟨148, [(0, .own 1000000), (1, vi s1.1), (2, vi s1.2.1), (3, vi s1.2.2.1), (4, .clo 126 []), (10, vb s1.2.2.2.1), (11, vb s1.2.2.2.2.1), (12, vi (w64 (s1.2.1 - s1.1))), (32, vb (s1.2.2.1 == 0))], [(1000000, oa 59 3 eAnswer s1.2.2.2.2.2)]⟩ ?_
  refine swp_cd h (fun h => ?_) fun h => ?_
  refine swp_seq ?_
  cases h
  refine swp_skip ?_
  refine nx_n ?_
  refine swp_seq ?_
  refine srk tbok ⟨148, [(0, .own 1000000), (1, vi s1.1), (2, vi s1.2.1), (3, vi s1.2.2.1), (4, .clo 126 []), (10, vb s1.2.2.2.1), (11, vb s1.2.2.2.2.1), (12, vi (w64 (s1.2.1 - s1.1))), (39, vb (!s1.2.2.2.1))], [(1000000, oa 59 3 eAnswer s1.2.2.2.2.2)]⟩ ?_
  refine swp_seqJ h (fun j4 => ⟨148, [(0, .own 1000000), (1, vi s1.1), (2, vi s1.2.1), (3, vi j4), (4, .clo 126 []), (10, vb s1.2.2.2.1), (11, vb s1.2.2.2.2.1), (12, vi (w64 (s1.2.1 - s1.1)))], [(1000000, oa 59 3 eAnswer s1.2.2.2.2.2)]⟩) (fun v5 h => ?_) (fun j4 h => ?_)
  refine swp_cd h (fun h => ?_) fun h => ?_
  refine swp_seq ?_
  cases h
  refine swp_skip ?_
  obtain rfl := inj h
  exact q_j (Le.sub0)
  refine swp_seq ?_
  cases h
theorem ents160 : Ents Tryz.prog 160 := ents_of Tryz.func160 (by kernel_rfl) rfl
noncomputable def slices_SortFunc_Answer_impl_question_answers_1 (aX : (List Answer)) : Option ((List Answer)) :=
  ((bits_Len (IntKind.wrap .u64 (aX.length : Int))).bind fun x1 => ((slices_pdqsortCmpFunc_Answer_impl_question_answers_1 aX 0 (aX.length : Int) x1).bind fun x2 => some x2))
theorem slices_SortFunc_Answer_impl_question_answers_1_run (aX : (List Answer)) (r : (List Answer)) (h : slices_SortFunc_Answer_impl_question_answers_1 aX = some r) : SCall Tryz.prog 125 [.o (oa 59 3 eAnswer aX), .v (.clo 126 [])] ⟨[], [(0, oa 59 3 eAnswer r)], false⟩ := by
  refine scall_in Tryz.func125 rfl [] rfl (fun r => ⟨[], [(0, oa 59 3 eAnswer r)], false⟩) (r := r) ?_
  unfold slices_SortFunc_Answer_impl_question_answers_1 at h
  refine srk tbok ⟨14, [(0, .own 1000000), (1, .clo 126 []), (4, vi (aX.length : Int))], [(1000000, oa 59 3 eAnswer aX)]⟩ ?_
  refine swp_reg ?_
  refine SRun.ck tbok 4 ⟨14, [(1, .clo 126 []), (7, .own 1000000), (8, vi (aX.length : Int)), (10, .tr (.int .u64 (IntKind.wrap .u64 (aX.length : Int))))], [(1000000, oa 59 3 eAnswer aX)]⟩ ?_
  obtain ⟨x1, hx1, h⟩ := bind_some h
  refine SRun.ls (xc ents152 (bits_Len_run (IntKind.wrap .u64 (aX.length : Int)) _ hx1)) ?_
  refine SRun.ck tbok 1 ⟨14, [(7, .own 1000000), (8, vi (aX.length : Int)), (11, vi x1), (12, .clo 126 [])], [(1000000, oa 59 3 eAnswer aX)]⟩ ?_
  obtain ⟨x2, hx2, h⟩ := bind_some h
  refine SRun.estep (xe ents160 (slices_pdqsortCmpFunc_Answer_impl_question_answers_1_run aX 0 (aX.length : Int) x1 _ hx2)) ?_
  refine SRun.nil ?_
  obtain rfl := inj h
  exact q_fn (fin_io (fin0 (by kernel_rfl)) (y := oa 59 3 eAnswer x2) (by kernel_rfl) rfl (by kernel_rfl) (by kernel_rfl))
theorem ents125 : Ents Tryz.prog 125 := ents_of Tryz.func125 (by kernel_rfl) rfl
noncomputable def impl_question_answers (aQ : question) (aList : (List Candidate)) : Option ((List Answer)) :=
  (((forS (aList.length : Int) (fun (i3 : Int) (s3 : (List Answer)) => ((at' aList i3).bind fun x7 => ((impl_question_answer aQ x7).bind fun x8 => ((app' s3 ([x8] : List Answer)).bind fun x9 => some x9)))) (fun (s3 : (List Answer)) => s3) 0 ([] : List Answer))).bind fun (j1 : (List Answer)) => ((slices_SortFunc_Answer_impl_question_answers_1 j1).bind fun x10 => some x10))
theorem impl_question_answers_run (aQ : question) (aList : (List Candidate)) (r : (List Answer)) (h : impl_question_answers aQ aList = some r) : SCall Tryz.prog 80 [.v (.agg (tc equestion aQ)), .v (vl eCandidate aList)] ⟨[.own 59 3 r.length (r.map eAnswer)], [], false⟩ := by
  refine scall_in Tryz.func80 rfl [(.tmp 4)] rfl (fun r => ⟨[.own 59 3 r.length (r.map eAnswer)], [], false⟩) (r := r) ?_
  unfold impl_question_answers at h
  refine srk tbok ⟨24, [(1, vl eCandidate aList), (2, .ref 2 0)], [(2, .box (tc equestion aQ))]⟩ ?_
  refine srk tbok ⟨24, [(1, vl eCandidate aList), (2, .ref 2 0), (5, .own 5)], [(2, .box (tc equestion aQ)), (5, oa 59 3 eAnswer ([] : List Answer))]⟩ ?_
  refine swp_seq ?_
  refine srk tbok ⟨24, [(2, .ref 2 0), (5, .own 5), (8, vl eCandidate aList), (9, vi (aList.length : Int)), (10, vi 0)], [(2, .box (tc equestion aQ)), (5, oa 59 3 eAnswer ([] : List Answer))]⟩ ?_
  refine swp_seqJ h (fun j1 => ⟨24, [(5, .own 5)], [(5, oa 59 3 eAnswer j1)]⟩) (fun v2 h => ?_) (fun j1 h => ?_)
  refine swp_blk (a := v2) ?_
  refine swp_lpL (r := v2) (s := (0, ([] : List Answer))) _ (fun s3 => ⟨24, [(2, .ref 2 0), (5, .own 5), (8, vl eCandidate aList), (9, vi (aList.length : Int)), (10, vi s3.1)], [(2, .box (tc equestion aQ)), (5, oa 59 3 eAnswer s3.2)]⟩) _ (Le.sub0) h (fun s3 v4 h => ?_)
  refine srk tbok ⟨24, [(2, .ref 2 0), (5, .own 5), (8, vl eCandidate aList), (9, vi (aList.length : Int)), (10, vi s3.1), (11, vb (decide (s3.1 < (aList.length : Int))))], [(2, .box (tc equestion aQ)), (5, oa 59 3 eAnswer s3.2)]⟩ ?_
  refine swp_seq ?_
  refine swp_cd h (fun h => ?_) fun h => ?_
  refine swp_skip ?_
  refine nx_n ?_
  refine swp_seq ?_
  refine swp_seqJ h (fun j5 => ⟨24, [(2, .ref 2 0), (5, .own 5), (8, vl eCandidate aList), (9, vi (aList.length : Int)), (10, vi s3.1)], [(2, .box (tc equestion aQ)), (5, oa 59 3 eAnswer j5)]⟩) (fun v6 h => ?_) (fun j5 h => ?_)
  refine swp_blk (a := v6) ?_
  refine sr ?_
  obtain ⟨x7, hx7, h⟩ := bind_some h
  refine SRun.ls (x_index (L := aList) (f := eCandidate) (ti := ti31) (tj := ti87) (e := 87) (k := .i64) tbok rfl hx7) ?_
  refine ckn tbok 3 ⟨24, [(2, .ref 2 0), (5, .own 5), (7, .ref 7 0), (8, vl eCandidate aList), (9, vi (aList.length : Int)), (10, vi s3.1)], [(2, .box (tc equestion aQ)), (5, oa 59 3 eAnswer s3.2), (7, .box (tc eCandidate x7))]⟩ ?_
  refine swp_reg ?_
  refine SRun.ck tbok 3 ⟨24, [(2, .ref 2 0), (8, vl eCandidate aList), (9, vi (aList.length : Int)), (10, vi s3.1), (14, .own 5), (15, .agg (tc equestion aQ)), (16, .agg (tc eCandidate x7))], [(2, .box (tc equestion aQ)), (5, oa 59 3 eAnswer s3.2)]⟩ ?_
  obtain ⟨x8, hx8, h⟩ := bind_some h
  refine SRun.ls (xc ents83 (impl_question_answer_run aQ x7 _ hx8)) ?_
  refine SRun.ck tbok 1 ⟨24, [(2, .ref 2 0), (8, vl eCandidate aList), (9, vi (aList.length : Int)), (10, vi s3.1), (14, .own 5), (18, .own 18)], [(2, .box (tc equestion aQ)), (5, oa 59 3 eAnswer s3.2), (18, oa 59 3 eAnswer ([x8] : List Answer))]⟩ ?_
  obtain ⟨x9, hx9, h⟩ := bind_some h
  refine SRun.estep (x_append (f := eAnswer) (t := 62) (ti := ti62) (tj := ti59) (zs := [.string (ByteArray.mk #[]), .int .i64 0, .int .i64 0]) (e := 59) (m := 3) (d := 5) (xv := .own 18) hx9 tbok rfl rfl rfl rfl (x_src_o (e := 59))) ?_
  refine SRun.ck tbok 1 ⟨24, [(2, .ref 2 0), (5, .own 19), (8, vl eCandidate aList), (9, vi (aList.length : Int)), (10, vi s3.1)], [(2, .box (tc equestion aQ)), (19, oa 59 3 eAnswer x9)]⟩ ?_
  refine SRun.nil ?_
  obtain rfl := inj h
  exact q_bn (q_j (Le.rr [2, 19] [(19, 5)]))
  refine swp_reg ?_
  refine SRun.ck tbok 2 ⟨24, [(2, .ref 2 0), (5, .own 5), (8, vl eCandidate aList), (9, vi (aList.length : Int)), (10, vi (w64 (s3.1 + 1)))], [(2, .box (tc equestion aQ)), (5, oa 59 3 eAnswer j5)]⟩ ?_
  refine SRun.nil ?_
  obtain rfl := inj h
  exact q_l (Le.sub0)
  refine swp_exit ?_
  obtain rfl := inj h
  exact nx_e (q_re (q_bh (q_j (Le.sub0))))
  refine sr ?_
  refine SRun.ck tbok 1 ⟨24, [(5, .own 5), (21, .own 5)], [(5, oa 59 3 eAnswer j1)]⟩ ?_
  obtain ⟨x10, hx10, h⟩ := bind_some h
  refine SRun.estep (xe ents125 (slices_SortFunc_Answer_impl_question_answers_1_run j1 _ hx10)) ?_
  refine SRun.nx ?_
  refine srk tbok ⟨24, [(4, .own 5)], [(5, oa 59 3 eAnswer x10)]⟩ ?_
  refine swp_ret ?_
  obtain rfl := inj h
  exact q_fr (f1 (fo eAnswer_flat))
theorem ents80 : Ents Tryz.prog 80 := ents_of Tryz.func80 (by kernel_rfl) rfl
noncomputable def impl_AnswersOf (aList : (List Candidate)) (aText : ByteArray) (aSites : (List Site)) (aDescriptions : (List Description)) : Option ((List Answer) × Int) :=
  ((impl_question_code (question.mk aText aSites aDescriptions) aList).bind fun x1 => (bif (x1 != 0) then some (([] : List Answer), x1) else ((impl_question_answers (question.mk aText aSites aDescriptions) aList).bind fun x2 => some (x2, 0))))
theorem impl_AnswersOf_run (aList : (List Candidate)) (aText : ByteArray) (aSites : (List Site)) (aDescriptions : (List Description)) (r : (List Answer) × Int) (h : impl_AnswersOf aList aText aSites aDescriptions = some r) : SCall Tryz.prog 38 [.v (vl eCandidate aList), .v (vs aText), .v (vl eSite aSites), .v (vl eDescription aDescriptions)] ⟨[.own 59 3 r.1.length (r.1.map eAnswer), .v (vi r.2)], [], false⟩ := by
  refine scall_in Tryz.func38 rfl [(.tmp 8), (.tmp 9)] rfl (fun r => ⟨[.own 59 3 r.1.length (r.1.map eAnswer), .v (vi r.2)], [], false⟩) (r := r) ?_
  unfold impl_AnswersOf at h
  refine srk tbok ⟨25, [(0, vl eCandidate aList), (1, vs aText), (2, vl eSite aSites), (3, vl eDescription aDescriptions)], []⟩ ?_
  refine sr ?_
  refine SRun.ck tbok 3 ⟨25, [(0, vl eCandidate aList), (12, vs aText), (13, vl eSite aSites), (14, vl eDescription aDescriptions)], []⟩ ?_
  refine SRun.ls (x_lstep_build (v := .agg [vs aText, vl eSite aSites, vl eDescription aDescriptions]) tbok rfl) ?_
  refine ckn tbok 2 ⟨25, [(0, vl eCandidate aList), (10, .ref 10 0)], [(10, .box [vs aText, vl eSite aSites, vl eDescription aDescriptions])]⟩ ?_
  refine swp_seq ?_
  refine sr ?_
  refine SRun.ck tbok 2 ⟨25, [(0, vl eCandidate aList), (10, .ref 10 0), (16, .agg [vs aText, vl eSite aSites, vl eDescription aDescriptions]), (17, vl eCandidate aList)], [(10, .box [vs aText, vl eSite aSites, vl eDescription aDescriptions])]⟩ ?_
  obtain ⟨x1, hx1, h⟩ := bind_some h
  refine SRun.ls (xc ents79 (impl_question_code_run (question.mk aText aSites aDescriptions) aList _ hx1)) ?_
  refine ckn tbok 1 ⟨25, [(0, vl eCandidate aList), (10, .ref 10 0), (11, vi x1)], [(10, .box [vs aText, vl eSite aSites, vl eDescription aDescriptions])]⟩ ?_
  refine srk tbok ⟨25, [(0, vl eCandidate aList), (10, .ref 10 0), (11, vi x1), (20, vb (x1 != 0))], [(10, .box [vs aText, vl eSite aSites, vl eDescription aDescriptions])]⟩ ?_
  refine swp_cd h (fun h => ?_) fun h => ?_
  refine srk tbok ⟨25, [(8, .own 8), (9, vi x1)], [(8, oa 59 3 eAnswer ([] : List Answer))]⟩ ?_
  refine swp_ret ?_
  obtain rfl := inj h
  exact nx_r (q_fr (f2 (fo eAnswer_flat) fv))
  refine swp_skip ?_
  refine nx_n ?_
  refine sr ?_
  refine SRun.ck tbok 2 ⟨25, [(22, .agg [vs aText, vl eSite aSites, vl eDescription aDescriptions]), (23, vl eCandidate aList)], []⟩ ?_
  obtain ⟨x2, hx2, h⟩ := bind_some h
  refine SRun.ls (xc ents80 (impl_question_answers_run (question.mk aText aSites aDescriptions) aList _ hx2)) ?_
  refine ckn tbok 2 ⟨25, [(8, .own 24), (9, vi 0)], [(24, oa 59 3 eAnswer x2)]⟩ ?_
  refine swp_ret ?_
  obtain rfl := inj h
  exact q_fr (f2 (fo eAnswer_flat) fv)
theorem ents38 : Ents Tryz.prog 38 := ents_of Tryz.func38 (by kernel_rfl) rfl
noncomputable def spec_l01In (aN : Int) (aLow : Int) (aHigh : Int) : Option (Bool) :=
  some ((decide (aN ≥ aLow)) && (decide (aN ≤ aHigh)))
theorem spec_l01In_run (aN : Int) (aLow : Int) (aHigh : Int) (r : Bool) (h : spec_l01In aN aLow aHigh = some r) : SCall Tryz.prog 136 [.v (vi aN), .v (vi aLow), .v (vi aHigh)] ⟨[.v (vb r)], [], false⟩ := by
  refine scall_in Tryz.func136 rfl [(.tmp 6)] rfl (fun r => ⟨[.v (vb r)], [], false⟩) (r := r) ?_
  unfold spec_l01In at h
  refine srk tbok ⟨15, [(0, vi aN), (1, vi aLow), (2, vi aHigh)], []⟩ ?_
  refine swp_seq ?_
  refine swp_regP ⟨15, [(6, vb ((decide (aN ≥ aLow)) && (decide (aN ≤ aHigh))))], []⟩ ?_ ?_
  refine SRun.ck tbok 4 ⟨15, [(0, vi aN), (2, vi aHigh), (10, vb (decide (aN ≥ aLow)))], []⟩ ?_
  generalize (decide (aN ≥ aLow)) = bb
  cases bb
  refine SRun.ck tbok 5 ⟨15, [(6, vb false)], []⟩ ?_
  exact SRun.nil (Le.sub0)
  refine SRun.ck tbok 5 ⟨15, [(6, vb (decide (aN ≤ aHigh)))], []⟩ ?_
  exact SRun.nil (Le.sub0)
  refine swp_ret ?_
  obtain rfl := inj h
  exact q_fr (f1 fv)
theorem ents136 : Ents Tryz.prog 136 := ents_of Tryz.func136 (by kernel_rfl) rfl
noncomputable def spec_IsWord (aS : ByteArray) : Option (Bool) :=
  (((forN (aS.size : Int) (fun (i3 : Int) (_ : Unit) => ((((byte' aS i3).bind fun x7 => (bif (decide (x7 < 97)) then some true else ((byte' aS i3).bind fun x8 => some (decide (x8 > 122)))))).bind fun (j9 : Bool) => (bif j9 then some (.inr (.inr false)) else some (.inl ())))) (fun (_ : Unit) => .inl ()) 0 ())).bind (Sum.elim (fun (_ : Unit) => ((spec_l01In (aS.size : Int) 1 16).bind fun x11 => some x11)) some))
theorem spec_IsWord_run (aS : ByteArray) (r : Bool) (h : spec_IsWord aS = some r) : SCall Tryz.prog 89 [.v (vs aS)] ⟨[.v (vb r)], [], false⟩ := by
  refine scall_in Tryz.func89 rfl [(.tmp 2)] rfl (fun r => ⟨[.v (vb r)], [], false⟩) (r := r) ?_
  unfold spec_IsWord at h
  refine srk tbok ⟨23, [(0, vs aS)], []⟩ ?_
  refine swp_seq ?_
  refine srk tbok ⟨23, [(0, vs aS), (3, vi 0)], []⟩ ?_
  refine swp_seqE (r := r) h (fun j1 => ⟨23, [(0, vs aS)], []⟩) (fun v2 h => ?_) (fun j1 h => ?_)
  refine swp_blk (a := v2) ?_
  refine swp_lpL (r := v2) (s := (0, ())) _ (fun s3 => ⟨23, [(0, vs aS), (3, vi s3.1)], []⟩) _ (Le.sub0) h (fun s3 v4 h => ?_)
  refine swp_seq ?_
  refine srk tbok ⟨23, [(0, vs aS), (3, vi s3.1), (7, vb (decide (s3.1 < (aS.size : Int))))], []⟩ ?_
  refine swp_cd h (fun h => ?_) fun h => ?_
  refine swp_skip ?_
  refine nx_n ?_
  refine swp_seq ?_
  refine swp_seqL (r := v4) h (fun j5 => ⟨23, [(0, vs aS), (3, vi s3.1)], []⟩) (fun v6 h => ?_) (fun j5 h => ?_)
  refine swp_blk (a := v6) ?_
  refine swp_seq ?_
  refine swp_regJ h (fun j9 => ⟨23, [(0, vs aS), (3, vi s3.1), (19, vb j9)], []⟩) (fun v10 h => ?_) (fun j9 h => ?_)
  refine SRun.ck tbok 2 ⟨23, [(0, vs aS), (3, vi s3.1), (10, vs aS), (11, vi s3.1)], []⟩ ?_
  obtain ⟨x7, hx7, h⟩ := bind_some h
  refine SRun.ls (x_byte (ti := ti9) (k := .i64) hx7 tbok rfl) ?_
  refine SRun.ck tbok 2 ⟨23, [(0, vs aS), (3, vi s3.1), (14, vb (decide (x7 < 97)))], []⟩ ?_
  refine SRun.cu [(14, fun b => b)] h (fun h => ?_) fun h => ?_
  refine SRun.ck tbok 5 ⟨23, [(0, vs aS), (3, vi s3.1), (19, vb true)], []⟩ ?_
  refine SRun.nil ?_
  obtain rfl := inj h
  exact Le.sub0
  refine SRun.ck tbok 2 ⟨23, [(0, vs aS), (3, vi s3.1), (14, vb false), (15, vs aS), (16, vi s3.1)], []⟩ ?_
  obtain ⟨x8, hx8, h⟩ := bind_some h
  refine SRun.ls (x_byte (ti := ti9) (k := .i64) hx8 tbok rfl) ?_
  refine SRun.ck tbok 2 ⟨23, [(0, vs aS), (3, vi s3.1), (19, vb (decide (x8 > 122)))], []⟩ ?_
  refine SRun.nil ?_
  obtain rfl := inj h
  exact Le.sub0
  refine swp_cd h (fun h => ?_) fun h => ?_
  refine srk tbok ⟨23, [(2, vb false)], []⟩ ?_
  refine swp_ret ?_
  obtain rfl := inj h
  exact q_br (q_rr (q_rr (q_br (q_rr (q_fr (f1 fv))))))
  refine swp_skip ?_
  obtain rfl := inj h
  exact q_bn (q_l (Le.sub0))
  refine swp_reg ?_
  refine SRun.ck tbok 3 ⟨23, [(0, vs aS), (3, vi (w64 (s3.1 + 1)))], []⟩ ?_
  refine SRun.nil ?_
  obtain rfl := inj h
  exact q_l (Le.sub0)
  refine swp_exit ?_
  obtain rfl := inj h
  exact nx_e (q_re (q_bh (q_l (Le.sub0))))
  refine sr ?_
  refine SRun.ck tbok 2 ⟨23, [(21, vi (aS.size : Int))], []⟩ ?_
  obtain ⟨x11, hx11, h⟩ := bind_some h
  refine SRun.ls (xc ents136 (spec_l01In_run (aS.size : Int) 1 16 _ hx11)) ?_
  refine ckn tbok 1 ⟨23, [(2, vb x11)], []⟩ ?_
  refine swp_ret ?_
  obtain rfl := inj h
  exact q_fr (f1 fv)
theorem ents89 : Ents Tryz.prog 89 := ents_of Tryz.func89 (by kernel_rfl) rfl
noncomputable def spec_l01Split (aS : ByteArray) (aBy : Int) : Option ((List ByteArray)) :=
  (((forH (fun (i3 : Int) (_ : Int × (List ByteArray)) => (decide (i3 ≤ (aS.size : Int)))) (fun (i3 : Int) (s3 : Int × (List ByteArray)) => (((bif (i3 == (aS.size : Int)) then some true else ((byte' aS i3).bind fun x7 => some (x7 == aBy)))).bind fun (j8 : Bool) => (bif j8 then ((sub' aS s3.1 i3).bind fun x10 => ((app' s3.2 ([x10] : List ByteArray)).bind fun x11 => some ((w64 (i3 + 1)), x11))) else some (s3.1, s3.2)))) (fun (s3 : Int × (List ByteArray)) => s3.2) 0 (0, ([] : List ByteArray)))).bind fun (j1 : (List ByteArray)) => some j1)
theorem spec_l01Split_run (aS : ByteArray) (aBy : Int) (r : (List ByteArray)) (h : spec_l01Split aS aBy = some r) : SCall Tryz.prog 156 [.v (vs aS), .v (.tr (.int .u8 aBy))] ⟨[.own 9 1 r.length (r.map eS)], [], false⟩ := by
  refine scall_in Tryz.func156 rfl [(.tmp 4)] rfl (fun r => ⟨[.own 9 1 r.length (r.map eS)], [], false⟩) (r := r) ?_
  unfold spec_l01Split at h
  refine srk tbok ⟨36, [(0, vs aS), (1, .tr (.int .u8 aBy))], []⟩ ?_
  refine srk tbok ⟨36, [(0, vs aS), (1, .tr (.int .u8 aBy)), (5, .own 8)], [(8, oa 9 1 eS ([] : List ByteArray))]⟩ ?_
  refine srk tbok ⟨36, [(0, vs aS), (1, .tr (.int .u8 aBy)), (5, .own 8), (6, vi 0)], [(8, oa 9 1 eS ([] : List ByteArray))]⟩ ?_
  refine swp_seq ?_
  refine srk tbok ⟨36, [(0, vs aS), (1, .tr (.int .u8 aBy)), (5, .own 8), (6, vi 0), (7, vi 0)], [(8, oa 9 1 eS ([] : List ByteArray))]⟩ ?_
  refine swp_seqJ h (fun j1 => ⟨36, [(5, .own 5)], [(5, oa 9 1 eS j1)]⟩) (fun v2 h => ?_) (fun j1 h => ?_)
  refine swp_blk (a := v2) ?_
  refine swp_lpL (r := v2) (s := (0, 0, ([] : List ByteArray))) _ (fun s3 => ⟨36, [(0, vs aS), (1, .tr (.int .u8 aBy)), (5, .own 5), (6, vi s3.2.1), (7, vi s3.1)], [(5, oa 9 1 eS s3.2.2)]⟩) _ (Le.rr [8] [(8, 5)]) h (fun s3 v4 h => ?_)
  refine swp_seq ?_
  refine srk tbok ⟨36, [(0, vs aS), (1, .tr (.int .u8 aBy)), (5, .own 5), (6, vi s3.2.1), (7, vi s3.1), (12, vb (decide (s3.1 ≤ (aS.size : Int))))], [(5, oa 9 1 eS s3.2.2)]⟩ ?_
  refine swp_cd h (fun h => ?_) fun h => ?_
  refine swp_skip ?_
  refine nx_n ?_
  refine swp_seq ?_
  refine swp_seqJ h (fun j5 => ⟨36, [(0, vs aS), (1, .tr (.int .u8 aBy)), (5, .own 5), (6, vi j5.1), (7, vi s3.1)], [(5, oa 9 1 eS j5.2)]⟩) (fun v6 h => ?_) (fun j5 h => ?_)
  refine swp_blk (a := v6) ?_
  refine swp_seq ?_
  refine swp_regJ h (fun j8 => ⟨36, [(0, vs aS), (1, .tr (.int .u8 aBy)), (5, .own 5), (6, vi s3.2.1), (7, vi s3.1), (25, vb j8)], [(5, oa 9 1 eS s3.2.2)]⟩) (fun v9 h => ?_) (fun j8 h => ?_)
  refine SRun.ck tbok 5 ⟨36, [(0, vs aS), (1, .tr (.int .u8 aBy)), (5, .own 5), (6, vi s3.2.1), (7, vi s3.1), (19, vb (s3.1 == (aS.size : Int)))], [(5, oa 9 1 eS s3.2.2)]⟩ ?_
  refine SRun.cu [(19, fun b => b)] h (fun h => ?_) fun h => ?_
  refine SRun.ck tbok 6 ⟨36, [(0, vs aS), (1, .tr (.int .u8 aBy)), (5, .own 5), (6, vi s3.2.1), (7, vi s3.1), (25, vb true)], [(5, oa 9 1 eS s3.2.2)]⟩ ?_
  refine SRun.nil ?_
  obtain rfl := inj h
  exact Le.sub0
  refine SRun.ck tbok 2 ⟨36, [(0, vs aS), (1, .tr (.int .u8 aBy)), (5, .own 5), (6, vi s3.2.1), (7, vi s3.1), (19, vb false), (20, vs aS), (21, vi s3.1)], [(5, oa 9 1 eS s3.2.2)]⟩ ?_
  obtain ⟨x7, hx7, h⟩ := bind_some h
  refine SRun.ls (x_byte (ti := ti9) (k := .i64) hx7 tbok rfl) ?_
  refine SRun.ck tbok 3 ⟨36, [(0, vs aS), (1, .tr (.int .u8 aBy)), (5, .own 5), (6, vi s3.2.1), (7, vi s3.1), (25, vb (x7 == aBy))], [(5, oa 9 1 eS s3.2.2)]⟩ ?_
  refine SRun.nil ?_
  obtain rfl := inj h
  exact Le.sub0
  refine swp_cd h (fun h => ?_) fun h => ?_
  refine sr ?_
  refine SRun.ck tbok 4 ⟨36, [(0, vs aS), (1, .tr (.int .u8 aBy)), (7, vi s3.1), (26, .own 5), (27, vs aS), (28, vi s3.2.1), (29, vi s3.1)], [(5, oa 9 1 eS s3.2.2)]⟩ ?_
  obtain ⟨x10, hx10, h⟩ := bind_some h
  refine SRun.ls (x_sub (ti := ti9) hx10 tbok rfl) ?_
  refine SRun.ck tbok 1 ⟨36, [(0, vs aS), (1, .tr (.int .u8 aBy)), (7, vi s3.1), (26, .own 5), (31, .own 31)], [(5, oa 9 1 eS s3.2.2), (31, oa 9 1 eS ([x10] : List ByteArray))]⟩ ?_
  obtain ⟨x11, hx11, h⟩ := bind_some h
  refine SRun.estep (x_append (f := eS) (t := 28) (ti := ti28) (tj := ti9) (zs := [.string (ByteArray.mk #[])]) (e := 9) (m := 1) (d := 5) (xv := .own 31) hx11 tbok rfl rfl rfl rfl (x_src_o (e := 9))) ?_
  refine ckn tbok 1 ⟨36, [(0, vs aS), (1, .tr (.int .u8 aBy)), (5, .own 32), (7, vi s3.1)], [(32, oa 9 1 eS x11)]⟩ ?_
  refine swp_reg ?_
  refine SRun.ck tbok 3 ⟨36, [(0, vs aS), (1, .tr (.int .u8 aBy)), (5, .own 32), (6, vi (w64 (s3.1 + 1))), (7, vi s3.1)], [(32, oa 9 1 eS x11)]⟩ ?_
  refine SRun.nil ?_
  obtain rfl := inj h
  exact q_bn (q_j (Le.rr [32] [(32, 5)]))
  refine swp_skip ?_
  obtain rfl := inj h
  exact q_bn (q_j (Le.sub0))
  refine swp_reg ?_
  refine SRun.ck tbok 3 ⟨36, [(0, vs aS), (1, .tr (.int .u8 aBy)), (5, .own 5), (6, vi j5.1), (7, vi (w64 (s3.1 + 1)))], [(5, oa 9 1 eS j5.2)]⟩ ?_
  refine SRun.nil ?_
  obtain rfl := inj h
  exact q_l (Le.sub0)
  refine swp_exit ?_
  obtain rfl := inj h
  exact nx_e (q_re (q_bh (q_j (Le.sub0))))
  refine srk tbok ⟨36, [(4, .own 5)], [(5, oa 9 1 eS j1)]⟩ ?_
  refine swp_ret ?_
  obtain rfl := inj h
  exact q_fr (f1 (fo eS_flat))
theorem ents156 : Ents Tryz.prog 156 := ents_of Tryz.func156 (by kernel_rfl) rfl
noncomputable def spec_l01Phrase (aS : ByteArray) : Option ((List ByteArray) × Bool) :=
  ((spec_l01Split aS 32).bind fun x1 => (((forN (x1.length : Int) (fun (i4 : Int) (_ : Unit) => ((at' x1 i4).bind fun x8 => ((spec_IsWord x8).bind fun x9 => (bif (!x9) then some (.inr (.inr (([] : List ByteArray), false))) else some (.inl ()))))) (fun (_ : Unit) => .inl ()) 0 ())).bind (Sum.elim (fun (_ : Unit) => some (x1, (decide ((x1.length : Int) ≤ 8)))) some)))
theorem spec_l01Phrase_run (aS : ByteArray) (r : (List ByteArray) × Bool) (h : spec_l01Phrase aS = some r) : SCall Tryz.prog 121 [.v (vs aS)] ⟨[.own 9 1 r.1.length (r.1.map eS), .v (vb r.2)], [], false⟩ := by
  refine scall_in Tryz.func121 rfl [(.tmp 2), (.tmp 3)] rfl (fun r => ⟨[.own 9 1 r.1.length (r.1.map eS), .v (vb r.2)], [], false⟩) (r := r) ?_
  unfold spec_l01Phrase at h
  refine srk tbok ⟨24, [(0, vs aS)], []⟩ ?_
  refine sr ?_
  refine SRun.ck tbok 1 ⟨24, [(6, vs aS)], []⟩ ?_
  obtain ⟨x1, hx1, h⟩ := bind_some h
  refine SRun.ls (xc ents156 (spec_l01Split_run aS 32 _ hx1)) ?_
  refine ckn tbok 1 ⟨24, [(4, .own 7)], [(7, oa 9 1 eS x1)]⟩ ?_
  refine swp_seq ?_
  refine srk tbok ⟨24, [(4, .own 7), (5, vi 0)], [(7, oa 9 1 eS x1)]⟩ ?_
  refine swp_seqE (r := r) h (fun j2 => ⟨24, [(4, .own 4)], [(4, oa 9 1 eS x1)]⟩) (fun v3 h => ?_) (fun j2 h => ?_)
  refine swp_blk (a := v3) ?_
  refine swp_lpL (r := v3) (s := (0, ())) _ (fun s4 => ⟨24, [(4, .own 4), (5, vi s4.1)], [(4, oa 9 1 eS x1)]⟩) _ (Le.rr [7] [(7, 4)]) h (fun s4 v5 h => ?_)
  refine swp_seq ?_
  refine srk tbok ⟨24, [(4, .own 4), (5, vi s4.1), (11, vb (decide (s4.1 < (x1.length : Int))))], [(4, oa 9 1 eS x1)]⟩ ?_
  refine swp_cd h (fun h => ?_) fun h => ?_
  refine swp_skip ?_
  refine nx_n ?_
  refine swp_seq ?_
  refine swp_seqL (r := v5) h (fun j6 => ⟨24, [(4, .own 4), (5, vi s4.1)], [(4, oa 9 1 eS x1)]⟩) (fun v7 h => ?_) (fun j6 h => ?_)
  refine swp_blk (a := v7) ?_
  refine sr ?_
  refine SRun.ck tbok 2 ⟨24, [(4, .own 4), (5, vi s4.1), (14, .own 4), (15, vi s4.1)], [(4, oa 9 1 eS x1)]⟩ ?_
  obtain ⟨x8, hx8, h⟩ := bind_some h
  refine SRun.ls (x_index_own (d := 4) (L := x1) (f := eS) (ti := ti28) (tj := ti9) (e := 9) (e' := 9) (m := 1) (k := .i64) tbok rfl hx8) ?_
  refine SRun.ls (x_load_own (d := 4) (m := 1) (j := 0) (L := x1) (f := eS) (ti := ti9) (e := 9) (v := vs x8) tbok rfl hx8) ?_
  obtain ⟨x9, hx9, h⟩ := bind_some h
  refine SRun.ls (xc ents89 (spec_IsWord_run x8 _ hx9)) ?_
  refine ckn tbok 1 ⟨24, [(4, .own 4), (5, vi s4.1), (19, vb (!x9))], [(4, oa 9 1 eS x1)]⟩ ?_
  refine swp_cd h (fun h => ?_) fun h => ?_
  refine srk tbok ⟨24, [(2, .own 2), (3, vb false)], [(2, oa 9 1 eS ([] : List ByteArray))]⟩ ?_
  refine swp_ret ?_
  obtain rfl := inj h
  exact q_br (q_rr (q_rr (q_br (q_rr (q_fr (f2 (fo eS_flat) fv))))))
  refine swp_skip ?_
  obtain rfl := inj h
  exact q_bn (q_l (Le.sub0))
  refine swp_reg ?_
  refine SRun.ck tbok 3 ⟨24, [(4, .own 4), (5, vi (w64 (s4.1 + 1)))], [(4, oa 9 1 eS x1)]⟩ ?_
  refine SRun.nil ?_
  obtain rfl := inj h
  exact q_l (Le.sub0)
  refine swp_exit ?_
  obtain rfl := inj h
  exact nx_e (q_re (q_bh (q_l (Le.sub0))))
  refine srk tbok ⟨24, [(2, .own 4), (3, vb (decide ((x1.length : Int) ≤ 8)))], [(4, oa 9 1 eS x1)]⟩ ?_
  refine swp_ret ?_
  obtain rfl := inj h
  exact q_fr (f2 (fo eS_flat) fv)
theorem ents121 : Ents Tryz.prog 121 := ents_of Tryz.func121 (by kernel_rfl) rfl
noncomputable def spec_IsPhrase (aS : ByteArray) : Option (Bool) :=
  ((spec_l01Phrase aS).bind fun x1 => some x1.2)
theorem spec_IsPhrase_run (aS : ByteArray) (r : Bool) (h : spec_IsPhrase aS = some r) : SCall Tryz.prog 76 [.v (vs aS)] ⟨[.v (vb r)], [], false⟩ := by
  refine scall_in Tryz.func76 rfl [(.tmp 2)] rfl (fun r => ⟨[.v (vb r)], [], false⟩) (r := r) ?_
  unfold spec_IsPhrase at h
  refine srk tbok ⟨11, [(0, vs aS)], []⟩ ?_
  refine sr ?_
  refine SRun.ck tbok 1 ⟨11, [(6, vs aS)], []⟩ ?_
  obtain ⟨x1, hx1, h⟩ := bind_some h
  refine SRun.ls (xc ents121 (spec_l01Phrase_run aS _ hx1)) ?_
  refine ckn tbok 5 ⟨11, [(4, vb x1.2)], []⟩ ?_
  refine srk tbok ⟨11, [(2, vb x1.2)], []⟩ ?_
  refine swp_ret ?_
  obtain rfl := inj h
  exact q_fr (f1 fv)
theorem ents76 : Ents Tryz.prog 76 := ents_of Tryz.func76 (by kernel_rfl) rfl
noncomputable def spec_IsPoint (aP : Point) : Option (Bool) :=
  ((((spec_l01In aP.X (-1000) 1000).bind fun x1 => (bif x1 then ((spec_l01In aP.Y (-1000) 1000).bind fun x2 => some x2) else some false))).bind fun (j3 : Bool) => some j3)
theorem spec_IsPoint_run (aP : Point) (r : Bool) (h : spec_IsPoint aP = some r) : SCall Tryz.prog 90 [.v (.agg (tc ePoint aP))] ⟨[.v (vb r)], [], false⟩ := by
  refine scall_in Tryz.func90 rfl [(.tmp 2)] rfl (fun r => ⟨[.v (vb r)], [], false⟩) (r := r) ?_
  unfold spec_IsPoint at h
  refine srk tbok ⟨11, [(1, .ref 1 0)], [(1, .box (tc ePoint aP))]⟩ ?_
  refine swp_seq ?_
  refine swp_regJ h (fun j3 => ⟨11, [(2, vb j3)], []⟩) (fun v4 h => ?_) (fun j3 h => ?_)
  refine SRun.ck tbok 2 ⟨11, [(1, .ref 1 0), (4, vi aP.X)], [(1, .box (tc ePoint aP))]⟩ ?_
  obtain ⟨x1, hx1, h⟩ := bind_some h
  refine SRun.ls (xc ents136 (spec_l01In_run aP.X (-1000) 1000 _ hx1)) ?_
  refine SRun.ck tbok 1 ⟨11, [(1, .ref 1 0), (6, vb x1)], [(1, .box (tc ePoint aP))]⟩ ?_
  refine SRun.cu [(6, fun b => b)] h (fun h => ?_) fun h => ?_
  refine SRun.ck tbok 2 ⟨11, [(6, vb true), (8, vi aP.Y)], []⟩ ?_
  obtain ⟨x2, hx2, h⟩ := bind_some h
  refine SRun.ls (xc ents136 (spec_l01In_run aP.Y (-1000) 1000 _ hx2)) ?_
  refine SRun.ck tbok 2 ⟨11, [(2, vb x2)], []⟩ ?_
  refine SRun.nil ?_
  obtain rfl := inj h
  exact Le.sub0
  refine SRun.ck tbok 5 ⟨11, [(2, vb false)], []⟩ ?_
  refine SRun.nil ?_
  obtain rfl := inj h
  exact Le.sub0
  refine swp_ret ?_
  obtain rfl := inj h
  exact q_fr (f1 fv)
theorem ents90 : Ents Tryz.prog 90 := ents_of Tryz.func90 (by kernel_rfl) rfl
noncomputable def spec_l30Find (aList : (List Candidate)) (aCode : ByteArray) : Option (Int) :=
  (((forN (aList.length : Int) (fun (i3 : Int) (_ : Unit) => ((at' aList i3).bind fun x7 => (bif (x7.Code.toList == aCode.toList) then some (.inr (.inr i3)) else some (.inl ())))) (fun (_ : Unit) => .inl ()) 0 ())).bind (Sum.elim (fun (_ : Unit) => some (-1)) some))
theorem spec_l30Find_run (aList : (List Candidate)) (aCode : ByteArray) (r : Int) (h : spec_l30Find aList aCode = some r) : SCall Tryz.prog 53 [.v (vl eCandidate aList), .v (vs aCode)] ⟨[.v (vi r)], [], false⟩ := by
  refine scall_in Tryz.func53 rfl [(.tmp 4)] rfl (fun r => ⟨[.v (vi r)], [], false⟩) (r := r) ?_
  unfold spec_l30Find at h
  refine srk tbok ⟨20, [(0, vl eCandidate aList), (1, vs aCode)], []⟩ ?_
  refine swp_seq ?_
  refine srk tbok ⟨20, [(0, vl eCandidate aList), (1, vs aCode), (5, vi 0)], []⟩ ?_
  refine swp_seqE (r := r) h (fun j1 => ⟨20, [], []⟩) (fun v2 h => ?_) (fun j1 h => ?_)
  refine swp_blk (a := v2) ?_
  refine swp_lpL (r := v2) (s := (0, ())) _ (fun s3 => ⟨20, [(0, vl eCandidate aList), (1, vs aCode), (5, vi s3.1)], []⟩) _ (Le.sub0) h (fun s3 v4 h => ?_)
  refine swp_seq ?_
  refine srk tbok ⟨20, [(0, vl eCandidate aList), (1, vs aCode), (5, vi s3.1), (9, vb (decide (s3.1 < (aList.length : Int))))], []⟩ ?_
  refine swp_cd h (fun h => ?_) fun h => ?_
  refine swp_skip ?_
  refine nx_n ?_
  refine swp_seq ?_
  refine swp_seqL (r := v4) h (fun j5 => ⟨20, [(0, vl eCandidate aList), (1, vs aCode), (5, vi s3.1)], []⟩) (fun v6 h => ?_) (fun j5 h => ?_)
  refine swp_blk (a := v6) ?_
  refine sr ?_
  refine SRun.ck tbok 2 ⟨20, [(0, vl eCandidate aList), (1, vs aCode), (5, vi s3.1), (12, vl eCandidate aList), (13, vi s3.1)], []⟩ ?_
  obtain ⟨x7, hx7, h⟩ := bind_some h
  refine SRun.ls (x_index (L := aList) (f := eCandidate) (ti := ti31) (tj := ti87) (e := 87) (k := .i64) tbok rfl hx7) ?_
  refine ckn tbok 4 ⟨20, [(0, vl eCandidate aList), (1, vs aCode), (5, vi s3.1), (18, vb (x7.Code.toList == aCode.toList))], []⟩ ?_
  refine swp_cd h (fun h => ?_) fun h => ?_
  refine srk tbok ⟨20, [(4, vi s3.1)], []⟩ ?_
  refine swp_ret ?_
  obtain rfl := inj h
  exact q_br (q_rr (q_rr (q_br (q_rr (q_fr (f1 fv))))))
  refine swp_skip ?_
  obtain rfl := inj h
  exact q_bn (q_l (Le.sub0))
  refine swp_reg ?_
  refine SRun.ck tbok 3 ⟨20, [(0, vl eCandidate aList), (1, vs aCode), (5, vi (w64 (s3.1 + 1)))], []⟩ ?_
  refine SRun.nil ?_
  obtain rfl := inj h
  exact q_l (Le.sub0)
  refine swp_exit ?_
  obtain rfl := inj h
  exact nx_e (q_re (q_bh (q_l (Le.sub0))))
  refine srk tbok ⟨20, [(4, vi (-1))], []⟩ ?_
  refine swp_ret ?_
  obtain rfl := inj h
  exact q_fr (f1 fv)
theorem ents53 : Ents Tryz.prog 53 := ents_of Tryz.func53 (by kernel_rfl) rfl
noncomputable def spec_AreCandidates (aList : (List Candidate)) : Option (Bool) :=
  (((forN (aList.length : Int) (fun (i3 : Int) (_ : Unit) => ((at' aList i3).bind fun x7 => ((((spec_IsWord x7.Code).bind fun x8 => (bif (!x8) then some true else ((spec_IsPhrase x7.Text).bind fun x9 => (bif (!x9) then some true else ((spec_IsPoint x7.At).bind fun x10 => (bif (!x10) then some true else ((spec_l30Find aList x7.Code).bind fun x11 => some (x11 != i3))))))))).bind fun (j12 : Bool) => (bif j12 then some (.inr (.inr false)) else some (.inl ()))))) (fun (_ : Unit) => .inl ()) 0 ())).bind (Sum.elim (fun (_ : Unit) => some (decide ((aList.length : Int) ≤ 10))) some))
theorem spec_AreCandidates_run (aList : (List Candidate)) (r : Bool) (h : spec_AreCandidates aList = some r) : SCall Tryz.prog 46 [.v (vl eCandidate aList)] ⟨[.v (vb r)], [], false⟩ := by
  refine scall_in Tryz.func46 rfl [(.tmp 2)] rfl (fun r => ⟨[.v (vb r)], [], false⟩) (r := r) ?_
  unfold spec_AreCandidates at h
  refine srk tbok ⟨42, [(0, vl eCandidate aList)], []⟩ ?_
  refine swp_seq ?_
  refine srk tbok ⟨42, [(0, vl eCandidate aList), (3, vi 0)], []⟩ ?_
  refine swp_seqE (r := r) h (fun j1 => ⟨42, [(0, vl eCandidate aList)], []⟩) (fun v2 h => ?_) (fun j1 h => ?_)
  refine swp_blk (a := v2) ?_
  refine swp_lpL (r := v2) (s := (0, ())) _ (fun s3 => ⟨42, [(0, vl eCandidate aList), (3, vi s3.1)], []⟩) _ (Le.sub0) h (fun s3 v4 h => ?_)
  refine swp_seq ?_
  refine srk tbok ⟨42, [(0, vl eCandidate aList), (3, vi s3.1), (8, vb (decide (s3.1 < (aList.length : Int))))], []⟩ ?_
  refine swp_cd h (fun h => ?_) fun h => ?_
  refine swp_skip ?_
  refine nx_n ?_
  refine swp_seq ?_
  refine swp_seqL (r := v4) h (fun j5 => ⟨42, [(0, vl eCandidate aList), (3, vi s3.1)], []⟩) (fun v6 h => ?_) (fun j5 h => ?_)
  refine swp_blk (a := v6) ?_
  refine sr ?_
  refine SRun.ck tbok 2 ⟨42, [(0, vl eCandidate aList), (3, vi s3.1), (11, vl eCandidate aList), (12, vi s3.1)], []⟩ ?_
  obtain ⟨x7, hx7, h⟩ := bind_some h
  refine SRun.ls (x_index (L := aList) (f := eCandidate) (ti := ti31) (tj := ti87) (e := 87) (k := .i64) tbok rfl hx7) ?_
  refine ckn tbok 3 ⟨42, [(0, vl eCandidate aList), (3, vi s3.1), (4, .ref 4 0)], [(4, .box (tc eCandidate x7))]⟩ ?_
  refine swp_seq ?_
  refine swp_regJ h (fun j12 => ⟨42, [(0, vl eCandidate aList), (3, vi s3.1), (38, vb j12)], []⟩) (fun v13 h => ?_) (fun j12 h => ?_)
  refine SRun.ck tbok 2 ⟨42, [(0, vl eCandidate aList), (3, vi s3.1), (4, .ref 4 0), (16, vs x7.Code)], [(4, .box (tc eCandidate x7))]⟩ ?_
  obtain ⟨x8, hx8, h⟩ := bind_some h
  refine SRun.ls (xc ents89 (spec_IsWord_run x7.Code _ hx8)) ?_
  refine SRun.ck tbok 2 ⟨42, [(0, vl eCandidate aList), (3, vi s3.1), (4, .ref 4 0), (19, vb (!x8))], [(4, .box (tc eCandidate x7))]⟩ ?_
  refine SRun.cu [(19, fun b => b)] h (fun h => ?_) fun h => ?_
  refine SRun.ck tbok 19 ⟨42, [(0, vl eCandidate aList), (3, vi s3.1), (38, vb true)], []⟩ ?_
  refine SRun.nil ?_
  obtain rfl := inj h
  exact Le.sub0
  refine SRun.ck tbok 2 ⟨42, [(0, vl eCandidate aList), (3, vi s3.1), (4, .ref 4 0), (19, vb false), (21, vs x7.Text)], [(4, .box (tc eCandidate x7))]⟩ ?_
  obtain ⟨x9, hx9, h⟩ := bind_some h
  refine SRun.ls (xc ents76 (spec_IsPhrase_run x7.Text _ hx9)) ?_
  refine SRun.ck tbok 3 ⟨42, [(0, vl eCandidate aList), (3, vi s3.1), (4, .ref 4 0), (25, vb (!x9))], [(4, .box (tc eCandidate x7))]⟩ ?_
  refine SRun.cu [(25, fun b => b)] h (fun h => ?_) fun h => ?_
  refine SRun.ck tbok 13 ⟨42, [(0, vl eCandidate aList), (3, vi s3.1), (38, vb true)], []⟩ ?_
  refine SRun.nil ?_
  obtain rfl := inj h
  exact Le.sub0
  refine SRun.ck tbok 2 ⟨42, [(0, vl eCandidate aList), (3, vi s3.1), (4, .ref 4 0), (25, vb false), (27, .agg (tc ePoint x7.At))], [(4, .box (tc eCandidate x7))]⟩ ?_
  obtain ⟨x10, hx10, h⟩ := bind_some h
  refine SRun.ls (xc ents90 (spec_IsPoint_run x7.At _ hx10)) ?_
  refine SRun.ck tbok 3 ⟨42, [(0, vl eCandidate aList), (3, vi s3.1), (4, .ref 4 0), (31, vb (!x10))], [(4, .box (tc eCandidate x7))]⟩ ?_
  refine SRun.cu [(31, fun b => b)] h (fun h => ?_) fun h => ?_
  refine SRun.ck tbok 7 ⟨42, [(0, vl eCandidate aList), (3, vi s3.1), (38, vb true)], []⟩ ?_
  refine SRun.nil ?_
  obtain rfl := inj h
  exact Le.sub0
  refine SRun.ck tbok 3 ⟨42, [(0, vl eCandidate aList), (3, vi s3.1), (31, vb false), (32, vl eCandidate aList), (34, vs x7.Code)], []⟩ ?_
  obtain ⟨x11, hx11, h⟩ := bind_some h
  refine SRun.ls (xc ents53 (spec_l30Find_run aList x7.Code _ hx11)) ?_
  refine SRun.ck tbok 3 ⟨42, [(0, vl eCandidate aList), (3, vi s3.1), (38, vb (x11 != s3.1))], []⟩ ?_
  refine SRun.nil ?_
  obtain rfl := inj h
  exact Le.sub0
  refine swp_cd h (fun h => ?_) fun h => ?_
  refine srk tbok ⟨42, [(2, vb false)], []⟩ ?_
  refine swp_ret ?_
  obtain rfl := inj h
  exact q_br (q_rr (q_rr (q_br (q_rr (q_fr (f1 fv))))))
  refine swp_skip ?_
  obtain rfl := inj h
  exact q_bn (q_l (Le.sub0))
  refine swp_reg ?_
  refine SRun.ck tbok 3 ⟨42, [(0, vl eCandidate aList), (3, vi (w64 (s3.1 + 1)))], []⟩ ?_
  refine SRun.nil ?_
  obtain rfl := inj h
  exact q_l (Le.sub0)
  refine swp_exit ?_
  obtain rfl := inj h
  exact nx_e (q_re (q_bh (q_l (Le.sub0))))
  refine srk tbok ⟨42, [(2, vb (decide ((aList.length : Int) ≤ 10)))], []⟩ ?_
  refine swp_ret ?_
  obtain rfl := inj h
  exact q_fr (f1 fv)
theorem ents46 : Ents Tryz.prog 46 := ents_of Tryz.func46 (by kernel_rfl) rfl
noncomputable def spec_l26Word (aDirection : Int) : Option (ByteArray) :=
  ((at' ([(ByteArray.mk #[110, 111, 114, 116, 104]), (ByteArray.mk #[110, 111, 114, 116, 104, 101, 97, 115, 116]), (ByteArray.mk #[101, 97, 115, 116]), (ByteArray.mk #[115, 111, 117, 116, 104, 101, 97, 115, 116]), (ByteArray.mk #[115, 111, 117, 116, 104]), (ByteArray.mk #[115, 111, 117, 116, 104, 119, 101, 115, 116]), (ByteArray.mk #[119, 101, 115, 116]), (ByteArray.mk #[110, 111, 114, 116, 104, 119, 101, 115, 116])] : List ByteArray) aDirection).bind fun x1 => some x1)
theorem spec_l26Word_run (aDirection : Int) (r : ByteArray) (h : spec_l26Word aDirection = some r) : SCall Tryz.prog 98 [.v (vi aDirection)] ⟨[.v (vs r)], [], false⟩ := by
  refine scall_in Tryz.func98 rfl [(.tmp 2)] rfl (fun r => ⟨[.v (vs r)], [], false⟩) (r := r) ?_
  unfold spec_l26Word at h
  refine srk tbok ⟨7, [(0, vi aDirection)], []⟩ ?_
  refine sr ?_
  refine SRun.ck tbok 2 ⟨7, [(3, .own 3), (4, vi aDirection)], [(3, oa 9 1 eS ([(ByteArray.mk #[110, 111, 114, 116, 104]), (ByteArray.mk #[110, 111, 114, 116, 104, 101, 97, 115, 116]), (ByteArray.mk #[101, 97, 115, 116]), (ByteArray.mk #[115, 111, 117, 116, 104, 101, 97, 115, 116]), (ByteArray.mk #[115, 111, 117, 116, 104]), (ByteArray.mk #[115, 111, 117, 116, 104, 119, 101, 115, 116]), (ByteArray.mk #[119, 101, 115, 116]), (ByteArray.mk #[110, 111, 114, 116, 104, 119, 101, 115, 116])] : List ByteArray))]⟩ ?_
  obtain ⟨x1, hx1, h⟩ := bind_some h
  refine SRun.ls (x_index_own (d := 3) (L := ([(ByteArray.mk #[110, 111, 114, 116, 104]), (ByteArray.mk #[110, 111, 114, 116, 104, 101, 97, 115, 116]), (ByteArray.mk #[101, 97, 115, 116]), (ByteArray.mk #[115, 111, 117, 116, 104, 101, 97, 115, 116]), (ByteArray.mk #[115, 111, 117, 116, 104]), (ByteArray.mk #[115, 111, 117, 116, 104, 119, 101, 115, 116]), (ByteArray.mk #[119, 101, 115, 116]), (ByteArray.mk #[110, 111, 114, 116, 104, 119, 101, 115, 116])] : List ByteArray)) (f := eS) (ti := ti28) (tj := ti9) (e := 9) (e' := 9) (m := 1) (k := .i64) tbok rfl hx1) ?_
  refine SRun.ls (x_load_own (d := 3) (m := 1) (j := 0) (L := ([(ByteArray.mk #[110, 111, 114, 116, 104]), (ByteArray.mk #[110, 111, 114, 116, 104, 101, 97, 115, 116]), (ByteArray.mk #[101, 97, 115, 116]), (ByteArray.mk #[115, 111, 117, 116, 104, 101, 97, 115, 116]), (ByteArray.mk #[115, 111, 117, 116, 104]), (ByteArray.mk #[115, 111, 117, 116, 104, 119, 101, 115, 116]), (ByteArray.mk #[119, 101, 115, 116]), (ByteArray.mk #[110, 111, 114, 116, 104, 119, 101, 115, 116])] : List ByteArray)) (f := eS) (ti := ti9) (e := 9) (v := vs x1) tbok rfl hx1) ?_
  refine ckn tbok 1 ⟨7, [(2, vs x1)], []⟩ ?_
  refine swp_ret ?_
  obtain rfl := inj h
  exact q_fr (f1 fv)
theorem ents98 : Ents Tryz.prog 98 := ents_of Tryz.func98 (by kernel_rfl) rfl
noncomputable def spec_l28Direction (aS : ByteArray) : Option (Int) :=
  (((forN 8 (fun (i3 : Int) (_ : Unit) => ((spec_l26Word i3).bind fun x7 => (bif (x7.toList == aS.toList) then some (.inr (.inr i3)) else some (.inl ())))) (fun (_ : Unit) => .inl ()) 0 ())).bind (Sum.elim (fun (_ : Unit) => some (-1)) some))
theorem spec_l28Direction_run (aS : ByteArray) (r : Int) (h : spec_l28Direction aS = some r) : SCall Tryz.prog 208 [.v (vs aS)] ⟨[.v (vi r)], [], false⟩ := by
  refine scall_in Tryz.func208 rfl [(.tmp 2)] rfl (fun r => ⟨[.v (vi r)], [], false⟩) (r := r) ?_
  unfold spec_l28Direction at h
  refine srk tbok ⟨13, [(0, vs aS)], []⟩ ?_
  refine swp_seq ?_
  refine srk tbok ⟨13, [(0, vs aS), (3, vi 0)], []⟩ ?_
  refine swp_seqE (r := r) h (fun j1 => ⟨13, [], []⟩) (fun v2 h => ?_) (fun j1 h => ?_)
  refine swp_blk (a := v2) ?_
  refine swp_lpL (r := v2) (s := (0, ())) _ (fun s3 => ⟨13, [(0, vs aS), (3, vi s3.1)], []⟩) _ (Le.sub0) h (fun s3 v4 h => ?_)
  refine swp_seq ?_
  refine srk tbok ⟨13, [(0, vs aS), (3, vi s3.1), (5, vb (decide (s3.1 < 8)))], []⟩ ?_
  refine swp_cd h (fun h => ?_) fun h => ?_
  refine swp_skip ?_
  refine nx_n ?_
  refine swp_seq ?_
  refine swp_seqL (r := v4) h (fun j5 => ⟨13, [(0, vs aS), (3, vi s3.1)], []⟩) (fun v6 h => ?_) (fun j5 h => ?_)
  refine swp_blk (a := v6) ?_
  refine sr ?_
  refine SRun.ck tbok 1 ⟨13, [(0, vs aS), (3, vi s3.1), (8, vi s3.1)], []⟩ ?_
  obtain ⟨x7, hx7, h⟩ := bind_some h
  refine SRun.ls (xc ents98 (spec_l26Word_run s3.1 _ hx7)) ?_
  refine ckn tbok 2 ⟨13, [(0, vs aS), (3, vi s3.1), (11, vb (x7.toList == aS.toList))], []⟩ ?_
  refine swp_cd h (fun h => ?_) fun h => ?_
  refine srk tbok ⟨13, [(2, vi s3.1)], []⟩ ?_
  refine swp_ret ?_
  obtain rfl := inj h
  exact q_br (q_rr (q_rr (q_br (q_rr (q_fr (f1 fv))))))
  refine swp_skip ?_
  obtain rfl := inj h
  exact q_bn (q_l (Le.sub0))
  refine swp_reg ?_
  refine SRun.ck tbok 3 ⟨13, [(0, vs aS), (3, vi (w64 (s3.1 + 1)))], []⟩ ?_
  refine SRun.nil ?_
  obtain rfl := inj h
  exact q_l (Le.sub0)
  refine swp_exit ?_
  obtain rfl := inj h
  exact nx_e (q_re (q_bh (q_l (Le.sub0))))
  refine srk tbok ⟨13, [(2, vi (-1))], []⟩ ?_
  refine swp_ret ?_
  obtain rfl := inj h
  exact q_fr (f1 fv)
theorem ents208 : Ents Tryz.prog 208 := ents_of Tryz.func208 (by kernel_rfl) rfl
noncomputable def spec_l28Code (aS : ByteArray) : Option (Bool) :=
  (((((bif (aS.toList == (ByteArray.mk #[97, 116]).toList) then some (aS.toList == (ByteArray.mk #[97, 116]).toList) else (bif (aS.toList == (ByteArray.mk #[110, 101, 97, 114]).toList) then some (aS.toList == (ByteArray.mk #[110, 101, 97, 114]).toList) else (bif (aS.toList == (ByteArray.mk #[111, 102]).toList) then some (aS.toList == (ByteArray.mk #[111, 102]).toList) else (bif (aS.toList == (ByteArray.mk #[98, 101, 116, 119, 101, 101, 110]).toList) then some (aS.toList == (ByteArray.mk #[98, 101, 116, 119, 101, 101, 110]).toList) else (bif (aS.toList == (ByteArray.mk #[97, 110, 100]).toList) then some (aS.toList == (ByteArray.mk #[97, 110, 100]).toList) else (bif (aS.toList == (ByteArray.mk #[109, 105, 108, 101]).toList) then some (aS.toList == (ByteArray.mk #[109, 105, 108, 101]).toList) else (bif (aS.toList == (ByteArray.mk #[109, 105, 108, 101, 115]).toList) then some (aS.toList == (ByteArray.mk #[109, 105, 108, 101, 115]).toList) else (bif (aS.toList == (ByteArray.mk #[108, 101, 97, 103, 117, 101]).toList) then some (aS.toList == (ByteArray.mk #[108, 101, 97, 103, 117, 101]).toList) else some (aS.toList == (ByteArray.mk #[108, 101, 97, 103, 117, 101, 115]).toList)))))))))).bind fun (j3 : Bool) => (bif j3 then some (.inr false) else some (.inl ())))).bind (Sum.elim (fun (_ : Unit) => ((((spec_IsWord aS).bind fun x5 => (bif x5 then ((spec_l28Direction aS).bind fun x6 => some (decide (x6 < 0))) else some false))).bind fun (j7 : Bool) => some j7)) some))
theorem spec_l28Code_run (aS : ByteArray) (r : Bool) (h : spec_l28Code aS = some r) : SCall Tryz.prog 168 [.v (vs aS)] ⟨[.v (vb r)], [], false⟩ := by
  refine scall_in Tryz.func168 rfl [(.tmp 2)] rfl (fun r => ⟨[.v (vb r)], [], false⟩) (r := r) ?_
  unfold spec_l28Code at h
  refine srk tbok ⟨21, [(0, vs aS)], []⟩ ?_
  refine swp_seq ?_
  refine srk tbok ⟨21, [(0, vs aS), (3, vs aS)], []⟩ ?_
  refine swp_seqE (r := r) h (fun j1 => ⟨21, [(0, vs aS)], []⟩) (fun v2 h => ?_) (fun j1 h => ?_)
  refine swp_blk (a := v2) ?_
  refine swp_seq ?_
  refine srk tbok ⟨21, [(0, vs aS), (3, vs aS), (4, vb (aS.toList == (ByteArray.mk #[97, 116]).toList))], []⟩ ?_
  refine swp_seqJ h (fun j3 => ⟨21, [(0, vs aS), (4, vb j3)], []⟩) (fun v4 h => ?_) (fun j3 h => ?_)
  refine swp_cd h (fun h => ?_) fun h => ?_
  refine swp_skip ?_
  obtain rfl := inj h
  exact q_j (Le.sub0)
  refine srk tbok ⟨21, [(0, vs aS), (3, vs aS), (4, vb (aS.toList == (ByteArray.mk #[110, 101, 97, 114]).toList))], []⟩ ?_
  refine swp_cd h (fun h => ?_) fun h => ?_
  refine swp_skip ?_
  obtain rfl := inj h
  exact q_j (Le.sub0)
  refine srk tbok ⟨21, [(0, vs aS), (3, vs aS), (4, vb (aS.toList == (ByteArray.mk #[111, 102]).toList))], []⟩ ?_
  refine swp_cd h (fun h => ?_) fun h => ?_
  refine swp_skip ?_
  obtain rfl := inj h
  exact q_j (Le.sub0)
  refine srk tbok ⟨21, [(0, vs aS), (3, vs aS), (4, vb (aS.toList == (ByteArray.mk #[98, 101, 116, 119, 101, 101, 110]).toList))], []⟩ ?_
  refine swp_cd h (fun h => ?_) fun h => ?_
  refine swp_skip ?_
  obtain rfl := inj h
  exact q_j (Le.sub0)
  refine srk tbok ⟨21, [(0, vs aS), (3, vs aS), (4, vb (aS.toList == (ByteArray.mk #[97, 110, 100]).toList))], []⟩ ?_
  refine swp_cd h (fun h => ?_) fun h => ?_
  refine swp_skip ?_
  obtain rfl := inj h
  exact q_j (Le.sub0)
  refine srk tbok ⟨21, [(0, vs aS), (3, vs aS), (4, vb (aS.toList == (ByteArray.mk #[109, 105, 108, 101]).toList))], []⟩ ?_
  refine swp_cd h (fun h => ?_) fun h => ?_
  refine swp_skip ?_
  obtain rfl := inj h
  exact q_j (Le.sub0)
  refine srk tbok ⟨21, [(0, vs aS), (3, vs aS), (4, vb (aS.toList == (ByteArray.mk #[109, 105, 108, 101, 115]).toList))], []⟩ ?_
  refine swp_cd h (fun h => ?_) fun h => ?_
  refine swp_skip ?_
  obtain rfl := inj h
  exact q_j (Le.sub0)
  refine srk tbok ⟨21, [(0, vs aS), (3, vs aS), (4, vb (aS.toList == (ByteArray.mk #[108, 101, 97, 103, 117, 101]).toList))], []⟩ ?_
  refine swp_cd h (fun h => ?_) fun h => ?_
  refine swp_skip ?_
  obtain rfl := inj h
  exact q_j (Le.sub0)
  refine swp_reg ?_
  refine SRun.ck tbok 2 ⟨21, [(0, vs aS), (4, vb (aS.toList == (ByteArray.mk #[108, 101, 97, 103, 117, 101, 115]).toList))], []⟩ ?_
  refine SRun.nil ?_
  obtain rfl := inj h
  exact q_j (Le.sub0)
  refine swp_cd h (fun h => ?_) fun h => ?_
  refine srk tbok ⟨21, [(2, vb false)], []⟩ ?_
  refine swp_ret ?_
  obtain rfl := inj h
  exact q_br (q_rr (q_fr (f1 fv)))
  refine swp_skip ?_
  obtain rfl := inj h
  exact q_bn (q_l (Le.sub0))
  refine swp_seq ?_
  refine swp_regJ h (fun j7 => ⟨21, [(2, vb j7)], []⟩) (fun v8 h => ?_) (fun j7 h => ?_)
  refine SRun.ck tbok 1 ⟨21, [(0, vs aS), (14, vs aS)], []⟩ ?_
  obtain ⟨x5, hx5, h⟩ := bind_some h
  refine SRun.ls (xc ents89 (spec_IsWord_run aS _ hx5)) ?_
  refine SRun.ck tbok 1 ⟨21, [(0, vs aS), (16, vb x5)], []⟩ ?_
  refine SRun.cu [(16, fun b => b)] h (fun h => ?_) fun h => ?_
  refine SRun.ck tbok 1 ⟨21, [(16, vb true), (17, vs aS)], []⟩ ?_
  obtain ⟨x6, hx6, h⟩ := bind_some h
  refine SRun.ls (xc ents208 (spec_l28Direction_run aS _ hx6)) ?_
  refine SRun.ck tbok 3 ⟨21, [(2, vb (decide (x6 < 0)))], []⟩ ?_
  refine SRun.nil ?_
  obtain rfl := inj h
  exact Le.sub0
  refine SRun.ck tbok 5 ⟨21, [(2, vb false)], []⟩ ?_
  refine SRun.nil ?_
  obtain rfl := inj h
  exact Le.sub0
  refine swp_ret ?_
  obtain rfl := inj h
  exact q_fr (f1 fv)
theorem ents168 : Ents Tryz.prog 168 := ents_of Tryz.func168 (by kernel_rfl) rfl
noncomputable def spec_AreSites (aList : (List Site)) : Option (Bool) :=
  (((forN (aList.length : Int) (fun (i3 : Int) (_ : Unit) => ((((at' aList i3).bind fun x7 => ((spec_l28Code x7.Code).bind fun x8 => (bif (!x8) then some true else ((at' aList i3).bind fun x9 => ((spec_IsPoint x9.At).bind fun x10 => (bif (!x10) then some true else (bif (decide (i3 > 0)) then ((at' aList (w64 (i3 - 1))).bind fun x11 => ((at' aList i3).bind fun x12 => some (!(Op.bytesLess x11.Code.toList x12.Code.toList)))) else some false)))))))).bind fun (j13 : Bool) => (bif j13 then some (.inr (.inr false)) else some (.inl ())))) (fun (_ : Unit) => .inl ()) 0 ())).bind (Sum.elim (fun (_ : Unit) => some (decide ((aList.length : Int) ≤ 10))) some))
theorem spec_AreSites_run (aList : (List Site)) (r : Bool) (h : spec_AreSites aList = some r) : SCall Tryz.prog 149 [.v (vl eSite aList)] ⟨[.v (vb r)], [], false⟩ := by
  refine scall_in Tryz.func149 rfl [(.tmp 2)] rfl (fun r => ⟨[.v (vb r)], [], false⟩) (r := r) ?_
  unfold spec_AreSites at h
  refine srk tbok ⟨47, [(0, vl eSite aList)], []⟩ ?_
  refine swp_seq ?_
  refine srk tbok ⟨47, [(0, vl eSite aList), (3, vi 0)], []⟩ ?_
  refine swp_seqE (r := r) h (fun j1 => ⟨47, [(0, vl eSite aList)], []⟩) (fun v2 h => ?_) (fun j1 h => ?_)
  refine swp_blk (a := v2) ?_
  refine swp_lpL (r := v2) (s := (0, ())) _ (fun s3 => ⟨47, [(0, vl eSite aList), (3, vi s3.1)], []⟩) _ (Le.sub0) h (fun s3 v4 h => ?_)
  refine swp_seq ?_
  refine srk tbok ⟨47, [(0, vl eSite aList), (3, vi s3.1), (7, vb (decide (s3.1 < (aList.length : Int))))], []⟩ ?_
  refine swp_cd h (fun h => ?_) fun h => ?_
  refine swp_skip ?_
  refine nx_n ?_
  refine swp_seq ?_
  refine swp_seqL (r := v4) h (fun j5 => ⟨47, [(0, vl eSite aList), (3, vi s3.1)], []⟩) (fun v6 h => ?_) (fun j5 h => ?_)
  refine swp_blk (a := v6) ?_
  refine swp_seq ?_
  refine swp_drJ mixed h (fun j13 => ⟨47, [(0, vl eSite aList), (3, vi s3.1), (43, vb j13)], []⟩) (fun v14 h => ?_) (fun j13 h => ?_)
  refine DGo.ck tbok false 2 ⟨47, [(0, vl eSite aList), (3, vi s3.1), (10, vl eSite aList), (11, vi s3.1)], []⟩ ?_
  obtain ⟨x7, hx7, h⟩ := bind_some h
  refine DGo.step (x_index (L := aList) (f := eSite) (ti := ti33) (tj := ti92) (e := 92) (k := .i64) tbok rfl hx7) ?_
  refine DGo.ck tbok false 2 ⟨47, [(0, vl eSite aList), (3, vi s3.1), (14, vs x7.Code)], []⟩ ?_
  obtain ⟨x8, hx8, h⟩ := bind_some h
  refine DGo.step (xc ents168 (spec_l28Code_run x7.Code _ hx8)) ?_
  refine DGo.ck tbok false 2 ⟨47, [(0, vl eSite aList), (3, vi s3.1), (17, vb (!x8))], []⟩ ?_
  refine DGo.cu [(17, fun b => b)] h (fun h => ?_) fun h => ?_
  refine DGo.ck tbok false 26 ⟨47, [(0, vl eSite aList), (3, vi s3.1), (43, vb true)], []⟩ ?_
  refine DGo.nil (by kernel_rfl) ?_
  obtain rfl := inj h
  exact Le.sub0
  refine DGo.ck tbok false 2 ⟨47, [(0, vl eSite aList), (3, vi s3.1), (17, vb false), (18, vl eSite aList), (19, vi s3.1)], []⟩ ?_
  obtain ⟨x9, hx9, h⟩ := bind_some h
  refine DGo.step (x_index (L := aList) (f := eSite) (ti := ti33) (tj := ti92) (e := 92) (k := .i64) tbok rfl hx9) ?_
  refine DGo.ck tbok false 2 ⟨47, [(0, vl eSite aList), (3, vi s3.1), (17, vb false), (22, .agg (tc ePoint x9.At))], []⟩ ?_
  obtain ⟨x10, hx10, h⟩ := bind_some h
  refine DGo.step (xc ents90 (spec_IsPoint_run x9.At _ hx10)) ?_
  refine DGo.ck tbok false 3 ⟨47, [(0, vl eSite aList), (3, vi s3.1), (26, vb (!x10))], []⟩ ?_
  refine DGo.cu [(26, fun b => b)] h (fun h => ?_) fun h => ?_
  refine DGo.ck tbok false 17 ⟨47, [(0, vl eSite aList), (3, vi s3.1), (43, vb true)], []⟩ ?_
  refine DGo.nil (by kernel_rfl) ?_
  obtain rfl := inj h
  exact Le.sub0
  refine DGo.ck tbok false 3 ⟨47, [(0, vl eSite aList), (3, vi s3.1), (26, vb false), (29, vb (decide (s3.1 > 0)))], []⟩ ?_
  refine DGo.cu [(29, fun b => b)] h (fun h => ?_) fun h => ?_
  refine DGo.ck tbok false 3 ⟨47, [(0, vl eSite aList), (3, vi s3.1), (26, vb false), (29, vb true), (30, vl eSite aList), (32, vi (w64 (s3.1 - 1)))], []⟩ ?_
  obtain ⟨x11, hx11, h⟩ := bind_some h
  refine DGo.step (x_index (L := aList) (f := eSite) (ti := ti33) (tj := ti92) (e := 92) (k := .i64) tbok rfl hx11) ?_
  refine DGo.ck tbok false 4 ⟨47, [(0, vl eSite aList), (3, vi s3.1), (26, vb false), (29, vb true), (35, vs x11.Code), (36, vl eSite aList), (37, vi s3.1)], []⟩ ?_
  obtain ⟨x12, hx12, h⟩ := bind_some h
  refine DGo.step (x_index (L := aList) (f := eSite) (ti := ti33) (tj := ti92) (e := 92) (k := .i64) tbok rfl hx12) ?_
  refine DGo.ck tbok false 5 ⟨47, [(0, vl eSite aList), (3, vi s3.1), (43, vb (!(Op.bytesLess x11.Code.toList x12.Code.toList)))], []⟩ ?_
  refine DGo.nil (by kernel_rfl) ?_
  obtain rfl := inj h
  exact Le.sub0
  refine DGo.ck tbok false 14 ⟨47, [(0, vl eSite aList), (3, vi s3.1), (43, vb false)], []⟩ ?_
  refine DGo.nil (by kernel_rfl) ?_
  obtain rfl := inj h
  exact Le.sub0
  refine swp_cd h (fun h => ?_) fun h => ?_
  refine srk tbok ⟨47, [(2, vb false)], []⟩ ?_
  refine swp_ret ?_
  obtain rfl := inj h
  exact q_br (q_rr (q_rr (q_br (q_rr (q_fr (f1 fv))))))
  refine swp_skip ?_
  obtain rfl := inj h
  exact q_bn (q_l (Le.sub0))
  refine swp_reg ?_
  refine SRun.ck tbok 3 ⟨47, [(0, vl eSite aList), (3, vi (w64 (s3.1 + 1)))], []⟩ ?_
  refine SRun.nil ?_
  obtain rfl := inj h
  exact q_l (Le.sub0)
  refine swp_exit ?_
  obtain rfl := inj h
  exact nx_e (q_re (q_bh (q_l (Le.sub0))))
  refine srk tbok ⟨47, [(2, vb (decide ((aList.length : Int) ≤ 10)))], []⟩ ?_
  refine swp_ret ?_
  obtain rfl := inj h
  exact q_fr (f1 fv)
theorem ents149 : Ents Tryz.prog 149 := ents_of Tryz.func149 (by kernel_rfl) rfl
noncomputable def spec_l28Unit (aUnit : ByteArray) (aCount : Int) : Option (Int) :=
  (((bif (aCount != 1) then (((bif ((aUnit.size : Int) == 0) then some true else ((byte' aUnit (w64 ((aUnit.size : Int) - 1))).bind fun x3 => some (x3 != 115)))).bind fun (j4 : Bool) => (bif j4 then some (.inr 0) else ((sub' aUnit 0 (w64 ((aUnit.size : Int) - 1))).bind fun x6 => some (.inl x6)))) else some (.inl aUnit))).bind (Sum.elim (fun (j1 : ByteArray) => (((bif (j1.toList == (ByteArray.mk #[109, 105, 108, 101]).toList) then some (.inr 4) else (bif (j1.toList == (ByteArray.mk #[108, 101, 97, 103, 117, 101]).toList) then some (.inr 12) else some (.inl ())))).bind (Sum.elim (fun (_ : Unit) => some 0) some))) some))
theorem spec_l28Unit_run (aUnit : ByteArray) (aCount : Int) (r : Int) (h : spec_l28Unit aUnit aCount = some r) : SCall Tryz.prog 93 [.v (vs aUnit), .v (vi aCount)] ⟨[.v (vi r)], [], false⟩ := by
  refine scall_in Tryz.func93 rfl [(.tmp 4)] rfl (fun r => ⟨[.v (vi r)], [], false⟩) (r := r) ?_
  unfold spec_l28Unit at h
  refine srk tbok ⟨28, [(0, vs aUnit), (1, vi aCount)], []⟩ ?_
  refine swp_seq ?_
  refine srk tbok ⟨28, [(0, vs aUnit), (6, vb (aCount != 1))], []⟩ ?_
  refine swp_seqE (r := r) h (fun j1 => ⟨28, [(0, vs j1)], []⟩) (fun v2 h => ?_) (fun j1 h => ?_)
  refine swp_cd h (fun h => ?_) fun h => ?_
  refine swp_seq ?_
  refine swp_seq ?_
  refine swp_regJ h (fun j4 => ⟨28, [(0, vs aUnit), (17, vb j4)], []⟩) (fun v5 h => ?_) (fun j4 h => ?_)
  refine SRun.ck tbok 4 ⟨28, [(0, vs aUnit), (10, vb ((aUnit.size : Int) == 0))], []⟩ ?_
  refine SRun.cu [(10, fun b => b)] h (fun h => ?_) fun h => ?_
  refine SRun.ck tbok 7 ⟨28, [(0, vs aUnit), (17, vb true)], []⟩ ?_
  refine SRun.nil ?_
  obtain rfl := inj h
  exact Le.sub0
  refine SRun.ck tbok 4 ⟨28, [(0, vs aUnit), (10, vb false), (11, vs aUnit), (14, vi (w64 ((aUnit.size : Int) - 1)))], []⟩ ?_
  obtain ⟨x3, hx3, h⟩ := bind_some h
  refine SRun.ls (x_byte (ti := ti9) (k := .i64) hx3 tbok rfl) ?_
  refine SRun.ck tbok 2 ⟨28, [(0, vs aUnit), (17, vb (x3 != 115))], []⟩ ?_
  refine SRun.nil ?_
  obtain rfl := inj h
  exact Le.sub0
  refine swp_cd h (fun h => ?_) fun h => ?_
  refine srk tbok ⟨28, [(4, vi 0)], []⟩ ?_
  refine swp_ret ?_
  obtain rfl := inj h
  exact nx_r (q_rr (q_fr (f1 fv)))
  refine swp_skip ?_
  refine nx_n ?_
  refine swp_reg ?_
  refine SRun.ck tbok 4 ⟨28, [(18, vs aUnit), (21, vi (w64 ((aUnit.size : Int) - 1)))], []⟩ ?_
  obtain ⟨x6, hx6, h⟩ := bind_some h
  refine SRun.ls (x_sub (ti := ti9) hx6 tbok rfl) ?_
  refine SRun.ck tbok 1 ⟨28, [(0, vs x6)], []⟩ ?_
  refine SRun.nil ?_
  obtain rfl := inj h
  exact q_l (Le.sub0)
  refine swp_skip ?_
  obtain rfl := inj h
  exact q_l (Le.sub0)
  refine swp_seq ?_
  refine srk tbok ⟨28, [(23, vs j1)], []⟩ ?_
  refine swp_seqE (r := r) h (fun j7 => ⟨28, [], []⟩) (fun v8 h => ?_) (fun j7 h => ?_)
  refine swp_blk (a := v8) ?_
  refine srk tbok ⟨28, [(23, vs j1), (24, vb (j1.toList == (ByteArray.mk #[109, 105, 108, 101]).toList))], []⟩ ?_
  refine swp_cd h (fun h => ?_) fun h => ?_
  refine srk tbok ⟨28, [(4, vi 4)], []⟩ ?_
  refine swp_ret ?_
  obtain rfl := inj h
  exact q_br (q_rr (q_fr (f1 fv)))
  refine srk tbok ⟨28, [(26, vb (j1.toList == (ByteArray.mk #[108, 101, 97, 103, 117, 101]).toList))], []⟩ ?_
  refine swp_cd h (fun h => ?_) fun h => ?_
  refine srk tbok ⟨28, [(4, vi 12)], []⟩ ?_
  refine swp_ret ?_
  obtain rfl := inj h
  exact q_br (q_rr (q_fr (f1 fv)))
  refine swp_skip ?_
  obtain rfl := inj h
  exact q_bn (q_l (Le.sub0))
  refine srk tbok ⟨28, [(4, vi 0)], []⟩ ?_
  refine swp_ret ?_
  obtain rfl := inj h
  exact q_fr (f1 fv)
theorem ents93 : Ents Tryz.prog 93 := ents_of Tryz.func93 (by kernel_rfl) rfl
noncomputable def spec_IsDescription (aD : Description) : Option (Bool) :=
  ((spec_l28Code aD.A).bind fun x1 => (bif (!x1) then some false else (bif (aD.Kind == 2) then ((((spec_l01In aD.Count 1 99).bind fun x2 => (bif x2 then ((spec_l28Unit aD.Unit aD.Count).bind fun x3 => (bif (decide (x3 > 0)) then ((spec_l01In aD.Direction 0 7).bind fun x4 => (bif x4 then some (aD.B.toList == (ByteArray.mk #[]).toList) else some false)) else some false)) else some false))).bind fun (j5 : Bool) => some j5) else (bif ((aD.Count != 0) || ((!(aD.Unit.toList == (ByteArray.mk #[]).toList)) || (aD.Direction != 0))) then some false else (((((bif (aD.Kind == 0) then some (aD.Kind == 0) else some (aD.Kind == 1))).bind fun (j9 : Bool) => (bif j9 then some (.inr (aD.B.toList == (ByteArray.mk #[]).toList)) else (bif (aD.Kind == 3) then ((((spec_l28Code aD.B).bind fun x11 => (bif x11 then some (!(aD.A.toList == aD.B.toList)) else some false))).bind fun (j12 : Bool) => some (.inr j12)) else some (.inl ()))))).bind (Sum.elim (fun (_ : Unit) => some false) some))))))
theorem spec_IsDescription_run (aD : Description) (r : Bool) (h : spec_IsDescription aD = some r) : SCall Tryz.prog 150 [.v (.agg (tc eDescription aD))] ⟨[.v (vb r)], [], false⟩ := by
  refine scall_in Tryz.func150 rfl [(.tmp 2)] rfl (fun r => ⟨[.v (vb r)], [], false⟩) (r := r) ?_
  unfold spec_IsDescription at h
  refine srk tbok ⟨64, [(1, .ref 1 0)], [(1, .box (tc eDescription aD))]⟩ ?_
  refine swp_seq ?_
  refine sr ?_
  refine SRun.ck tbok 2 ⟨64, [(1, .ref 1 0), (4, vs aD.A)], [(1, .box (tc eDescription aD))]⟩ ?_
  obtain ⟨x1, hx1, h⟩ := bind_some h
  refine SRun.ls (xc ents168 (spec_l28Code_run aD.A _ hx1)) ?_
  refine ckn tbok 1 ⟨64, [(1, .ref 1 0), (6, vb (!x1))], [(1, .box (tc eDescription aD))]⟩ ?_
  refine swp_cd h (fun h => ?_) fun h => ?_
  refine srk tbok ⟨64, [(2, vb false)], []⟩ ?_
  refine swp_ret ?_
  obtain rfl := inj h
  exact nx_r (q_fr (f1 fv))
  refine swp_skip ?_
  refine nx_n ?_
  refine swp_seq ?_
  refine srk tbok ⟨64, [(1, .ref 1 0), (9, vb (aD.Kind == 2))], [(1, .box (tc eDescription aD))]⟩ ?_
  refine swp_cd h (fun h => ?_) fun h => ?_
  refine swp_seq ?_
  refine swp_regJ h (fun j5 => ⟨64, [(2, vb j5)], []⟩) (fun v6 h => ?_) (fun j5 h => ?_)
  refine SRun.ck tbok 2 ⟨64, [(1, .ref 1 0), (11, vi aD.Count)], [(1, .box (tc eDescription aD))]⟩ ?_
  obtain ⟨x2, hx2, h⟩ := bind_some h
  refine SRun.ls (xc ents136 (spec_l01In_run aD.Count 1 99 _ hx2)) ?_
  refine SRun.ck tbok 1 ⟨64, [(1, .ref 1 0), (13, vb x2)], [(1, .box (tc eDescription aD))]⟩ ?_
  refine SRun.cu [(13, fun b => b)] h (fun h => ?_) fun h => ?_
  refine SRun.ck tbok 4 ⟨64, [(1, .ref 1 0), (13, vb true), (15, vs aD.Unit), (17, vi aD.Count)], [(1, .box (tc eDescription aD))]⟩ ?_
  obtain ⟨x3, hx3, h⟩ := bind_some h
  refine SRun.ls (xc ents93 (spec_l28Unit_run aD.Unit aD.Count _ hx3)) ?_
  refine SRun.ck tbok 3 ⟨64, [(1, .ref 1 0), (21, vb (decide (x3 > 0)))], [(1, .box (tc eDescription aD))]⟩ ?_
  refine SRun.cu [(21, fun b => b)] h (fun h => ?_) fun h => ?_
  refine SRun.ck tbok 2 ⟨64, [(1, .ref 1 0), (21, vb true), (23, vi aD.Direction)], [(1, .box (tc eDescription aD))]⟩ ?_
  obtain ⟨x4, hx4, h⟩ := bind_some h
  refine SRun.ls (xc ents136 (spec_l01In_run aD.Direction 0 7 _ hx4)) ?_
  refine SRun.ck tbok 2 ⟨64, [(1, .ref 1 0), (26, vb x4)], [(1, .box (tc eDescription aD))]⟩ ?_
  refine SRun.cu [(26, fun b => b)] h (fun h => ?_) fun h => ?_
  refine SRun.ck tbok 5 ⟨64, [(2, vb (aD.B.toList == (ByteArray.mk #[]).toList))], []⟩ ?_
  refine SRun.nil ?_
  obtain rfl := inj h
  exact Le.sub0
  refine SRun.ck tbok 5 ⟨64, [(2, vb false)], []⟩ ?_
  refine SRun.nil ?_
  obtain rfl := inj h
  exact Le.sub0
  refine SRun.ck tbok 10 ⟨64, [(2, vb false)], []⟩ ?_
  refine SRun.nil ?_
  obtain rfl := inj h
  exact Le.sub0
  refine SRun.ck tbok 18 ⟨64, [(2, vb false)], []⟩ ?_
  refine SRun.nil ?_
  obtain rfl := inj h
  exact Le.sub0
  refine swp_ret ?_
  obtain rfl := inj h
  exact nx_r (q_fr (f1 fv))
  refine swp_skip ?_
  refine nx_n ?_
  refine swp_seq ?_
  refine swp_seq ?_
  refine swp_regP ⟨64, [(1, .ref 1 0), (43, vb ((aD.Count != 0) || ((!(aD.Unit.toList == (ByteArray.mk #[]).toList)) || (aD.Direction != 0))))], [(1, .box (tc eDescription aD))]⟩ ?_ ?_
  refine SRun.ck tbok 4 ⟨64, [(1, .ref 1 0), (34, vb (aD.Count != 0))], [(1, .box (tc eDescription aD))]⟩ ?_
  generalize (aD.Count != 0) = bb
  cases bb
  refine SRun.ck tbok 5 ⟨64, [(1, .ref 1 0), (39, vb (!(aD.Unit.toList == (ByteArray.mk #[]).toList)))], [(1, .box (tc eDescription aD))]⟩ ?_
  generalize (!(aD.Unit.toList == (ByteArray.mk #[]).toList)) = bb
  cases bb
  refine SRun.ck tbok 4 ⟨64, [(1, .ref 1 0), (43, vb (aD.Direction != 0))], [(1, .box (tc eDescription aD))]⟩ ?_
  exact SRun.nil (Le.sub0)
  refine SRun.ck tbok 4 ⟨64, [(1, .ref 1 0), (43, vb true)], [(1, .box (tc eDescription aD))]⟩ ?_
  exact SRun.nil (Le.sub0)
  refine SRun.ck tbok 9 ⟨64, [(1, .ref 1 0), (43, vb true)], [(1, .box (tc eDescription aD))]⟩ ?_
  exact SRun.nil (Le.sub0)
  refine swp_cd h (fun h => ?_) fun h => ?_
  refine srk tbok ⟨64, [(2, vb false)], []⟩ ?_
  refine swp_ret ?_
  obtain rfl := inj h
  exact nx_r (q_fr (f1 fv))
  refine swp_skip ?_
  refine nx_n ?_
  refine swp_seq ?_
  refine srk tbok ⟨64, [(1, .ref 1 0), (45, vi aD.Kind)], [(1, .box (tc eDescription aD))]⟩ ?_
  refine swp_seqE (r := r) h (fun j7 => ⟨64, [], []⟩) (fun v8 h => ?_) (fun j7 h => ?_)
  refine swp_blk (a := v8) ?_
  refine swp_seq ?_
  refine srk tbok ⟨64, [(1, .ref 1 0), (45, vi aD.Kind), (46, vb (aD.Kind == 0))], [(1, .box (tc eDescription aD))]⟩ ?_
  refine swp_seqJ h (fun j9 => ⟨64, [(1, .ref 1 0), (45, vi aD.Kind), (46, vb j9)], [(1, .box (tc eDescription aD))]⟩) (fun v10 h => ?_) (fun j9 h => ?_)
  refine swp_cd h (fun h => ?_) fun h => ?_
  refine swp_skip ?_
  obtain rfl := inj h
  exact q_j (Le.sub0)
  refine swp_reg ?_
  refine SRun.ck tbok 2 ⟨64, [(1, .ref 1 0), (45, vi aD.Kind), (46, vb (aD.Kind == 1))], [(1, .box (tc eDescription aD))]⟩ ?_
  refine SRun.nil ?_
  obtain rfl := inj h
  exact q_j (Le.sub0)
  refine swp_cd h (fun h => ?_) fun h => ?_
  refine srk tbok ⟨64, [(2, vb (aD.B.toList == (ByteArray.mk #[]).toList))], []⟩ ?_
  refine swp_ret ?_
  obtain rfl := inj h
  exact q_br (q_rr (q_fr (f1 fv)))
  refine srk tbok ⟨64, [(1, .ref 1 0), (52, vb (aD.Kind == 3))], [(1, .box (tc eDescription aD))]⟩ ?_
  refine swp_cd h (fun h => ?_) fun h => ?_
  refine swp_seq ?_
  refine swp_regJ h (fun j12 => ⟨64, [(2, vb j12)], []⟩) (fun v13 h => ?_) (fun j12 h => ?_)
  refine SRun.ck tbok 2 ⟨64, [(1, .ref 1 0), (55, vs aD.B)], [(1, .box (tc eDescription aD))]⟩ ?_
  obtain ⟨x11, hx11, h⟩ := bind_some h
  refine SRun.ls (xc ents168 (spec_l28Code_run aD.B _ hx11)) ?_
  refine SRun.ck tbok 1 ⟨64, [(1, .ref 1 0), (57, vb x11)], [(1, .box (tc eDescription aD))]⟩ ?_
  refine SRun.cu [(57, fun b => b)] h (fun h => ?_) fun h => ?_
  refine SRun.ck tbok 7 ⟨64, [(2, vb (!(aD.A.toList == aD.B.toList)))], []⟩ ?_
  refine SRun.nil ?_
  obtain rfl := inj h
  exact Le.sub0
  refine SRun.ck tbok 7 ⟨64, [(2, vb false)], []⟩ ?_
  refine SRun.nil ?_
  obtain rfl := inj h
  exact Le.sub0
  refine swp_ret ?_
  obtain rfl := inj h
  exact q_br (q_rr (q_fr (f1 fv)))
  refine swp_skip ?_
  obtain rfl := inj h
  exact q_bn (q_l (Le.sub0))
  refine srk tbok ⟨64, [(2, vb false)], []⟩ ?_
  refine swp_ret ?_
  obtain rfl := inj h
  exact q_fr (f1 fv)
theorem ents150 : Ents Tryz.prog 150 := ents_of Tryz.func150 (by kernel_rfl) rfl
noncomputable def spec_l29Find (aList : (List Site)) (aCode : ByteArray) : Option (Int) :=
  (((forN (aList.length : Int) (fun (i3 : Int) (_ : Unit) => ((at' aList i3).bind fun x7 => (bif (x7.Code.toList == aCode.toList) then some (.inr (.inr i3)) else some (.inl ())))) (fun (_ : Unit) => .inl ()) 0 ())).bind (Sum.elim (fun (_ : Unit) => some (-1)) some))
theorem spec_l29Find_run (aList : (List Site)) (aCode : ByteArray) (r : Int) (h : spec_l29Find aList aCode = some r) : SCall Tryz.prog 91 [.v (vl eSite aList), .v (vs aCode)] ⟨[.v (vi r)], [], false⟩ := by
  refine scall_in Tryz.func91 rfl [(.tmp 4)] rfl (fun r => ⟨[.v (vi r)], [], false⟩) (r := r) ?_
  unfold spec_l29Find at h
  refine srk tbok ⟨20, [(0, vl eSite aList), (1, vs aCode)], []⟩ ?_
  refine swp_seq ?_
  refine srk tbok ⟨20, [(0, vl eSite aList), (1, vs aCode), (5, vi 0)], []⟩ ?_
  refine swp_seqE (r := r) h (fun j1 => ⟨20, [], []⟩) (fun v2 h => ?_) (fun j1 h => ?_)
  refine swp_blk (a := v2) ?_
  refine swp_lpL (r := v2) (s := (0, ())) _ (fun s3 => ⟨20, [(0, vl eSite aList), (1, vs aCode), (5, vi s3.1)], []⟩) _ (Le.sub0) h (fun s3 v4 h => ?_)
  refine swp_seq ?_
  refine srk tbok ⟨20, [(0, vl eSite aList), (1, vs aCode), (5, vi s3.1), (9, vb (decide (s3.1 < (aList.length : Int))))], []⟩ ?_
  refine swp_cd h (fun h => ?_) fun h => ?_
  refine swp_skip ?_
  refine nx_n ?_
  refine swp_seq ?_
  refine swp_seqL (r := v4) h (fun j5 => ⟨20, [(0, vl eSite aList), (1, vs aCode), (5, vi s3.1)], []⟩) (fun v6 h => ?_) (fun j5 h => ?_)
  refine swp_blk (a := v6) ?_
  refine sr ?_
  refine SRun.ck tbok 2 ⟨20, [(0, vl eSite aList), (1, vs aCode), (5, vi s3.1), (12, vl eSite aList), (13, vi s3.1)], []⟩ ?_
  obtain ⟨x7, hx7, h⟩ := bind_some h
  refine SRun.ls (x_index (L := aList) (f := eSite) (ti := ti33) (tj := ti92) (e := 92) (k := .i64) tbok rfl hx7) ?_
  refine ckn tbok 4 ⟨20, [(0, vl eSite aList), (1, vs aCode), (5, vi s3.1), (18, vb (x7.Code.toList == aCode.toList))], []⟩ ?_
  refine swp_cd h (fun h => ?_) fun h => ?_
  refine srk tbok ⟨20, [(4, vi s3.1)], []⟩ ?_
  refine swp_ret ?_
  obtain rfl := inj h
  exact q_br (q_rr (q_rr (q_br (q_rr (q_fr (f1 fv))))))
  refine swp_skip ?_
  obtain rfl := inj h
  exact q_bn (q_l (Le.sub0))
  refine swp_reg ?_
  refine SRun.ck tbok 3 ⟨20, [(0, vl eSite aList), (1, vs aCode), (5, vi (w64 (s3.1 + 1)))], []⟩ ?_
  refine SRun.nil ?_
  obtain rfl := inj h
  exact q_l (Le.sub0)
  refine swp_exit ?_
  obtain rfl := inj h
  exact nx_e (q_re (q_bh (q_l (Le.sub0))))
  refine srk tbok ⟨20, [(4, vi (-1))], []⟩ ?_
  refine swp_ret ?_
  obtain rfl := inj h
  exact q_fr (f1 fv)
theorem ents91 : Ents Tryz.prog 91 := ents_of Tryz.func91 (by kernel_rfl) rfl
noncomputable def spec_l29Code (aList : (List Site)) (aDescriptions : (List Description)) : Option (Int) :=
  ((spec_AreSites aList).bind fun x1 => (bif (!x1) then some 1 else (((forN (aDescriptions.length : Int) (fun (i4 : Int) (_ : Unit) => ((at' aDescriptions i4).bind fun x8 => ((spec_IsDescription x8).bind fun x9 => (bif (!x9) then some (.inr (.inr 1)) else some (.inl ()))))) (fun (_ : Unit) => .inl ()) 0 ())).bind (Sum.elim (fun (_ : Unit) => (((forN (aDescriptions.length : Int) (fun (i12 : Int) (_ : Unit) => ((at' aDescriptions i12).bind fun x16 => ((((spec_l29Find aList x16.A).bind fun x17 => (bif (decide (x17 < 0)) then some true else (bif (!(x16.B.toList == (ByteArray.mk #[]).toList)) then ((spec_l29Find aList x16.B).bind fun x18 => some (decide (x18 < 0))) else some false)))).bind fun (j19 : Bool) => (bif j19 then some (.inr (.inr 4)) else some (.inl ()))))) (fun (_ : Unit) => .inl ()) 0 ())).bind (Sum.elim (fun (_ : Unit) => (bif (decide ((aDescriptions.length : Int) > 8)) then some 3 else some 0)) some))) some))))
theorem spec_l29Code_run (aList : (List Site)) (aDescriptions : (List Description)) (r : Int) (h : spec_l29Code aList aDescriptions = some r) : SCall Tryz.prog 113 [.v (vl eSite aList), .v (vl eDescription aDescriptions)] ⟨[.v (vi r)], [], false⟩ := by
  refine scall_in Tryz.func113 rfl [(.tmp 4)] rfl (fun r => ⟨[.v (vi r)], [], false⟩) (r := r) ?_
  unfold spec_l29Code at h
  refine srk tbok ⟨53, [(0, vl eSite aList), (1, vl eDescription aDescriptions)], []⟩ ?_
  refine swp_seq ?_
  refine sr ?_
  refine SRun.ck tbok 1 ⟨53, [(0, vl eSite aList), (1, vl eDescription aDescriptions), (8, vl eSite aList)], []⟩ ?_
  obtain ⟨x1, hx1, h⟩ := bind_some h
  refine SRun.ls (xc ents149 (spec_AreSites_run aList _ hx1)) ?_
  refine ckn tbok 1 ⟨53, [(0, vl eSite aList), (1, vl eDescription aDescriptions), (10, vb (!x1))], []⟩ ?_
  refine swp_cd h (fun h => ?_) fun h => ?_
  refine srk tbok ⟨53, [(4, vi 1)], []⟩ ?_
  refine swp_ret ?_
  obtain rfl := inj h
  exact nx_r (q_fr (f1 fv))
  refine swp_skip ?_
  refine nx_n ?_
  refine swp_seq ?_
  refine srk tbok ⟨53, [(0, vl eSite aList), (1, vl eDescription aDescriptions), (5, vi 0)], []⟩ ?_
  refine swp_seqE (r := r) h (fun j2 => ⟨53, [(0, vl eSite aList), (1, vl eDescription aDescriptions)], []⟩) (fun v3 h => ?_) (fun j2 h => ?_)
  refine swp_blk (a := v3) ?_
  refine swp_lpL (r := v3) (s := (0, ())) _ (fun s4 => ⟨53, [(0, vl eSite aList), (1, vl eDescription aDescriptions), (5, vi s4.1)], []⟩) _ (Le.sub0) h (fun s4 v5 h => ?_)
  refine swp_seq ?_
  refine srk tbok ⟨53, [(0, vl eSite aList), (1, vl eDescription aDescriptions), (5, vi s4.1), (14, vb (decide (s4.1 < (aDescriptions.length : Int))))], []⟩ ?_
  refine swp_cd h (fun h => ?_) fun h => ?_
  refine swp_skip ?_
  refine nx_n ?_
  refine swp_seq ?_
  refine swp_seqL (r := v5) h (fun j6 => ⟨53, [(0, vl eSite aList), (1, vl eDescription aDescriptions), (5, vi s4.1)], []⟩) (fun v7 h => ?_) (fun j6 h => ?_)
  refine swp_blk (a := v7) ?_
  refine sr ?_
  refine SRun.ck tbok 2 ⟨53, [(0, vl eSite aList), (1, vl eDescription aDescriptions), (5, vi s4.1), (17, vl eDescription aDescriptions), (18, vi s4.1)], []⟩ ?_
  obtain ⟨x8, hx8, h⟩ := bind_some h
  refine SRun.ls (x_index (L := aDescriptions) (f := eDescription) (ti := ti35) (tj := ti84) (e := 84) (k := .i64) tbok rfl hx8) ?_
  refine SRun.ck tbok 1 ⟨53, [(0, vl eSite aList), (1, vl eDescription aDescriptions), (5, vi s4.1), (20, .agg (tc eDescription x8))], []⟩ ?_
  obtain ⟨x9, hx9, h⟩ := bind_some h
  refine SRun.ls (xc ents150 (spec_IsDescription_run x8 _ hx9)) ?_
  refine ckn tbok 1 ⟨53, [(0, vl eSite aList), (1, vl eDescription aDescriptions), (5, vi s4.1), (22, vb (!x9))], []⟩ ?_
  refine swp_cd h (fun h => ?_) fun h => ?_
  refine srk tbok ⟨53, [(4, vi 1)], []⟩ ?_
  refine swp_ret ?_
  obtain rfl := inj h
  exact q_br (q_rr (q_rr (q_br (q_rr (q_fr (f1 fv))))))
  refine swp_skip ?_
  obtain rfl := inj h
  exact q_bn (q_l (Le.sub0))
  refine swp_reg ?_
  refine SRun.ck tbok 3 ⟨53, [(0, vl eSite aList), (1, vl eDescription aDescriptions), (5, vi (w64 (s4.1 + 1)))], []⟩ ?_
  refine SRun.nil ?_
  obtain rfl := inj h
  exact q_l (Le.sub0)
  refine swp_exit ?_
  obtain rfl := inj h
  exact nx_e (q_re (q_bh (q_l (Le.sub0))))
  refine swp_seq ?_
  refine srk tbok ⟨53, [(0, vl eSite aList), (1, vl eDescription aDescriptions), (6, vi 0)], []⟩ ?_
  refine swp_seqE (r := r) h (fun j10 => ⟨53, [(1, vl eDescription aDescriptions)], []⟩) (fun v11 h => ?_) (fun j10 h => ?_)
  refine swp_blk (a := v11) ?_
  refine swp_lpL (r := v11) (s := (0, ())) _ (fun s12 => ⟨53, [(0, vl eSite aList), (1, vl eDescription aDescriptions), (6, vi s12.1)], []⟩) _ (Le.sub0) h (fun s12 v13 h => ?_)
  refine swp_seq ?_
  refine srk tbok ⟨53, [(0, vl eSite aList), (1, vl eDescription aDescriptions), (6, vi s12.1), (26, vb (decide (s12.1 < (aDescriptions.length : Int))))], []⟩ ?_
  refine swp_cd h (fun h => ?_) fun h => ?_
  refine swp_skip ?_
  refine nx_n ?_
  refine swp_seq ?_
  refine swp_seqL (r := v13) h (fun j14 => ⟨53, [(0, vl eSite aList), (1, vl eDescription aDescriptions), (6, vi s12.1)], []⟩) (fun v15 h => ?_) (fun j14 h => ?_)
  refine swp_blk (a := v15) ?_
  refine sr ?_
  refine SRun.ck tbok 2 ⟨53, [(0, vl eSite aList), (1, vl eDescription aDescriptions), (6, vi s12.1), (29, vl eDescription aDescriptions), (30, vi s12.1)], []⟩ ?_
  obtain ⟨x16, hx16, h⟩ := bind_some h
  refine SRun.ls (x_index (L := aDescriptions) (f := eDescription) (ti := ti35) (tj := ti84) (e := 84) (k := .i64) tbok rfl hx16) ?_
  refine ckn tbok 3 ⟨53, [(0, vl eSite aList), (1, vl eDescription aDescriptions), (6, vi s12.1), (7, .ref 7 0)], [(7, .box (tc eDescription x16))]⟩ ?_
  refine swp_seq ?_
  refine swp_regJ h (fun j19 => ⟨53, [(0, vl eSite aList), (1, vl eDescription aDescriptions), (6, vi s12.1), (49, vb j19)], []⟩) (fun v20 h => ?_) (fun j19 h => ?_)
  refine SRun.ck tbok 3 ⟨53, [(0, vl eSite aList), (1, vl eDescription aDescriptions), (6, vi s12.1), (7, .ref 7 0), (33, vl eSite aList), (35, vs x16.A)], [(7, .box (tc eDescription x16))]⟩ ?_
  obtain ⟨x17, hx17, h⟩ := bind_some h
  refine SRun.ls (xc ents91 (spec_l29Find_run aList x16.A _ hx17)) ?_
  refine SRun.ck tbok 2 ⟨53, [(0, vl eSite aList), (1, vl eDescription aDescriptions), (6, vi s12.1), (7, .ref 7 0), (38, vb (decide (x17 < 0)))], [(7, .box (tc eDescription x16))]⟩ ?_
  refine SRun.cu [(38, fun b => b)] h (fun h => ?_) fun h => ?_
  refine SRun.ck tbok 11 ⟨53, [(0, vl eSite aList), (1, vl eDescription aDescriptions), (6, vi s12.1), (49, vb true)], []⟩ ?_
  refine SRun.nil ?_
  obtain rfl := inj h
  exact Le.sub0
  refine SRun.ck tbok 4 ⟨53, [(0, vl eSite aList), (1, vl eDescription aDescriptions), (6, vi s12.1), (7, .ref 7 0), (38, vb false), (42, vb (!(x16.B.toList == (ByteArray.mk #[]).toList)))], [(7, .box (tc eDescription x16))]⟩ ?_
  refine SRun.cu [(42, fun b => b)] h (fun h => ?_) fun h => ?_
  refine SRun.ck tbok 3 ⟨53, [(0, vl eSite aList), (1, vl eDescription aDescriptions), (6, vi s12.1), (38, vb false), (42, vb true), (43, vl eSite aList), (45, vs x16.B)], []⟩ ?_
  obtain ⟨x18, hx18, h⟩ := bind_some h
  refine SRun.ls (xc ents91 (spec_l29Find_run aList x16.B _ hx18)) ?_
  refine SRun.ck tbok 3 ⟨53, [(0, vl eSite aList), (1, vl eDescription aDescriptions), (6, vi s12.1), (49, vb (decide (x18 < 0)))], []⟩ ?_
  refine SRun.nil ?_
  obtain rfl := inj h
  exact Le.sub0
  refine SRun.ck tbok 7 ⟨53, [(0, vl eSite aList), (1, vl eDescription aDescriptions), (6, vi s12.1), (49, vb false)], []⟩ ?_
  refine SRun.nil ?_
  obtain rfl := inj h
  exact Le.sub0
  refine swp_cd h (fun h => ?_) fun h => ?_
  refine srk tbok ⟨53, [(4, vi 4)], []⟩ ?_
  refine swp_ret ?_
  obtain rfl := inj h
  exact q_br (q_rr (q_rr (q_br (q_rr (q_fr (f1 fv))))))
  refine swp_skip ?_
  obtain rfl := inj h
  exact q_bn (q_l (Le.sub0))
  refine swp_reg ?_
  refine SRun.ck tbok 3 ⟨53, [(0, vl eSite aList), (1, vl eDescription aDescriptions), (6, vi (w64 (s12.1 + 1)))], []⟩ ?_
  refine SRun.nil ?_
  obtain rfl := inj h
  exact q_l (Le.sub0)
  refine swp_exit ?_
  obtain rfl := inj h
  exact nx_e (q_re (q_bh (q_l (Le.sub0))))
  refine swp_seq ?_
  refine srk tbok ⟨53, [(52, vb (decide ((aDescriptions.length : Int) > 8)))], []⟩ ?_
  refine swp_cd h (fun h => ?_) fun h => ?_
  refine srk tbok ⟨53, [(4, vi 3)], []⟩ ?_
  refine swp_ret ?_
  obtain rfl := inj h
  exact nx_r (q_fr (f1 fv))
  refine swp_skip ?_
  refine nx_n ?_
  refine srk tbok ⟨53, [(4, vi 0)], []⟩ ?_
  refine swp_ret ?_
  obtain rfl := inj h
  exact q_fr (f1 fv)
theorem ents113 : Ents Tryz.prog 113 := ents_of Tryz.func113 (by kernel_rfl) rfl
noncomputable def spec_l30Code (aList : (List Candidate)) (aText : ByteArray) (aSites : (List Site)) (aDescriptions : (List Description)) : Option (Int) :=
  ((((spec_AreCandidates aList).bind fun x1 => (bif (!x1) then some true else ((spec_IsPhrase aText).bind fun x2 => some (!x2))))).bind fun (j3 : Bool) => (bif j3 then some 1 else ((spec_l29Code aSites aDescriptions).bind fun x5 => some x5)))
theorem spec_l30Code_run (aList : (List Candidate)) (aText : ByteArray) (aSites : (List Site)) (aDescriptions : (List Description)) (r : Int) (h : spec_l30Code aList aText aSites aDescriptions = some r) : SCall Tryz.prog 66 [.v (vl eCandidate aList), .v (vs aText), .v (vl eSite aSites), .v (vl eDescription aDescriptions)] ⟨[.v (vi r)], [], false⟩ := by
  refine scall_in Tryz.func66 rfl [(.tmp 8)] rfl (fun r => ⟨[.v (vi r)], [], false⟩) (r := r) ?_
  unfold spec_l30Code at h
  refine srk tbok ⟨20, [(0, vl eCandidate aList), (1, vs aText), (2, vl eSite aSites), (3, vl eDescription aDescriptions)], []⟩ ?_
  refine swp_seq ?_
  refine swp_seq ?_
  refine swp_regJ h (fun j3 => ⟨20, [(2, vl eSite aSites), (3, vl eDescription aDescriptions), (16, vb j3)], []⟩) (fun v4 h => ?_) (fun j3 h => ?_)
  refine SRun.ck tbok 1 ⟨20, [(1, vs aText), (2, vl eSite aSites), (3, vl eDescription aDescriptions), (9, vl eCandidate aList)], []⟩ ?_
  obtain ⟨x1, hx1, h⟩ := bind_some h
  refine SRun.ls (xc ents46 (spec_AreCandidates_run aList _ hx1)) ?_
  refine SRun.ck tbok 2 ⟨20, [(1, vs aText), (2, vl eSite aSites), (3, vl eDescription aDescriptions), (12, vb (!x1))], []⟩ ?_
  refine SRun.cu [(12, fun b => b)] h (fun h => ?_) fun h => ?_
  refine SRun.ck tbok 4 ⟨20, [(2, vl eSite aSites), (3, vl eDescription aDescriptions), (16, vb true)], []⟩ ?_
  refine SRun.nil ?_
  obtain rfl := inj h
  exact Le.sub0
  refine SRun.ck tbok 1 ⟨20, [(2, vl eSite aSites), (3, vl eDescription aDescriptions), (12, vb false), (13, vs aText)], []⟩ ?_
  obtain ⟨x2, hx2, h⟩ := bind_some h
  refine SRun.ls (xc ents76 (spec_IsPhrase_run aText _ hx2)) ?_
  refine SRun.ck tbok 2 ⟨20, [(2, vl eSite aSites), (3, vl eDescription aDescriptions), (16, vb (!x2))], []⟩ ?_
  refine SRun.nil ?_
  obtain rfl := inj h
  exact Le.sub0
  refine swp_cd h (fun h => ?_) fun h => ?_
  refine srk tbok ⟨20, [(8, vi 1)], []⟩ ?_
  refine swp_ret ?_
  obtain rfl := inj h
  exact nx_r (q_fr (f1 fv))
  refine swp_skip ?_
  refine nx_n ?_
  refine sr ?_
  refine SRun.ck tbok 2 ⟨20, [(17, vl eSite aSites), (18, vl eDescription aDescriptions)], []⟩ ?_
  obtain ⟨x5, hx5, h⟩ := bind_some h
  refine SRun.ls (xc ents113 (spec_l29Code_run aSites aDescriptions _ hx5)) ?_
  refine ckn tbok 1 ⟨20, [(8, vi x5)], []⟩ ?_
  refine swp_ret ?_
  obtain rfl := inj h
  exact q_fr (f1 fv)
theorem ents66 : Ents Tryz.prog 66 := ents_of Tryz.func66 (by kernel_rfl) rfl
noncomputable def spec_l01Distance (aA : ByteArray) (aB : ByteArray) : Option (Int) :=
  (((forH (fun (i3 : Int) (_ : (List Int)) => (decide (i3 ≤ (aB.size : Int)))) (fun (i3 : Int) (s3 : (List Int)) => ((app' s3 ([i3] : List Int)).bind fun x7 => some x7)) (fun (s3 : (List Int)) => s3) 0 ([] : List Int))).bind fun (j1 : (List Int)) => (((forH (fun (i10 : Int) (_ : (List Int)) => (decide (i10 ≤ (aA.size : Int)))) (fun (i10 : Int) (s10 : (List Int)) => (((forH (fun (i16 : Int) (_ : (List Int)) => (decide (i16 ≤ (aB.size : Int)))) (fun (i16 : Int) (s16 : (List Int)) => ((at' s10 (w64 (i16 - 1))).bind fun x20 => ((byte' aA (w64 (i10 - 1))).bind fun x21 => ((byte' aB (w64 (i16 - 1))).bind fun x22 => (((bif (x21 != x22) then some (w64 (x20 + 1)) else some x20)).bind fun (j23 : Int) => ((at' s10 i16).bind fun x25 => ((at' s16 (w64 (i16 - 1))).bind fun x26 => ((app' s16 ([(minI (minI j23 (w64 (x25 + 1))) (w64 (x26 + 1)))] : List Int)).bind fun x28 => some x28)))))))) (fun (s16 : (List Int)) => s16) 1 ([i10] : List Int))).bind fun (j14 : (List Int)) => some j14)) (fun (s10 : (List Int)) => s10) 1 j1)).bind fun (j8 : (List Int)) => ((at' j8 (aB.size : Int)).bind fun x29 => some x29)))
theorem spec_l01Distance_run (aA : ByteArray) (aB : ByteArray) (r : Int) (h : spec_l01Distance aA aB = some r) : SCall Tryz.prog 122 [.v (vs aA), .v (vs aB)] ⟨[.v (vi r)], [], false⟩ := by
  refine scall_in Tryz.func122 rfl [(.tmp 4)] rfl (fun r => ⟨[.v (vi r)], [], false⟩) (r := r) ?_
  unfold spec_l01Distance at h
  refine srk tbok ⟨74, [(0, vs aA), (1, vs aB)], []⟩ ?_
  refine srk tbok ⟨74, [(0, vs aA), (1, vs aB), (5, .own 11)], [(11, oa 2 1 (eI .i64) ([] : List Int))]⟩ ?_
  refine swp_seq ?_
  refine srk tbok ⟨74, [(0, vs aA), (1, vs aB), (5, .own 11), (6, vi 0)], [(11, oa 2 1 (eI .i64) ([] : List Int))]⟩ ?_
  refine swp_seqJ h (fun j1 => ⟨74, [(0, vs aA), (1, vs aB), (5, .own 5)], [(5, oa 2 1 (eI .i64) j1)]⟩) (fun v2 h => ?_) (fun j1 h => ?_)
  refine swp_blk (a := v2) ?_
  refine swp_lpL (r := v2) (s := (0, ([] : List Int))) _ (fun s3 => ⟨74, [(0, vs aA), (1, vs aB), (5, .own 5), (6, vi s3.1)], [(5, oa 2 1 (eI .i64) s3.2)]⟩) _ (Le.rr [11] [(11, 5)]) h (fun s3 v4 h => ?_)
  refine swp_seq ?_
  refine srk tbok ⟨74, [(0, vs aA), (1, vs aB), (5, .own 5), (6, vi s3.1), (15, vb (decide (s3.1 ≤ (aB.size : Int))))], [(5, oa 2 1 (eI .i64) s3.2)]⟩ ?_
  refine swp_cd h (fun h => ?_) fun h => ?_
  refine swp_skip ?_
  refine nx_n ?_
  refine swp_seq ?_
  refine swp_seqJ h (fun j5 => ⟨74, [(0, vs aA), (1, vs aB), (5, .own 5), (6, vi s3.1)], [(5, oa 2 1 (eI .i64) j5)]⟩) (fun v6 h => ?_) (fun j5 h => ?_)
  refine swp_blk (a := v6) ?_
  refine swp_reg ?_
  refine SRun.ck tbok 3 ⟨74, [(0, vs aA), (1, vs aB), (6, vi s3.1), (18, .own 5), (20, .own 20)], [(5, oa 2 1 (eI .i64) s3.2), (20, oa 2 1 (eI .i64) ([s3.1] : List Int))]⟩ ?_
  obtain ⟨x7, hx7, h⟩ := bind_some h
  refine SRun.estep (x_append (f := (eI .i64)) (t := 54) (ti := ti54) (tj := ti2) (zs := [.int .i64 0]) (e := 2) (m := 1) (d := 5) (xv := .own 20) hx7 tbok rfl rfl rfl rfl (x_src_o (e := 2))) ?_
  refine SRun.ck tbok 1 ⟨74, [(0, vs aA), (1, vs aB), (5, .own 21), (6, vi s3.1)], [(21, oa 2 1 (eI .i64) x7)]⟩ ?_
  refine SRun.nil ?_
  obtain rfl := inj h
  exact q_bn (q_j (Le.rr [21] [(21, 5)]))
  refine swp_reg ?_
  refine SRun.ck tbok 3 ⟨74, [(0, vs aA), (1, vs aB), (5, .own 5), (6, vi (w64 (s3.1 + 1)))], [(5, oa 2 1 (eI .i64) j5)]⟩ ?_
  refine SRun.nil ?_
  obtain rfl := inj h
  exact q_l (Le.sub0)
  refine swp_exit ?_
  obtain rfl := inj h
  exact nx_e (q_re (q_bh (q_j (Le.sub0))))
  refine swp_seq ?_
  refine srk tbok ⟨74, [(0, vs aA), (1, vs aB), (5, .own 5), (7, vi 1)], [(5, oa 2 1 (eI .i64) j1)]⟩ ?_
  refine swp_seqJ h (fun j8 => ⟨74, [(1, vs aB), (5, .own 5)], [(5, oa 2 1 (eI .i64) j8)]⟩) (fun v9 h => ?_) (fun j8 h => ?_)
  refine swp_blk (a := v9) ?_
  refine swp_lpL (r := v9) (s := (1, j1)) _ (fun s10 => ⟨74, [(0, vs aA), (1, vs aB), (5, .own 5), (7, vi s10.1)], [(5, oa 2 1 (eI .i64) s10.2)]⟩) _ (Le.sub0) h (fun s10 v11 h => ?_)
  refine swp_seq ?_
  refine srk tbok ⟨74, [(0, vs aA), (1, vs aB), (5, .own 5), (7, vi s10.1), (25, vb (decide (s10.1 ≤ (aA.size : Int))))], [(5, oa 2 1 (eI .i64) s10.2)]⟩ ?_
  refine swp_cd h (fun h => ?_) fun h => ?_
  refine swp_skip ?_
  refine nx_n ?_
  refine swp_seq ?_
  refine swp_seqJ h (fun j12 => ⟨74, [(0, vs aA), (1, vs aB), (5, .own 5), (7, vi s10.1)], [(5, oa 2 1 (eI .i64) j12)]⟩) (fun v13 h => ?_) (fun j12 h => ?_)
  refine swp_blk (a := v13) ?_
  refine srk tbok ⟨74, [(0, vs aA), (1, vs aB), (5, .own 5), (7, vi s10.1), (8, .own 29)], [(5, oa 2 1 (eI .i64) s10.2), (29, oa 2 1 (eI .i64) ([s10.1] : List Int))]⟩ ?_
  refine swp_seq ?_
  refine srk tbok ⟨74, [(0, vs aA), (1, vs aB), (5, .own 5), (7, vi s10.1), (8, .own 29), (9, vi 1)], [(5, oa 2 1 (eI .i64) s10.2), (29, oa 2 1 (eI .i64) ([s10.1] : List Int))]⟩ ?_
  refine swp_seqJ h (fun j14 => ⟨74, [(0, vs aA), (1, vs aB), (7, vi s10.1), (8, .own 8)], [(8, oa 2 1 (eI .i64) j14)]⟩) (fun v15 h => ?_) (fun j14 h => ?_)
  refine swp_blk (a := v15) ?_
  refine swp_lpL (r := v15) (s := (1, ([s10.1] : List Int))) _ (fun s16 => ⟨74, [(0, vs aA), (1, vs aB), (5, .own 5), (7, vi s10.1), (8, .own 8), (9, vi s16.1)], [(5, oa 2 1 (eI .i64) s10.2), (8, oa 2 1 (eI .i64) s16.2)]⟩) _ (Le.rr [5, 29] [(29, 8)]) h (fun s16 v17 h => ?_)
  refine swp_seq ?_
  refine srk tbok ⟨74, [(0, vs aA), (1, vs aB), (5, .own 5), (7, vi s10.1), (8, .own 8), (9, vi s16.1), (33, vb (decide (s16.1 ≤ (aB.size : Int))))], [(5, oa 2 1 (eI .i64) s10.2), (8, oa 2 1 (eI .i64) s16.2)]⟩ ?_
  refine swp_cd h (fun h => ?_) fun h => ?_
  refine swp_skip ?_
  refine nx_n ?_
  refine swp_seq ?_
  refine swp_seqJ h (fun j18 => ⟨74, [(0, vs aA), (1, vs aB), (5, .own 5), (7, vi s10.1), (8, .own 8), (9, vi s16.1)], [(5, oa 2 1 (eI .i64) s10.2), (8, oa 2 1 (eI .i64) j18)]⟩) (fun v19 h => ?_) (fun j18 h => ?_)
  refine swp_blk (a := v19) ?_
  refine sr ?_
  refine SRun.ck tbok 3 ⟨74, [(0, vs aA), (1, vs aB), (5, .own 5), (7, vi s10.1), (8, .own 8), (9, vi s16.1), (36, .own 5), (38, vi (w64 (s16.1 - 1)))], [(5, oa 2 1 (eI .i64) s10.2), (8, oa 2 1 (eI .i64) s16.2)]⟩ ?_
  obtain ⟨x20, hx20, h⟩ := bind_some h
  refine SRun.ls (x_index_own (d := 5) (L := s10.2) (f := (eI .i64)) (ti := ti54) (tj := ti2) (e := 2) (e' := 2) (m := 1) (k := .i64) tbok rfl hx20) ?_
  refine SRun.ls (x_load_own (d := 5) (m := 1) (j := 0) (L := s10.2) (f := (eI .i64)) (ti := ti2) (e := 2) (v := vi x20) tbok rfl hx20) ?_
  refine ckn tbok 1 ⟨74, [(0, vs aA), (1, vs aB), (5, .own 5), (7, vi s10.1), (8, .own 8), (9, vi s16.1), (10, vi x20)], [(5, oa 2 1 (eI .i64) s10.2), (8, oa 2 1 (eI .i64) s16.2)]⟩ ?_
  refine swp_seq ?_
  refine swp_seq ?_
  refine swp_dr mixed ?_
  refine DGo.ck tbok false 3 ⟨74, [(0, vs aA), (1, vs aB), (5, .own 5), (7, vi s10.1), (8, .own 8), (9, vi s16.1), (10, vi x20), (41, vs aA), (43, vi (w64 (s10.1 - 1)))], [(5, oa 2 1 (eI .i64) s10.2), (8, oa 2 1 (eI .i64) s16.2)]⟩ ?_
  obtain ⟨x21, hx21, h⟩ := bind_some h
  refine DGo.step (x_byte (ti := ti9) (k := .i64) hx21 tbok rfl) ?_
  refine DGo.ck tbok false 3 ⟨74, [(0, vs aA), (1, vs aB), (5, .own 5), (7, vi s10.1), (8, .own 8), (9, vi s16.1), (10, vi x20), (44, .tr (.int .u8 x21)), (45, vs aB), (47, vi (w64 (s16.1 - 1)))], [(5, oa 2 1 (eI .i64) s10.2), (8, oa 2 1 (eI .i64) s16.2)]⟩ ?_
  obtain ⟨x22, hx22, h⟩ := bind_some h
  refine DGo.step (x_byte (ti := ti9) (k := .i64) hx22 tbok rfl) ?_
  refine DGo.ck tbok false 1 ⟨74, [(0, vs aA), (1, vs aB), (5, .own 5), (7, vi s10.1), (8, .own 8), (9, vi s16.1), (10, vi x20), (49, vb (x21 != x22))], [(5, oa 2 1 (eI .i64) s10.2), (8, oa 2 1 (eI .i64) s16.2)]⟩ ?_
  refine DGo.nx ?_
  refine swp_seqJ h (fun j23 => ⟨74, [(0, vs aA), (1, vs aB), (5, .own 5), (7, vi s10.1), (8, .own 8), (9, vi s16.1), (10, vi j23)], [(5, oa 2 1 (eI .i64) s10.2), (8, oa 2 1 (eI .i64) s16.2)]⟩) (fun v24 h => ?_) (fun j23 h => ?_)
  refine swp_cd h (fun h => ?_) fun h => ?_
  refine swp_reg ?_
  refine SRun.ck tbok 3 ⟨74, [(0, vs aA), (1, vs aB), (5, .own 5), (7, vi s10.1), (8, .own 8), (9, vi s16.1), (10, vi (w64 (x20 + 1)))], [(5, oa 2 1 (eI .i64) s10.2), (8, oa 2 1 (eI .i64) s16.2)]⟩ ?_
  refine SRun.nil ?_
  obtain rfl := inj h
  exact q_j (Le.sub0)
  refine swp_skip ?_
  obtain rfl := inj h
  exact q_j (Le.sub0)
  refine swp_dr mixed ?_
  refine DGo.ck tbok false 4 ⟨74, [(0, vs aA), (1, vs aB), (5, .own 5), (7, vi s10.1), (8, .own 8), (9, vi s16.1), (52, .own 8), (53, vi j23), (54, .own 5), (55, vi s16.1)], [(5, oa 2 1 (eI .i64) s10.2), (8, oa 2 1 (eI .i64) s16.2)]⟩ ?_
  obtain ⟨x25, hx25, h⟩ := bind_some h
  refine DGo.step (x_index_own (d := 5) (L := s10.2) (f := (eI .i64)) (ti := ti54) (tj := ti2) (e := 2) (e' := 2) (m := 1) (k := .i64) tbok rfl hx25) ?_
  refine DGo.step (x_load_own (d := 5) (m := 1) (j := 0) (L := s10.2) (f := (eI .i64)) (ti := ti2) (e := 2) (v := vi x25) tbok rfl hx25) ?_
  refine DGo.ck tbok false 4 ⟨74, [(0, vs aA), (1, vs aB), (5, .own 5), (7, vi s10.1), (9, vi s16.1), (52, .own 8), (53, vi j23), (58, vi (w64 (x25 + 1))), (59, .own 8), (61, vi (w64 (s16.1 - 1)))], [(5, oa 2 1 (eI .i64) s10.2), (8, oa 2 1 (eI .i64) s16.2)]⟩ ?_
  obtain ⟨x26, hx26, h⟩ := bind_some h
  refine DGo.step (x_index_own (d := 8) (L := s16.2) (f := (eI .i64)) (ti := ti54) (tj := ti2) (e := 2) (e' := 2) (m := 1) (k := .i64) tbok rfl hx26) ?_
  refine DGo.step (x_load_own (d := 8) (m := 1) (j := 0) (L := s16.2) (f := (eI .i64)) (ti := ti2) (e := 2) (v := vi x26) tbok rfl hx26) ?_
  refine DGo.ck tbok false 3 ⟨74, [(0, vs aA), (1, vs aB), (5, .own 5), (7, vi s10.1), (9, vi s16.1), (52, .own 8), (66, .own 66)], [(5, oa 2 1 (eI .i64) s10.2), (8, oa 2 1 (eI .i64) s16.2), (66, oa 2 1 (eI .i64) ([(minI (minI j23 (w64 (x25 + 1))) (w64 (x26 + 1)))] : List Int))]⟩ ?_
  refine DGo.seq (by kernel_rfl) (by kernel_rfl) ?_
  obtain ⟨x28, hx28, h⟩ := bind_some h
  refine SRun.estep (x_append (f := (eI .i64)) (t := 54) (ti := ti54) (tj := ti2) (zs := [.int .i64 0]) (e := 2) (m := 1) (d := 8) (xv := .own 66) hx28 tbok rfl rfl rfl rfl (x_src_o (e := 2))) ?_
  refine SRun.ck tbok 1 ⟨74, [(0, vs aA), (1, vs aB), (5, .own 5), (7, vi s10.1), (8, .own 67), (9, vi s16.1)], [(5, oa 2 1 (eI .i64) s10.2), (67, oa 2 1 (eI .i64) x28)]⟩ ?_
  refine SRun.nil ?_
  obtain rfl := inj h
  exact q_bn (q_j (Le.rr [5, 67] [(67, 8)]))
  refine swp_reg ?_
  refine SRun.ck tbok 3 ⟨74, [(0, vs aA), (1, vs aB), (5, .own 5), (7, vi s10.1), (8, .own 8), (9, vi (w64 (s16.1 + 1)))], [(5, oa 2 1 (eI .i64) s10.2), (8, oa 2 1 (eI .i64) j18)]⟩ ?_
  refine SRun.nil ?_
  obtain rfl := inj h
  exact q_l (Le.sub0)
  refine swp_exit ?_
  obtain rfl := inj h
  exact nx_e (q_re (q_bh (q_j (Le.sub0))))
  refine swp_reg ?_
  refine SRun.ck tbok 2 ⟨74, [(0, vs aA), (1, vs aB), (5, .own 8), (7, vi s10.1)], [(8, oa 2 1 (eI .i64) j14)]⟩ ?_
  refine SRun.nil ?_
  obtain rfl := inj h
  exact q_bn (q_j (Le.rr [8] [(8, 5)]))
  refine swp_reg ?_
  refine SRun.ck tbok 3 ⟨74, [(0, vs aA), (1, vs aB), (5, .own 5), (7, vi (w64 (s10.1 + 1)))], [(5, oa 2 1 (eI .i64) j12)]⟩ ?_
  refine SRun.nil ?_
  obtain rfl := inj h
  exact q_l (Le.sub0)
  refine swp_exit ?_
  obtain rfl := inj h
  exact nx_e (q_re (q_bh (q_j (Le.sub0))))
  refine sr ?_
  refine SRun.ck tbok 3 ⟨74, [(69, .own 5), (71, vi (aB.size : Int))], [(5, oa 2 1 (eI .i64) j8)]⟩ ?_
  obtain ⟨x29, hx29, h⟩ := bind_some h
  refine SRun.ls (x_index_own (d := 5) (L := j8) (f := (eI .i64)) (ti := ti54) (tj := ti2) (e := 2) (e' := 2) (m := 1) (k := .i64) tbok rfl hx29) ?_
  refine SRun.ls (x_load_own (d := 5) (m := 1) (j := 0) (L := j8) (f := (eI .i64)) (ti := ti2) (e := 2) (v := vi x29) tbok rfl hx29) ?_
  refine ckn tbok 1 ⟨74, [(4, vi x29)], []⟩ ?_
  refine swp_ret ?_
  obtain rfl := inj h
  exact q_fr (f1 fv)
theorem ents122 : Ents Tryz.prog 122 := ents_of Tryz.func122 (by kernel_rfl) rfl
noncomputable def spec_l30Distance (aA : ByteArray) (aB : ByteArray) : Option (Int) :=
  ((spec_l01Phrase aA).bind fun x1 => ((spec_l01Phrase aB).bind fun x2 => (((forS (maxI (x1.1.length : Int) (x2.1.length : Int)) (fun (i5 : Int) (s5 : Int) => (((bif (decide (i5 < (x1.1.length : Int))) then ((at' x1.1 i5).bind fun x11 => some x11) else some (ByteArray.mk #[]))).bind fun (j9 : ByteArray) => (((bif (decide (i5 < (x2.1.length : Int))) then ((at' x2.1 i5).bind fun x14 => some x14) else some (ByteArray.mk #[]))).bind fun (j12 : ByteArray) => ((spec_l01Distance j9 j12).bind fun x15 => some (w64 (s5 + x15)))))) (fun (s5 : Int) => s5) 0 0)).bind fun (j3 : Int) => some j3)))
theorem spec_l30Distance_run (aA : ByteArray) (aB : ByteArray) (r : Int) (h : spec_l30Distance aA aB = some r) : SCall Tryz.prog 77 [.v (vs aA), .v (vs aB)] ⟨[.v (vi r)], [], false⟩ := by
  refine scall_in Tryz.func77 rfl [(.tmp 4)] rfl (fun r => ⟨[.v (vi r)], [], false⟩) (r := r) ?_
  unfold spec_l30Distance at h
  refine srk tbok ⟨54, [(0, vs aA), (1, vs aB)], []⟩ ?_
  refine sr ?_
  refine SRun.ck tbok 1 ⟨54, [(1, vs aB), (14, vs aA)], []⟩ ?_
  obtain ⟨x1, hx1, h⟩ := bind_some h
  refine SRun.ls (xc ents121 (spec_l01Phrase_run aA _ hx1)) ?_
  refine ckn tbok 5 ⟨54, [(1, vs aB), (5, .own 15)], [(15, oa 9 1 eS x1.1)]⟩ ?_
  refine sr ?_
  refine SRun.ck tbok 1 ⟨54, [(5, .own 15), (19, vs aB)], [(15, oa 9 1 eS x1.1)]⟩ ?_
  obtain ⟨x2, hx2, h⟩ := bind_some h
  refine SRun.ls (xc ents121 (spec_l01Phrase_run aB _ hx2)) ?_
  refine ckn tbok 5 ⟨54, [(5, .own 15), (7, .own 20)], [(15, oa 9 1 eS x1.1), (20, oa 9 1 eS x2.1)]⟩ ?_
  refine srk tbok ⟨54, [(5, .own 15), (7, .own 20), (9, vi 0)], [(15, oa 9 1 eS x1.1), (20, oa 9 1 eS x2.1)]⟩ ?_
  refine swp_seq ?_
  refine srk tbok ⟨54, [(5, .own 15), (7, .own 20), (9, vi 0), (10, vi 0)], [(15, oa 9 1 eS x1.1), (20, oa 9 1 eS x2.1)]⟩ ?_
  refine swp_seqJ h (fun j3 => ⟨54, [(9, vi j3)], []⟩) (fun v4 h => ?_) (fun j3 h => ?_)
  refine swp_blk (a := v4) ?_
  refine swp_lpL (r := v4) (s := (0, 0)) _ (fun s5 => ⟨54, [(5, .own 5), (7, .own 7), (9, vi s5.2), (10, vi s5.1)], [(5, oa 9 1 eS x1.1), (7, oa 9 1 eS x2.1)]⟩) _ (Le.rr [15, 20] [(15, 5), (20, 7)]) h (fun s5 v6 h => ?_)
  refine swp_seq ?_
  refine srk tbok ⟨54, [(5, .own 5), (7, .own 7), (9, vi s5.2), (10, vi s5.1), (29, vb (decide (s5.1 < (maxI (x1.1.length : Int) (x2.1.length : Int)))))], [(5, oa 9 1 eS x1.1), (7, oa 9 1 eS x2.1)]⟩ ?_
  refine swp_cd h (fun h => ?_) fun h => ?_
  refine swp_skip ?_
  refine nx_n ?_
  refine swp_seq ?_
  refine swp_seqJ h (fun j7 => ⟨54, [(5, .own 5), (7, .own 7), (9, vi j7), (10, vi s5.1)], [(5, oa 9 1 eS x1.1), (7, oa 9 1 eS x2.1)]⟩) (fun v8 h => ?_) (fun j7 h => ?_)
  refine swp_blk (a := v8) ?_
  refine srk tbok ⟨54, [(5, .own 5), (7, .own 7), (9, vi s5.2), (10, vi s5.1), (11, vs (ByteArray.mk #[])), (12, vs (ByteArray.mk #[]))], [(5, oa 9 1 eS x1.1), (7, oa 9 1 eS x2.1)]⟩ ?_
  refine swp_seq ?_
  refine srk tbok ⟨54, [(5, .own 5), (7, .own 7), (9, vi s5.2), (10, vi s5.1), (11, vs (ByteArray.mk #[])), (12, vs (ByteArray.mk #[])), (35, vb (decide (s5.1 < (x1.1.length : Int))))], [(5, oa 9 1 eS x1.1), (7, oa 9 1 eS x2.1)]⟩ ?_
  refine swp_seqJ h (fun j9 => ⟨54, [(5, .own 5), (7, .own 7), (9, vi s5.2), (10, vi s5.1), (11, vs j9), (12, vs (ByteArray.mk #[]))], [(5, oa 9 1 eS x1.1), (7, oa 9 1 eS x2.1)]⟩) (fun v10 h => ?_) (fun j9 h => ?_)
  refine swp_cd h (fun h => ?_) fun h => ?_
  refine swp_reg ?_
  refine SRun.ck tbok 2 ⟨54, [(5, .own 5), (7, .own 7), (9, vi s5.2), (10, vi s5.1), (12, vs (ByteArray.mk #[])), (36, .own 5), (37, vi s5.1)], [(5, oa 9 1 eS x1.1), (7, oa 9 1 eS x2.1)]⟩ ?_
  obtain ⟨x11, hx11, h⟩ := bind_some h
  refine SRun.ls (x_index_own (d := 5) (L := x1.1) (f := eS) (ti := ti28) (tj := ti9) (e := 9) (e' := 9) (m := 1) (k := .i64) tbok rfl hx11) ?_
  refine SRun.ls (x_load_own (d := 5) (m := 1) (j := 0) (L := x1.1) (f := eS) (ti := ti9) (e := 9) (v := vs x11) tbok rfl hx11) ?_
  refine SRun.ck tbok 1 ⟨54, [(5, .own 5), (7, .own 7), (9, vi s5.2), (10, vi s5.1), (11, vs x11), (12, vs (ByteArray.mk #[]))], [(5, oa 9 1 eS x1.1), (7, oa 9 1 eS x2.1)]⟩ ?_
  refine SRun.nil ?_
  obtain rfl := inj h
  exact q_j (Le.sub0)
  refine swp_skip ?_
  obtain rfl := inj h
  exact q_j (Le.sub0)
  refine swp_seq ?_
  refine srk tbok ⟨54, [(5, .own 5), (7, .own 7), (9, vi s5.2), (10, vi s5.1), (11, vs j9), (12, vs (ByteArray.mk #[])), (43, vb (decide (s5.1 < (x2.1.length : Int))))], [(5, oa 9 1 eS x1.1), (7, oa 9 1 eS x2.1)]⟩ ?_
  refine swp_seqJ h (fun j12 => ⟨54, [(5, .own 5), (7, .own 7), (9, vi s5.2), (10, vi s5.1), (11, vs j9), (12, vs j12)], [(5, oa 9 1 eS x1.1), (7, oa 9 1 eS x2.1)]⟩) (fun v13 h => ?_) (fun j12 h => ?_)
  refine swp_cd h (fun h => ?_) fun h => ?_
  refine swp_reg ?_
  refine SRun.ck tbok 2 ⟨54, [(5, .own 5), (7, .own 7), (9, vi s5.2), (10, vi s5.1), (11, vs j9), (44, .own 7), (45, vi s5.1)], [(5, oa 9 1 eS x1.1), (7, oa 9 1 eS x2.1)]⟩ ?_
  obtain ⟨x14, hx14, h⟩ := bind_some h
  refine SRun.ls (x_index_own (d := 7) (L := x2.1) (f := eS) (ti := ti28) (tj := ti9) (e := 9) (e' := 9) (m := 1) (k := .i64) tbok rfl hx14) ?_
  refine SRun.ls (x_load_own (d := 7) (m := 1) (j := 0) (L := x2.1) (f := eS) (ti := ti9) (e := 9) (v := vs x14) tbok rfl hx14) ?_
  refine SRun.ck tbok 1 ⟨54, [(5, .own 5), (7, .own 7), (9, vi s5.2), (10, vi s5.1), (11, vs j9), (12, vs x14)], [(5, oa 9 1 eS x1.1), (7, oa 9 1 eS x2.1)]⟩ ?_
  refine SRun.nil ?_
  obtain rfl := inj h
  exact q_j (Le.sub0)
  refine swp_skip ?_
  obtain rfl := inj h
  exact q_j (Le.sub0)
  refine swp_reg ?_
  refine SRun.ck tbok 3 ⟨54, [(5, .own 5), (7, .own 7), (10, vi s5.1), (48, vi s5.2), (49, vs j9), (50, vs j12)], [(5, oa 9 1 eS x1.1), (7, oa 9 1 eS x2.1)]⟩ ?_
  obtain ⟨x15, hx15, h⟩ := bind_some h
  refine SRun.ls (xc ents122 (spec_l01Distance_run j9 j12 _ hx15)) ?_
  refine SRun.ck tbok 2 ⟨54, [(5, .own 5), (7, .own 7), (9, vi (w64 (s5.2 + x15))), (10, vi s5.1)], [(5, oa 9 1 eS x1.1), (7, oa 9 1 eS x2.1)]⟩ ?_
  refine SRun.nil ?_
  obtain rfl := inj h
  exact q_bn (q_j (Le.sub0))
  refine swp_reg ?_
  refine SRun.ck tbok 3 ⟨54, [(5, .own 5), (7, .own 7), (9, vi j7), (10, vi (w64 (s5.1 + 1)))], [(5, oa 9 1 eS x1.1), (7, oa 9 1 eS x2.1)]⟩ ?_
  refine SRun.nil ?_
  obtain rfl := inj h
  exact q_l (Le.sub0)
  refine swp_exit ?_
  obtain rfl := inj h
  exact nx_e (q_re (q_bh (q_j (Le.sub0))))
  refine srk tbok ⟨54, [(4, vi j3)], []⟩ ?_
  refine swp_ret ?_
  obtain rfl := inj h
  exact q_fr (f1 fv)
theorem ents77 : Ents Tryz.prog 77 := ents_of Tryz.func77 (by kernel_rfl) rfl
noncomputable def spec_l15Squared (aA : Point) (aB : Point) : Option (Int) :=
  some (w64 ((w64 ((w64 (aA.X - aB.X)) * (w64 (aA.X - aB.X)))) + (w64 ((w64 (aA.Y - aB.Y)) * (w64 (aA.Y - aB.Y))))))
theorem spec_l15Squared_run (aA : Point) (aB : Point) (r : Int) (h : spec_l15Squared aA aB = some r) : SCall Tryz.prog 92 [.v (.agg (tc ePoint aA)), .v (.agg (tc ePoint aB))] ⟨[.v (vi r)], [], false⟩ := by
  refine scall_in Tryz.func92 rfl [(.tmp 4)] rfl (fun r => ⟨[.v (vi r)], [], false⟩) (r := r) ?_
  unfold spec_l15Squared at h
  refine srk tbok ⟨28, [(2, .ref 2 0), (3, .ref 3 0)], [(2, .box (tc ePoint aA)), (3, .box (tc ePoint aB))]⟩ ?_
  refine srk tbok ⟨28, [(4, vi (w64 ((w64 ((w64 (aA.X - aB.X)) * (w64 (aA.X - aB.X)))) + (w64 ((w64 (aA.Y - aB.Y)) * (w64 (aA.Y - aB.Y)))))))], []⟩ ?_
  refine swp_ret ?_
  obtain rfl := inj h
  exact q_fr (f1 fv)
theorem ents92 : Ents Tryz.prog 92 := ents_of Tryz.func92 (by kernel_rfl) rfl
noncomputable def spec_l01Abs (aN : Int) : Option (Int) :=
  some (maxI aN (w64 (0 - aN)))
theorem spec_l01Abs_run (aN : Int) (r : Int) (h : spec_l01Abs aN = some r) : SCall Tryz.prog 137 [.v (vi aN)] ⟨[.v (vi r)], [], false⟩ := by
  refine scall_in Tryz.func137 rfl [(.tmp 2)] rfl (fun r => ⟨[.v (vi r)], [], false⟩) (r := r) ?_
  unfold spec_l01Abs at h
  refine srk tbok ⟨7, [(0, vi aN)], []⟩ ?_
  refine srk tbok ⟨7, [(2, vi (maxI aN (w64 (0 - aN))))], []⟩ ?_
  refine swp_ret ?_
  obtain rfl := inj h
  exact q_fr (f1 fv)
theorem ents137 : Ents Tryz.prog 137 := ents_of Tryz.func137 (by kernel_rfl) rfl
noncomputable def spec_l15Direction (aA : Point) (aB : Point) : Option (Int) :=
  ((((((spec_l01Abs (w64 (aB.X - aA.X))).bind fun x3 => ((spec_l01Abs (w64 (aB.Y - aA.Y))).bind fun x4 => (bif (decide ((w64 (2 * x3)) < x4)) then some (decide ((w64 (aB.Y - aA.Y)) > 0)) else some false)))).bind fun (j5 : Bool) => (bif j5 then some (.inr 0) else ((spec_l01Abs (w64 (aB.X - aA.X))).bind fun x7 => ((spec_l01Abs (w64 (aB.Y - aA.Y))).bind fun x8 => (bif (decide ((w64 (2 * x7)) < x8)) then some (.inr 4) else ((((spec_l01Abs (w64 (aB.Y - aA.Y))).bind fun x9 => ((spec_l01Abs (w64 (aB.X - aA.X))).bind fun x10 => (bif (decide ((w64 (2 * x9)) < x10)) then some (decide ((w64 (aB.X - aA.X)) > 0)) else some false)))).bind fun (j11 : Bool) => (bif j11 then some (.inr 2) else ((spec_l01Abs (w64 (aB.Y - aA.Y))).bind fun x13 => ((spec_l01Abs (w64 (aB.X - aA.X))).bind fun x14 => (bif (decide ((w64 (2 * x13)) < x14)) then some (.inr 6) else (bif ((decide ((w64 (aB.X - aA.X)) > 0)) && (decide ((w64 (aB.Y - aA.Y)) > 0))) then some (.inr 1) else (bif (decide ((w64 (aB.X - aA.X)) > 0)) then some (.inr 3) else (bif (decide ((w64 (aB.Y - aA.Y)) < 0)) then some (.inr 5) else some (.inl ()))))))))))))))).bind (Sum.elim (fun (_ : Unit) => some 7) some))
theorem spec_l15Direction_run (aA : Point) (aB : Point) (r : Int) (h : spec_l15Direction aA aB = some r) : SCall Tryz.prog 95 [.v (.agg (tc ePoint aA)), .v (.agg (tc ePoint aB))] ⟨[.v (vi r)], [], false⟩ := by
  refine scall_in Tryz.func95 rfl [(.tmp 4)] rfl (fun r => ⟨[.v (vi r)], [], false⟩) (r := r) ?_
  unfold spec_l15Direction at h
  refine srk tbok ⟨66, [(2, .ref 2 0), (3, .ref 3 0)], [(2, .box (tc ePoint aA)), (3, .box (tc ePoint aB))]⟩ ?_
  refine swp_seq ?_
  refine swp_dr mixed ?_
  refine DGo.ck tbok false 12 ⟨66, [(5, vi (w64 (aB.X - aA.X))), (6, vi (w64 (aB.Y - aA.Y)))], []⟩ ?_
  refine DGo.nx ?_
  refine swp_seq ?_
  refine swp_seqE (r := r) h (fun j1 => ⟨66, [], []⟩) (fun v2 h => ?_) (fun j1 h => ?_)
  refine swp_blk (a := v2) ?_
  refine swp_seq ?_
  refine swp_regJ h (fun j5 => ⟨66, [(5, vi (w64 (aB.X - aA.X))), (6, vi (w64 (aB.Y - aA.Y))), (17, vb j5)], []⟩) (fun v6 h => ?_) (fun j5 h => ?_)
  refine SRun.ck tbok 1 ⟨66, [(5, vi (w64 (aB.X - aA.X))), (6, vi (w64 (aB.Y - aA.Y))), (18, vi (w64 (aB.X - aA.X)))], []⟩ ?_
  obtain ⟨x3, hx3, h⟩ := bind_some h
  refine SRun.ls (xc ents137 (spec_l01Abs_run (w64 (aB.X - aA.X)) _ hx3)) ?_
  refine SRun.ck tbok 2 ⟨66, [(5, vi (w64 (aB.X - aA.X))), (6, vi (w64 (aB.Y - aA.Y))), (20, vi (w64 (2 * x3))), (21, vi (w64 (aB.Y - aA.Y)))], []⟩ ?_
  obtain ⟨x4, hx4, h⟩ := bind_some h
  refine SRun.ls (xc ents137 (spec_l01Abs_run (w64 (aB.Y - aA.Y)) _ hx4)) ?_
  refine SRun.ck tbok 2 ⟨66, [(5, vi (w64 (aB.X - aA.X))), (6, vi (w64 (aB.Y - aA.Y))), (24, vb (decide ((w64 (2 * x3)) < x4)))], []⟩ ?_
  refine SRun.cu [(24, fun b => b)] h (fun h => ?_) fun h => ?_
  refine SRun.ck tbok 4 ⟨66, [(5, vi (w64 (aB.X - aA.X))), (6, vi (w64 (aB.Y - aA.Y))), (17, vb (decide ((w64 (aB.Y - aA.Y)) > 0)))], []⟩ ?_
  refine SRun.nil ?_
  obtain rfl := inj h
  exact Le.sub0
  refine SRun.ck tbok 4 ⟨66, [(5, vi (w64 (aB.X - aA.X))), (6, vi (w64 (aB.Y - aA.Y))), (17, vb false)], []⟩ ?_
  refine SRun.nil ?_
  obtain rfl := inj h
  exact Le.sub0
  refine swp_cd h (fun h => ?_) fun h => ?_
  refine srk tbok ⟨66, [(4, vi 0)], []⟩ ?_
  refine swp_ret ?_
  obtain rfl := inj h
  exact q_br (q_rr (q_fr (f1 fv)))
  refine sr ?_
  refine SRun.ck tbok 1 ⟨66, [(5, vi (w64 (aB.X - aA.X))), (6, vi (w64 (aB.Y - aA.Y))), (29, vi (w64 (aB.X - aA.X)))], []⟩ ?_
  obtain ⟨x7, hx7, h⟩ := bind_some h
  refine SRun.ls (xc ents137 (spec_l01Abs_run (w64 (aB.X - aA.X)) _ hx7)) ?_
  refine SRun.ck tbok 2 ⟨66, [(5, vi (w64 (aB.X - aA.X))), (6, vi (w64 (aB.Y - aA.Y))), (31, vi (w64 (2 * x7))), (32, vi (w64 (aB.Y - aA.Y)))], []⟩ ?_
  obtain ⟨x8, hx8, h⟩ := bind_some h
  refine SRun.ls (xc ents137 (spec_l01Abs_run (w64 (aB.Y - aA.Y)) _ hx8)) ?_
  refine ckn tbok 2 ⟨66, [(5, vi (w64 (aB.X - aA.X))), (6, vi (w64 (aB.Y - aA.Y))), (28, vb (decide ((w64 (2 * x7)) < x8)))], []⟩ ?_
  refine swp_cd h (fun h => ?_) fun h => ?_
  refine srk tbok ⟨66, [(4, vi 4)], []⟩ ?_
  refine swp_ret ?_
  obtain rfl := inj h
  exact q_br (q_rr (q_fr (f1 fv)))
  refine swp_seq ?_
  refine swp_regJ h (fun j11 => ⟨66, [(5, vi (w64 (aB.X - aA.X))), (6, vi (w64 (aB.Y - aA.Y))), (35, vb j11)], []⟩) (fun v12 h => ?_) (fun j11 h => ?_)
  refine SRun.ck tbok 1 ⟨66, [(5, vi (w64 (aB.X - aA.X))), (6, vi (w64 (aB.Y - aA.Y))), (36, vi (w64 (aB.Y - aA.Y)))], []⟩ ?_
  obtain ⟨x9, hx9, h⟩ := bind_some h
  refine SRun.ls (xc ents137 (spec_l01Abs_run (w64 (aB.Y - aA.Y)) _ hx9)) ?_
  refine SRun.ck tbok 2 ⟨66, [(5, vi (w64 (aB.X - aA.X))), (6, vi (w64 (aB.Y - aA.Y))), (38, vi (w64 (2 * x9))), (39, vi (w64 (aB.X - aA.X)))], []⟩ ?_
  obtain ⟨x10, hx10, h⟩ := bind_some h
  refine SRun.ls (xc ents137 (spec_l01Abs_run (w64 (aB.X - aA.X)) _ hx10)) ?_
  refine SRun.ck tbok 2 ⟨66, [(5, vi (w64 (aB.X - aA.X))), (6, vi (w64 (aB.Y - aA.Y))), (42, vb (decide ((w64 (2 * x9)) < x10)))], []⟩ ?_
  refine SRun.cu [(42, fun b => b)] h (fun h => ?_) fun h => ?_
  refine SRun.ck tbok 4 ⟨66, [(5, vi (w64 (aB.X - aA.X))), (6, vi (w64 (aB.Y - aA.Y))), (35, vb (decide ((w64 (aB.X - aA.X)) > 0)))], []⟩ ?_
  refine SRun.nil ?_
  obtain rfl := inj h
  exact Le.sub0
  refine SRun.ck tbok 4 ⟨66, [(5, vi (w64 (aB.X - aA.X))), (6, vi (w64 (aB.Y - aA.Y))), (35, vb false)], []⟩ ?_
  refine SRun.nil ?_
  obtain rfl := inj h
  exact Le.sub0
  refine swp_cd h (fun h => ?_) fun h => ?_
  refine srk tbok ⟨66, [(4, vi 2)], []⟩ ?_
  refine swp_ret ?_
  obtain rfl := inj h
  exact q_br (q_rr (q_fr (f1 fv)))
  refine sr ?_
  refine SRun.ck tbok 1 ⟨66, [(5, vi (w64 (aB.X - aA.X))), (6, vi (w64 (aB.Y - aA.Y))), (47, vi (w64 (aB.Y - aA.Y)))], []⟩ ?_
  obtain ⟨x13, hx13, h⟩ := bind_some h
  refine SRun.ls (xc ents137 (spec_l01Abs_run (w64 (aB.Y - aA.Y)) _ hx13)) ?_
  refine SRun.ck tbok 2 ⟨66, [(5, vi (w64 (aB.X - aA.X))), (6, vi (w64 (aB.Y - aA.Y))), (49, vi (w64 (2 * x13))), (50, vi (w64 (aB.X - aA.X)))], []⟩ ?_
  obtain ⟨x14, hx14, h⟩ := bind_some h
  refine SRun.ls (xc ents137 (spec_l01Abs_run (w64 (aB.X - aA.X)) _ hx14)) ?_
  refine ckn tbok 2 ⟨66, [(5, vi (w64 (aB.X - aA.X))), (6, vi (w64 (aB.Y - aA.Y))), (46, vb (decide ((w64 (2 * x13)) < x14)))], []⟩ ?_
  refine swp_cd h (fun h => ?_) fun h => ?_
  refine srk tbok ⟨66, [(4, vi 6)], []⟩ ?_
  refine swp_ret ?_
  obtain rfl := inj h
  exact q_br (q_rr (q_fr (f1 fv)))
  refine swp_seq ?_
  refine swp_regP ⟨66, [(5, vi (w64 (aB.X - aA.X))), (6, vi (w64 (aB.Y - aA.Y))), (53, vb ((decide ((w64 (aB.X - aA.X)) > 0)) && (decide ((w64 (aB.Y - aA.Y)) > 0))))], []⟩ ?_ ?_
  refine SRun.ck tbok 3 ⟨66, [(5, vi (w64 (aB.X - aA.X))), (6, vi (w64 (aB.Y - aA.Y))), (56, vb (decide ((w64 (aB.X - aA.X)) > 0)))], []⟩ ?_
  generalize (decide ((w64 (aB.X - aA.X)) > 0)) = bb
  cases bb
  refine SRun.ck tbok 4 ⟨66, [(5, vi (w64 (aB.X - aA.X))), (6, vi (w64 (aB.Y - aA.Y))), (53, vb false)], []⟩ ?_
  exact SRun.nil (Le.sub0)
  refine SRun.ck tbok 4 ⟨66, [(5, vi (w64 (aB.X - aA.X))), (6, vi (w64 (aB.Y - aA.Y))), (53, vb (decide ((w64 (aB.Y - aA.Y)) > 0)))], []⟩ ?_
  exact SRun.nil (Le.sub0)
  refine swp_cd h (fun h => ?_) fun h => ?_
  refine srk tbok ⟨66, [(4, vi 1)], []⟩ ?_
  refine swp_ret ?_
  obtain rfl := inj h
  exact q_br (q_rr (q_fr (f1 fv)))
  refine srk tbok ⟨66, [(6, vi (w64 (aB.Y - aA.Y))), (60, vb (decide ((w64 (aB.X - aA.X)) > 0)))], []⟩ ?_
  refine swp_cd h (fun h => ?_) fun h => ?_
  refine srk tbok ⟨66, [(4, vi 3)], []⟩ ?_
  refine swp_ret ?_
  obtain rfl := inj h
  exact q_br (q_rr (q_fr (f1 fv)))
  refine srk tbok ⟨66, [(63, vb (decide ((w64 (aB.Y - aA.Y)) < 0)))], []⟩ ?_
  refine swp_cd h (fun h => ?_) fun h => ?_
  refine srk tbok ⟨66, [(4, vi 5)], []⟩ ?_
  refine swp_ret ?_
  obtain rfl := inj h
  exact q_br (q_rr (q_fr (f1 fv)))
  refine swp_skip ?_
  obtain rfl := inj h
  exact q_bn (q_l (Le.sub0))
  refine srk tbok ⟨66, [(4, vi 7)], []⟩ ?_
  refine swp_ret ?_
  obtain rfl := inj h
  exact q_fr (f1 fv)
theorem ents95 : Ents Tryz.prog 95 := ents_of Tryz.func95 (by kernel_rfl) rfl
noncomputable def spec_l01Mod (aA : Int) (aM : Int) : Option (Int) :=
  ((nz' aM).bind fun _ => ((nz' aM).bind fun _ => some (Int.tmod (w64 ((Int.tmod aA aM) + aM)) aM)))
theorem spec_l01Mod_run (aA : Int) (aM : Int) (r : Int) (h : spec_l01Mod aA aM = some r) : SCall Tryz.prog 94 [.v (vi aA), .v (vi aM)] ⟨[.v (vi r)], [], false⟩ := by
  refine scall_in Tryz.func94 rfl [(.tmp 4)] rfl (fun r => ⟨[.v (vi r)], [], false⟩) (r := r) ?_
  unfold spec_l01Mod at h
  refine srk tbok ⟨12, [(0, vi aA), (1, vi aM)], []⟩ ?_
  refine sr ?_
  refine SRun.ck tbok 2 ⟨12, [(1, vi aM), (5, vi aA), (6, vi aM)], []⟩ ?_
  obtain ⟨x1, hx1, h⟩ := bind_some h
  refine SRun.ls (x_lstep_quo (k := .i64) (i := aA) hx1 true rfl) ?_
  refine SRun.ck tbok 3 ⟨12, [(9, vi (w64 ((Int.tmod aA aM) + aM))), (10, vi aM)], []⟩ ?_
  obtain ⟨x2, hx2, h⟩ := bind_some h
  refine SRun.ls (x_lstep_quo (k := .i64) (i := (w64 ((Int.tmod aA aM) + aM))) hx2 true rfl) ?_
  refine ckn tbok 1 ⟨12, [(4, vi (Int.tmod (w64 ((Int.tmod aA aM) + aM)) aM))], []⟩ ?_
  refine swp_ret ?_
  obtain rfl := inj h
  exact q_fr (f1 fv)
theorem ents94 : Ents Tryz.prog 94 := ents_of Tryz.func94 (by kernel_rfl) rfl
noncomputable def spec_l15Turn (aA : Point) (aB : Point) (aC : Point) : Option (Int) :=
  some (w64 ((w64 ((w64 (aB.X - aA.X)) * (w64 (aC.Y - aA.Y)))) - (w64 ((w64 (aB.Y - aA.Y)) * (w64 (aC.X - aA.X))))))
theorem spec_l15Turn_run (aA : Point) (aB : Point) (aC : Point) (r : Int) (h : spec_l15Turn aA aB aC = some r) : SCall Tryz.prog 138 [.v (.agg (tc ePoint aA)), .v (.agg (tc ePoint aB)), .v (.agg (tc ePoint aC))] ⟨[.v (vi r)], [], false⟩ := by
  refine scall_in Tryz.func138 rfl [(.tmp 6)] rfl (fun r => ⟨[.v (vi r)], [], false⟩) (r := r) ?_
  unfold spec_l15Turn at h
  refine srk tbok ⟨30, [(3, .ref 3 0), (4, .ref 4 0), (5, .ref 5 0)], [(3, .box (tc ePoint aA)), (4, .box (tc ePoint aB)), (5, .box (tc ePoint aC))]⟩ ?_
  refine srk tbok ⟨30, [(6, vi (w64 ((w64 ((w64 (aB.X - aA.X)) * (w64 (aC.Y - aA.Y)))) - (w64 ((w64 (aB.Y - aA.Y)) * (w64 (aC.X - aA.X)))))))], []⟩ ?_
  refine swp_ret ?_
  obtain rfl := inj h
  exact q_fr (f1 fv)
theorem ents138 : Ents Tryz.prog 138 := ents_of Tryz.func138 (by kernel_rfl) rfl
noncomputable def spec_l29Between (aA : Point) (aB : Point) (aP : Point) : Option (Bool) :=
  (bif ((aA.X == aB.X) && (aA.Y == aB.Y)) then some ((aP.X == aA.X) && (aP.Y == aA.Y)) else ((spec_l15Squared aA aB).bind fun x1 => ((spec_l15Turn aA aB aP).bind fun x2 => ((((spec_l01In (w64 ((w64 ((w64 (aP.X - aA.X)) * (w64 (aB.X - aA.X)))) + (w64 ((w64 (aP.Y - aA.Y)) * (w64 (aB.Y - aA.Y)))))) 0 x1).bind fun x3 => (bif x3 then some (decide ((w64 ((w64 (16 * x2)) * x2)) ≤ (w64 (x1 * x1)))) else some false))).bind fun (j4 : Bool) => some j4))))
theorem spec_l29Between_run (aA : Point) (aB : Point) (aP : Point) (r : Bool) (h : spec_l29Between aA aB aP = some r) : SCall Tryz.prog 96 [.v (.agg (tc ePoint aA)), .v (.agg (tc ePoint aB)), .v (.agg (tc ePoint aP))] ⟨[.v (vb r)], [], false⟩ := by
  refine scall_in Tryz.func96 rfl [(.tmp 6)] rfl (fun r => ⟨[.v (vb r)], [], false⟩) (r := r) ?_
  unfold spec_l29Between at h
  refine srk tbok ⟨59, [(3, .ref 3 0), (4, .ref 4 0), (5, .ref 5 0)], [(3, .box (tc ePoint aA)), (4, .box (tc ePoint aB)), (5, .box (tc ePoint aP))]⟩ ?_
  refine swp_seq ?_
  refine sr ?_
  refine SRun.ck tbok 2 ⟨59, [(3, .ref 3 0), (4, .ref 4 0), (5, .ref 5 0), (10, .agg (tc ePoint aA)), (11, .agg (tc ePoint aB))], [(3, .box (tc ePoint aA)), (4, .box (tc ePoint aB)), (5, .box (tc ePoint aP))]⟩ ?_
  refine SRun.ls (x_lstep_eq tbok false (xs := [vi aA.X, vi aA.Y]) (ys := [vi aB.X, vi aB.Y]) (b := ((aA.X == aB.X) && (aA.Y == aB.Y))) rfl) ?_
  refine SRun.nx ?_
  refine swp_cd h (fun h => ?_) fun h => ?_
  refine sr ?_
  refine SRun.ck tbok 2 ⟨59, [(13, .agg (tc ePoint aP)), (14, .agg (tc ePoint aA))], []⟩ ?_
  refine SRun.ls (x_lstep_eq tbok false (xs := [vi aP.X, vi aP.Y]) (ys := [vi aA.X, vi aA.Y]) (b := ((aP.X == aA.X) && (aP.Y == aA.Y))) rfl) ?_
  refine ckn tbok 1 ⟨59, [(6, vb ((aP.X == aA.X) && (aP.Y == aA.Y)))], []⟩ ?_
  refine swp_ret ?_
  obtain rfl := inj h
  exact nx_r (q_fr (f1 fv))
  refine swp_skip ?_
  refine nx_n ?_
  refine sr ?_
  refine SRun.ck tbok 2 ⟨59, [(3, .ref 3 0), (4, .ref 4 0), (5, .ref 5 0), (16, .agg (tc ePoint aA)), (17, .agg (tc ePoint aB))], [(3, .box (tc ePoint aA)), (4, .box (tc ePoint aB)), (5, .box (tc ePoint aP))]⟩ ?_
  obtain ⟨x1, hx1, h⟩ := bind_some h
  refine SRun.ls (xc ents92 (spec_l15Squared_run aA aB _ hx1)) ?_
  refine ckn tbok 1 ⟨59, [(3, .ref 3 0), (4, .ref 4 0), (5, .ref 5 0), (7, vi x1)], [(3, .box (tc ePoint aA)), (4, .box (tc ePoint aB)), (5, .box (tc ePoint aP))]⟩ ?_
  refine srk tbok ⟨59, [(3, .ref 3 0), (4, .ref 4 0), (5, .ref 5 0), (7, vi x1), (8, vi (w64 ((w64 ((w64 (aP.X - aA.X)) * (w64 (aB.X - aA.X)))) + (w64 ((w64 (aP.Y - aA.Y)) * (w64 (aB.Y - aA.Y)))))))], [(3, .box (tc ePoint aA)), (4, .box (tc ePoint aB)), (5, .box (tc ePoint aP))]⟩ ?_
  refine sr ?_
  refine SRun.ck tbok 3 ⟨59, [(7, vi x1), (8, vi (w64 ((w64 ((w64 (aP.X - aA.X)) * (w64 (aB.X - aA.X)))) + (w64 ((w64 (aP.Y - aA.Y)) * (w64 (aB.Y - aA.Y))))))), (42, .agg (tc ePoint aA)), (43, .agg (tc ePoint aB)), (44, .agg (tc ePoint aP))], []⟩ ?_
  obtain ⟨x2, hx2, h⟩ := bind_some h
  refine SRun.ls (xc ents138 (spec_l15Turn_run aA aB aP _ hx2)) ?_
  refine ckn tbok 1 ⟨59, [(7, vi x1), (8, vi (w64 ((w64 ((w64 (aP.X - aA.X)) * (w64 (aB.X - aA.X)))) + (w64 ((w64 (aP.Y - aA.Y)) * (w64 (aB.Y - aA.Y))))))), (9, vi x2)], []⟩ ?_
  refine swp_seq ?_
  refine swp_regJ h (fun j4 => ⟨59, [(6, vb j4)], []⟩) (fun v5 h => ?_) (fun j4 h => ?_)
  refine SRun.ck tbok 2 ⟨59, [(7, vi x1), (9, vi x2), (46, vi (w64 ((w64 ((w64 (aP.X - aA.X)) * (w64 (aB.X - aA.X)))) + (w64 ((w64 (aP.Y - aA.Y)) * (w64 (aB.Y - aA.Y))))))), (47, vi x1)], []⟩ ?_
  obtain ⟨x3, hx3, h⟩ := bind_some h
  refine SRun.ls (xc ents136 (spec_l01In_run (w64 ((w64 ((w64 (aP.X - aA.X)) * (w64 (aB.X - aA.X)))) + (w64 ((w64 (aP.Y - aA.Y)) * (w64 (aB.Y - aA.Y)))))) 0 x1 _ hx3)) ?_
  refine SRun.ck tbok 1 ⟨59, [(7, vi x1), (9, vi x2), (49, vb x3)], []⟩ ?_
  refine SRun.cu [(49, fun b => b)] h (fun h => ?_) fun h => ?_
  refine SRun.ck tbok 10 ⟨59, [(6, vb (decide ((w64 ((w64 (16 * x2)) * x2)) ≤ (w64 (x1 * x1)))))], []⟩ ?_
  refine SRun.nil ?_
  obtain rfl := inj h
  exact Le.sub0
  refine SRun.ck tbok 10 ⟨59, [(6, vb false)], []⟩ ?_
  refine SRun.nil ?_
  obtain rfl := inj h
  exact Le.sub0
  refine swp_ret ?_
  obtain rfl := inj h
  exact q_fr (f1 fv)
theorem ents96 : Ents Tryz.prog 96 := ents_of Tryz.func96 (by kernel_rfl) rfl
noncomputable def spec_l29Satisfies (aList : (List Site)) (aD : Description) (aP : Point) : Option (Bool) :=
  ((spec_l29Find aList aD.A).bind fun x1 => ((at' aList x1).bind fun x2 => ((spec_l15Squared x2.At aP).bind fun x3 => (((bif (aD.Kind == 0) then some (.inr ((aP.X == x2.At.X) && (aP.Y == x2.At.Y))) else (bif (aD.Kind == 1) then some (.inr (decide (x3 ≤ 64))) else (bif (aD.Kind == 2) then ((spec_l28Unit aD.Unit aD.Count).bind fun x6 => (bif ((decide ((w64 (16 * x3)) < (w64 ((w64 (9 * (w64 (aD.Count * x6)))) * (w64 (aD.Count * x6)))))) || ((decide ((w64 (16 * x3)) > (w64 ((w64 (25 * (w64 (aD.Count * x6)))) * (w64 (aD.Count * x6)))))) || ((aP.X == x2.At.X) && (aP.Y == x2.At.Y)))) then some (.inr false) else ((spec_l15Direction x2.At aP).bind fun x7 => ((spec_l01Mod (w64 (x7 - aD.Direction)) 8).bind fun x8 => some (.inr ((x8 == 0) || ((x8 == 1) || (x8 == 7)))))))) else some (.inl ()))))).bind (Sum.elim (fun (_ : Unit) => ((spec_l29Find aList aD.B).bind fun x9 => ((at' aList x9).bind fun x10 => ((spec_l29Between x2.At x10.At aP).bind fun x11 => some x11)))) some)))))
theorem spec_l29Satisfies_run (aList : (List Site)) (aD : Description) (aP : Point) (r : Bool) (h : spec_l29Satisfies aList aD aP = some r) : SCall Tryz.prog 52 [.v (vl eSite aList), .v (.agg (tc eDescription aD)), .v (.agg (tc ePoint aP))] ⟨[.v (vb r)], [], false⟩ := by
  refine scall_in Tryz.func52 rfl [(.tmp 6)] rfl (fun r => ⟨[.v (vb r)], [], false⟩) (r := r) ?_
  unfold spec_l29Satisfies at h
  refine srk tbok ⟨92, [(0, vl eSite aList), (4, .ref 4 0), (5, .ref 5 0)], [(4, .box (tc eDescription aD)), (5, .box (tc ePoint aP))]⟩ ?_
  refine sr ?_
  refine SRun.ck tbok 4 ⟨92, [(0, vl eSite aList), (4, .ref 4 0), (5, .ref 5 0), (11, vl eSite aList), (12, vl eSite aList), (14, vs aD.A)], [(4, .box (tc eDescription aD)), (5, .box (tc ePoint aP))]⟩ ?_
  obtain ⟨x1, hx1, h⟩ := bind_some h
  refine SRun.ls (xc ents91 (spec_l29Find_run aList aD.A _ hx1)) ?_
  obtain ⟨x2, hx2, h⟩ := bind_some h
  refine SRun.ls (x_index (L := aList) (f := eSite) (ti := ti33) (tj := ti92) (e := 92) (k := .i64) tbok rfl hx2) ?_
  refine ckn tbok 4 ⟨92, [(0, vl eSite aList), (4, .ref 4 0), (5, .ref 5 0), (7, .ref 7 0)], [(4, .box (tc eDescription aD)), (5, .box (tc ePoint aP)), (7, .box (tc ePoint x2.At))]⟩ ?_
  refine sr ?_
  refine SRun.ck tbok 2 ⟨92, [(0, vl eSite aList), (4, .ref 4 0), (5, .ref 5 0), (7, .ref 7 0), (19, .agg (tc ePoint x2.At)), (20, .agg (tc ePoint aP))], [(4, .box (tc eDescription aD)), (5, .box (tc ePoint aP)), (7, .box (tc ePoint x2.At))]⟩ ?_
  obtain ⟨x3, hx3, h⟩ := bind_some h
  refine SRun.ls (xc ents92 (spec_l15Squared_run x2.At aP _ hx3)) ?_
  refine ckn tbok 1 ⟨92, [(0, vl eSite aList), (4, .ref 4 0), (5, .ref 5 0), (7, .ref 7 0), (8, vi x3)], [(4, .box (tc eDescription aD)), (5, .box (tc ePoint aP)), (7, .box (tc ePoint x2.At))]⟩ ?_
  refine swp_seq ?_
  refine srk tbok ⟨92, [(0, vl eSite aList), (4, .ref 4 0), (5, .ref 5 0), (7, .ref 7 0), (8, vi x3), (23, vi aD.Kind)], [(4, .box (tc eDescription aD)), (5, .box (tc ePoint aP)), (7, .box (tc ePoint x2.At))]⟩ ?_
  refine swp_seqE (r := r) h (fun j4 => ⟨92, [(0, vl eSite aList), (4, .ref 4 0), (5, .ref 5 0), (7, .ref 7 0)], [(4, .box (tc eDescription aD)), (5, .box (tc ePoint aP)), (7, .box (tc ePoint x2.At))]⟩) (fun v5 h => ?_) (fun j4 h => ?_)
  refine swp_blk (a := v5) ?_
  refine srk tbok ⟨92, [(0, vl eSite aList), (4, .ref 4 0), (5, .ref 5 0), (7, .ref 7 0), (8, vi x3), (23, vi aD.Kind), (24, vb (aD.Kind == 0))], [(4, .box (tc eDescription aD)), (5, .box (tc ePoint aP)), (7, .box (tc ePoint x2.At))]⟩ ?_
  refine swp_cd h (fun h => ?_) fun h => ?_
  refine sr ?_
  refine SRun.ck tbok 2 ⟨92, [(26, .agg (tc ePoint aP)), (27, .agg (tc ePoint x2.At))], []⟩ ?_
  refine SRun.ls (x_lstep_eq tbok false (xs := [vi aP.X, vi aP.Y]) (ys := [vi x2.At.X, vi x2.At.Y]) (b := ((aP.X == x2.At.X) && (aP.Y == x2.At.Y))) rfl) ?_
  refine ckn tbok 1 ⟨92, [(6, vb ((aP.X == x2.At.X) && (aP.Y == x2.At.Y)))], []⟩ ?_
  refine swp_ret ?_
  obtain rfl := inj h
  exact q_br (q_rr (q_fr (f1 fv)))
  refine srk tbok ⟨92, [(0, vl eSite aList), (4, .ref 4 0), (5, .ref 5 0), (7, .ref 7 0), (8, vi x3), (23, vi aD.Kind), (29, vb (aD.Kind == 1))], [(4, .box (tc eDescription aD)), (5, .box (tc ePoint aP)), (7, .box (tc ePoint x2.At))]⟩ ?_
  refine swp_cd h (fun h => ?_) fun h => ?_
  refine srk tbok ⟨92, [(6, vb (decide (x3 ≤ 64)))], []⟩ ?_
  refine swp_ret ?_
  obtain rfl := inj h
  exact q_br (q_rr (q_fr (f1 fv)))
  refine srk tbok ⟨92, [(0, vl eSite aList), (4, .ref 4 0), (5, .ref 5 0), (7, .ref 7 0), (8, vi x3), (33, vb (aD.Kind == 2))], [(4, .box (tc eDescription aD)), (5, .box (tc ePoint aP)), (7, .box (tc ePoint x2.At))]⟩ ?_
  refine swp_cd h (fun h => ?_) fun h => ?_
  refine swp_seq ?_
  refine swp_dr mixed ?_
  refine DGo.ck tbok false 6 ⟨92, [(4, .ref 4 0), (5, .ref 5 0), (7, .ref 7 0), (8, vi x3), (36, vi aD.Count), (38, vs aD.Unit), (40, vi aD.Count)], [(4, .box (tc eDescription aD)), (5, .box (tc ePoint aP)), (7, .box (tc ePoint x2.At))]⟩ ?_
  obtain ⟨x6, hx6, h⟩ := bind_some h
  refine DGo.step (xc ents93 (spec_l28Unit_run aD.Unit aD.Count _ hx6)) ?_
  refine DGo.ck tbok false 2 ⟨92, [(4, .ref 4 0), (5, .ref 5 0), (7, .ref 7 0), (8, vi x3), (9, vi (w64 (aD.Count * x6)))], [(4, .box (tc eDescription aD)), (5, .box (tc ePoint aP)), (7, .box (tc ePoint x2.At))]⟩ ?_
  refine DGo.nx ?_
  refine swp_seq ?_
  refine swp_seq ?_
  refine swp_regP ⟨92, [(4, .ref 4 0), (5, .ref 5 0), (7, .ref 7 0), (63, vb ((decide ((w64 (16 * x3)) < (w64 ((w64 (9 * (w64 (aD.Count * x6)))) * (w64 (aD.Count * x6)))))) || ((decide ((w64 (16 * x3)) > (w64 ((w64 (25 * (w64 (aD.Count * x6)))) * (w64 (aD.Count * x6)))))) || ((aP.X == x2.At.X) && (aP.Y == x2.At.Y)))))], [(4, .box (tc eDescription aD)), (5, .box (tc ePoint aP)), (7, .box (tc ePoint x2.At))]⟩ ?_ ?_
  refine SRun.ck tbok 8 ⟨92, [(4, .ref 4 0), (5, .ref 5 0), (7, .ref 7 0), (8, vi x3), (9, vi (w64 (aD.Count * x6))), (50, vb (decide ((w64 (16 * x3)) < (w64 ((w64 (9 * (w64 (aD.Count * x6)))) * (w64 (aD.Count * x6)))))))], [(4, .box (tc eDescription aD)), (5, .box (tc ePoint aP)), (7, .box (tc ePoint x2.At))]⟩ ?_
  generalize (decide ((w64 (16 * x3)) < (w64 ((w64 (9 * (w64 (aD.Count * x6)))) * (w64 (aD.Count * x6)))))) = bb
  cases bb
  refine SRun.ck tbok 9 ⟨92, [(4, .ref 4 0), (5, .ref 5 0), (7, .ref 7 0), (59, vb (decide ((w64 (16 * x3)) > (w64 ((w64 (25 * (w64 (aD.Count * x6)))) * (w64 (aD.Count * x6)))))))], [(4, .box (tc eDescription aD)), (5, .box (tc ePoint aP)), (7, .box (tc ePoint x2.At))]⟩ ?_
  generalize (decide ((w64 (16 * x3)) > (w64 ((w64 (25 * (w64 (aD.Count * x6)))) * (w64 (aD.Count * x6)))))) = bb
  cases bb
  refine SRun.ck tbok 2 ⟨92, [(4, .ref 4 0), (5, .ref 5 0), (7, .ref 7 0), (59, vb false), (60, .agg (tc ePoint aP)), (61, .agg (tc ePoint x2.At))], [(4, .box (tc eDescription aD)), (5, .box (tc ePoint aP)), (7, .box (tc ePoint x2.At))]⟩ ?_
  refine SRun.ls (x_lstep_eq tbok false (xs := [vi aP.X, vi aP.Y]) (ys := [vi x2.At.X, vi x2.At.Y]) (b := ((aP.X == x2.At.X) && (aP.Y == x2.At.Y))) rfl) ?_
  refine SRun.ck tbok 1 ⟨92, [(4, .ref 4 0), (5, .ref 5 0), (7, .ref 7 0), (63, vb ((aP.X == x2.At.X) && (aP.Y == x2.At.Y)))], [(4, .box (tc eDescription aD)), (5, .box (tc ePoint aP)), (7, .box (tc ePoint x2.At))]⟩ ?_
  exact SRun.nil (Le.sub0)
  refine SRun.ck tbok 4 ⟨92, [(4, .ref 4 0), (5, .ref 5 0), (7, .ref 7 0), (63, vb true)], [(4, .box (tc eDescription aD)), (5, .box (tc ePoint aP)), (7, .box (tc ePoint x2.At))]⟩ ?_
  exact SRun.nil (Le.sub0)
  refine SRun.ck tbok 13 ⟨92, [(4, .ref 4 0), (5, .ref 5 0), (7, .ref 7 0), (63, vb true)], [(4, .box (tc eDescription aD)), (5, .box (tc ePoint aP)), (7, .box (tc ePoint x2.At))]⟩ ?_
  exact SRun.nil (Le.sub0)
  refine swp_cd h (fun h => ?_) fun h => ?_
  refine srk tbok ⟨92, [(6, vb false)], []⟩ ?_
  refine swp_ret ?_
  obtain rfl := inj h
  exact nx_r (q_br (q_rr (q_fr (f1 fv))))
  refine swp_skip ?_
  refine nx_n ?_
  refine swp_seq ?_
  refine swp_dr mixed ?_
  refine DGo.ck tbok false 2 ⟨92, [(4, .ref 4 0), (64, .agg (tc ePoint x2.At)), (65, .agg (tc ePoint aP))], [(4, .box (tc eDescription aD))]⟩ ?_
  obtain ⟨x7, hx7, h⟩ := bind_some h
  refine DGo.step (xc ents95 (spec_l15Direction_run x2.At aP _ hx7)) ?_
  refine DGo.ck tbok false 3 ⟨92, [(69, vi (w64 (x7 - aD.Direction)))], []⟩ ?_
  obtain ⟨x8, hx8, h⟩ := bind_some h
  refine DGo.step (xc ents94 (spec_l01Mod_run (w64 (x7 - aD.Direction)) 8 _ hx8)) ?_
  refine DGo.ck tbok false 1 ⟨92, [(10, vi x8)], []⟩ ?_
  refine DGo.nx ?_
  refine swp_seq ?_
  refine swp_regP ⟨92, [(6, vb ((x8 == 0) || ((x8 == 1) || (x8 == 7))))], []⟩ ?_ ?_
  refine SRun.ck tbok 3 ⟨92, [(10, vi x8), (73, vb (x8 == 0))], []⟩ ?_
  generalize (x8 == 0) = bb
  cases bb
  refine SRun.ck tbok 4 ⟨92, [(10, vi x8), (77, vb (x8 == 1))], []⟩ ?_
  generalize (x8 == 1) = bb
  cases bb
  refine SRun.ck tbok 4 ⟨92, [(6, vb (x8 == 7))], []⟩ ?_
  exact SRun.nil (Le.sub0)
  refine SRun.ck tbok 4 ⟨92, [(6, vb true)], []⟩ ?_
  exact SRun.nil (Le.sub0)
  refine SRun.ck tbok 8 ⟨92, [(6, vb true)], []⟩ ?_
  exact SRun.nil (Le.sub0)
  refine swp_ret ?_
  obtain rfl := inj h
  exact q_br (q_rr (q_fr (f1 fv)))
  refine swp_skip ?_
  obtain rfl := inj h
  exact q_bn (q_l (Le.sub0))
  refine swp_seq ?_
  refine swp_dr mixed ?_
  refine DGo.ck tbok false 5 ⟨92, [(5, .ref 5 0), (81, .agg (tc ePoint x2.At)), (82, vl eSite aList), (83, vl eSite aList), (85, vs aD.B)], [(5, .box (tc ePoint aP))]⟩ ?_
  obtain ⟨x9, hx9, h⟩ := bind_some h
  refine DGo.step (xc ents91 (spec_l29Find_run aList aD.B _ hx9)) ?_
  obtain ⟨x10, hx10, h⟩ := bind_some h
  refine DGo.step (x_index (L := aList) (f := eSite) (ti := ti33) (tj := ti92) (e := 92) (k := .i64) tbok rfl hx10) ?_
  refine DGo.ck tbok false 3 ⟨92, [(81, .agg (tc ePoint x2.At)), (89, .agg (tc ePoint x10.At)), (90, .agg (tc ePoint aP))], []⟩ ?_
  obtain ⟨x11, hx11, h⟩ := bind_some h
  refine DGo.step (xc ents96 (spec_l29Between_run x2.At x10.At aP _ hx11)) ?_
  refine DGo.ck tbok false 1 ⟨92, [(6, vb x11)], []⟩ ?_
  refine DGo.nx ?_
  refine swp_ret ?_
  obtain rfl := inj h
  exact q_fr (f1 fv)
theorem ents52 : Ents Tryz.prog 52 := ents_of Tryz.func52 (by kernel_rfl) rfl
noncomputable def spec_l29Count (aList : (List Site)) (aDescriptions : (List Description)) (aP : Point) : Option (Int) :=
  (((forS (aDescriptions.length : Int) (fun (i3 : Int) (s3 : Int) => ((at' aDescriptions i3).bind fun x7 => ((spec_l29Satisfies aList x7 aP).bind fun x8 => (bif x8 then some (w64 (s3 + 1)) else some s3)))) (fun (s3 : Int) => s3) 0 0)).bind fun (j1 : Int) => some j1)
theorem spec_l29Count_run (aList : (List Site)) (aDescriptions : (List Description)) (aP : Point) (r : Int) (h : spec_l29Count aList aDescriptions aP = some r) : SCall Tryz.prog 114 [.v (vl eSite aList), .v (vl eDescription aDescriptions), .v (.agg (tc ePoint aP))] ⟨[.v (vi r)], [], false⟩ := by
  refine scall_in Tryz.func114 rfl [(.tmp 6)] rfl (fun r => ⟨[.v (vi r)], [], false⟩) (r := r) ?_
  unfold spec_l29Count at h
  refine srk tbok ⟨25, [(0, vl eSite aList), (1, vl eDescription aDescriptions), (5, .ref 5 0)], [(5, .box (tc ePoint aP))]⟩ ?_
  refine srk tbok ⟨25, [(0, vl eSite aList), (1, vl eDescription aDescriptions), (5, .ref 5 0), (7, vi 0)], [(5, .box (tc ePoint aP))]⟩ ?_
  refine swp_seq ?_
  refine srk tbok ⟨25, [(0, vl eSite aList), (1, vl eDescription aDescriptions), (5, .ref 5 0), (7, vi 0), (8, vi 0)], [(5, .box (tc ePoint aP))]⟩ ?_
  refine swp_seqJ h (fun j1 => ⟨25, [(7, vi j1)], []⟩) (fun v2 h => ?_) (fun j1 h => ?_)
  refine swp_blk (a := v2) ?_
  refine swp_lpL (r := v2) (s := (0, 0)) _ (fun s3 => ⟨25, [(0, vl eSite aList), (1, vl eDescription aDescriptions), (5, .ref 5 0), (7, vi s3.2), (8, vi s3.1)], [(5, .box (tc ePoint aP))]⟩) _ (Le.sub0) h (fun s3 v4 h => ?_)
  refine swp_seq ?_
  refine srk tbok ⟨25, [(0, vl eSite aList), (1, vl eDescription aDescriptions), (5, .ref 5 0), (7, vi s3.2), (8, vi s3.1), (12, vb (decide (s3.1 < (aDescriptions.length : Int))))], [(5, .box (tc ePoint aP))]⟩ ?_
  refine swp_cd h (fun h => ?_) fun h => ?_
  refine swp_skip ?_
  refine nx_n ?_
  refine swp_seq ?_
  refine swp_seqJ h (fun j5 => ⟨25, [(0, vl eSite aList), (1, vl eDescription aDescriptions), (5, .ref 5 0), (7, vi j5), (8, vi s3.1)], [(5, .box (tc ePoint aP))]⟩) (fun v6 h => ?_) (fun j5 h => ?_)
  refine swp_blk (a := v6) ?_
  refine swp_seq ?_
  refine swp_dr mixed ?_
  refine DGo.ck tbok false 3 ⟨25, [(0, vl eSite aList), (1, vl eDescription aDescriptions), (5, .ref 5 0), (7, vi s3.2), (8, vi s3.1), (15, vl eSite aList), (16, vl eDescription aDescriptions), (17, vi s3.1)], [(5, .box (tc ePoint aP))]⟩ ?_
  obtain ⟨x7, hx7, h⟩ := bind_some h
  refine DGo.step (x_index (L := aDescriptions) (f := eDescription) (ti := ti35) (tj := ti84) (e := 84) (k := .i64) tbok rfl hx7) ?_
  refine DGo.ck tbok false 2 ⟨25, [(0, vl eSite aList), (1, vl eDescription aDescriptions), (5, .ref 5 0), (7, vi s3.2), (8, vi s3.1), (15, vl eSite aList), (19, .agg (tc eDescription x7)), (20, .agg (tc ePoint aP))], [(5, .box (tc ePoint aP))]⟩ ?_
  obtain ⟨x8, hx8, h⟩ := bind_some h
  refine DGo.step (xc ents52 (spec_l29Satisfies_run aList x7 aP _ hx8)) ?_
  refine DGo.nx ?_
  refine swp_cd h (fun h => ?_) fun h => ?_
  refine swp_reg ?_
  refine SRun.ck tbok 3 ⟨25, [(0, vl eSite aList), (1, vl eDescription aDescriptions), (5, .ref 5 0), (7, vi (w64 (s3.2 + 1))), (8, vi s3.1)], [(5, .box (tc ePoint aP))]⟩ ?_
  refine SRun.nil ?_
  obtain rfl := inj h
  exact q_bn (q_j (Le.sub0))
  refine swp_skip ?_
  obtain rfl := inj h
  exact q_bn (q_j (Le.sub0))
  refine swp_reg ?_
  refine SRun.ck tbok 3 ⟨25, [(0, vl eSite aList), (1, vl eDescription aDescriptions), (5, .ref 5 0), (7, vi j5), (8, vi (w64 (s3.1 + 1)))], [(5, .box (tc ePoint aP))]⟩ ?_
  refine SRun.nil ?_
  obtain rfl := inj h
  exact q_l (Le.sub0)
  refine swp_exit ?_
  obtain rfl := inj h
  exact nx_e (q_re (q_bh (q_j (Le.sub0))))
  refine srk tbok ⟨25, [(6, vi j1)], []⟩ ?_
  refine swp_ret ?_
  obtain rfl := inj h
  exact q_fr (f1 fv)
theorem ents114 : Ents Tryz.prog 114 := ents_of Tryz.func114 (by kernel_rfl) rfl
noncomputable def spec_l30Answer (aC : Candidate) (aText : ByteArray) (aSites : (List Site)) (aDescriptions : (List Description)) : Option (Answer) :=
  ((spec_l30Distance aC.Text aText).bind fun x1 => ((spec_l29Count aSites aDescriptions aC.At).bind fun x2 => some (Answer.mk aC.Code x1 x2)))
theorem spec_l30Answer_run (aC : Candidate) (aText : ByteArray) (aSites : (List Site)) (aDescriptions : (List Description)) (r : Answer) (h : spec_l30Answer aC aText aSites aDescriptions = some r) : SCall Tryz.prog 67 [.v (.agg (tc eCandidate aC)), .v (vs aText), .v (vl eSite aSites), .v (vl eDescription aDescriptions)] ⟨[.v (.agg (tc eAnswer r))], [], false⟩ := by
  refine scall_in Tryz.func67 rfl [(.cell 8 59)] rfl (fun r => ⟨[.v (.agg (tc eAnswer r))], [], false⟩) (r := r) ?_
  unfold spec_l30Answer at h
  refine srk tbok ⟨21, [(1, vs aText), (2, vl eSite aSites), (3, vl eDescription aDescriptions), (4, .ref 4 0), (8, .ref 8 0)], [(4, .box (tc eCandidate aC)), (8, .box [vs (ByteArray.mk #[]), vi 0, vi 0])]⟩ ?_
  refine swp_seq ?_
  refine swp_dr mixed ?_
  refine DGo.ck tbok false 5 ⟨21, [(2, vl eSite aSites), (3, vl eDescription aDescriptions), (4, .ref 4 0), (8, .ref 8 0), (10, vs aC.Code), (12, vs aC.Text), (13, vs aText)], [(4, .box (tc eCandidate aC)), (8, .box [vs (ByteArray.mk #[]), vi 0, vi 0])]⟩ ?_
  obtain ⟨x1, hx1, h⟩ := bind_some h
  refine DGo.step (xc ents77 (spec_l30Distance_run aC.Text aText _ hx1)) ?_
  refine DGo.ck tbok false 4 ⟨21, [(8, .ref 8 0), (10, vs aC.Code), (14, vi x1), (15, vl eSite aSites), (16, vl eDescription aDescriptions), (18, .agg (tc ePoint aC.At))], [(8, .box [vs (ByteArray.mk #[]), vi 0, vi 0])]⟩ ?_
  obtain ⟨x2, hx2, h⟩ := bind_some h
  refine DGo.step (xc ents114 (spec_l29Count_run aSites aDescriptions aC.At _ hx2)) ?_
  refine DGo.step (x_lstep_build (v := .agg [vs aC.Code, vi x1, vi x2]) tbok rfl) ?_
  refine DGo.seq (by kernel_rfl) (by kernel_rfl) ?_
  refine ckn tbok 1 ⟨21, [(8, .ref 8 0)], [(8, .box [vs aC.Code, vi x1, vi x2])]⟩ ?_
  refine swp_ret ?_
  obtain rfl := inj h
  exact q_fr (f1 (fc tbok))
theorem ents67 : Ents Tryz.prog 67 := ents_of Tryz.func67 (by kernel_rfl) rfl
noncomputable def spec_l30Before (aA : Answer) (aB : Answer) : Option (Bool) :=
  some ((decide ((w64 ((w64 (10 * aA.Satisfied)) - aA.Distance)) > (w64 ((w64 (10 * aB.Satisfied)) - aB.Distance)))) || (((w64 ((w64 (10 * aA.Satisfied)) - aA.Distance)) == (w64 ((w64 (10 * aB.Satisfied)) - aB.Distance))) && (Op.bytesLess aA.Code.toList aB.Code.toList)))
theorem spec_l30Before_run (aA : Answer) (aB : Answer) (r : Bool) (h : spec_l30Before aA aB = some r) : SCall Tryz.prog 131 [.v (.agg (tc eAnswer aA)), .v (.agg (tc eAnswer aB))] ⟨[.v (vb r)], [], false⟩ := by
  refine scall_in Tryz.func131 rfl [(.tmp 4)] rfl (fun r => ⟨[.v (vb r)], [], false⟩) (r := r) ?_
  unfold spec_l30Before at h
  refine srk tbok ⟨34, [(2, .ref 2 0), (3, .ref 3 0)], [(2, .box (tc eAnswer aA)), (3, .box (tc eAnswer aB))]⟩ ?_
  refine swp_seq ?_
  refine swp_dr mixed ?_
  refine DGo.ck tbok false 14 ⟨34, [(2, .ref 2 0), (3, .ref 3 0), (5, vi (w64 ((w64 (10 * aA.Satisfied)) - aA.Distance))), (6, vi (w64 ((w64 (10 * aB.Satisfied)) - aB.Distance)))], [(2, .box (tc eAnswer aA)), (3, .box (tc eAnswer aB))]⟩ ?_
  refine DGo.nx ?_
  refine swp_seq ?_
  refine swp_regP ⟨34, [(4, vb ((decide ((w64 ((w64 (10 * aA.Satisfied)) - aA.Distance)) > (w64 ((w64 (10 * aB.Satisfied)) - aB.Distance)))) || (((w64 ((w64 (10 * aA.Satisfied)) - aA.Distance)) == (w64 ((w64 (10 * aB.Satisfied)) - aB.Distance))) && (Op.bytesLess aA.Code.toList aB.Code.toList))))], []⟩ ?_ ?_
  refine SRun.ck tbok 4 ⟨34, [(2, .ref 2 0), (3, .ref 3 0), (5, vi (w64 ((w64 (10 * aA.Satisfied)) - aA.Distance))), (6, vi (w64 ((w64 (10 * aB.Satisfied)) - aB.Distance))), (22, vb (decide ((w64 ((w64 (10 * aA.Satisfied)) - aA.Distance)) > (w64 ((w64 (10 * aB.Satisfied)) - aB.Distance)))))], [(2, .box (tc eAnswer aA)), (3, .box (tc eAnswer aB))]⟩ ?_
  generalize (decide ((w64 ((w64 (10 * aA.Satisfied)) - aA.Distance)) > (w64 ((w64 (10 * aB.Satisfied)) - aB.Distance)))) = bb
  cases bb
  refine SRun.ck tbok 4 ⟨34, [(2, .ref 2 0), (3, .ref 3 0), (22, vb false), (26, vb ((w64 ((w64 (10 * aA.Satisfied)) - aA.Distance)) == (w64 ((w64 (10 * aB.Satisfied)) - aB.Distance))))], [(2, .box (tc eAnswer aA)), (3, .box (tc eAnswer aB))]⟩ ?_
  generalize ((w64 ((w64 (10 * aA.Satisfied)) - aA.Distance)) == (w64 ((w64 (10 * aB.Satisfied)) - aB.Distance))) = bb
  cases bb
  refine SRun.ck tbok 8 ⟨34, [(4, vb false)], []⟩ ?_
  exact SRun.nil (Le.sub0)
  refine SRun.ck tbok 8 ⟨34, [(4, vb (Op.bytesLess aA.Code.toList aB.Code.toList))], []⟩ ?_
  exact SRun.nil (Le.sub0)
  refine SRun.ck tbok 12 ⟨34, [(4, vb true)], []⟩ ?_
  exact SRun.nil (Le.sub0)
  refine swp_ret ?_
  obtain rfl := inj h
  exact q_fr (f1 fv)
theorem ents131 : Ents Tryz.prog 131 := ents_of Tryz.func131 (by kernel_rfl) rfl
end Go.Proofs.YtodgenjlhiiieaaGreatDoor.Sh
