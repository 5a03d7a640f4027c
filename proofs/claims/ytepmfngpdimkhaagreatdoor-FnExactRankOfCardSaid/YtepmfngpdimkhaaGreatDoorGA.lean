/- Typed functions and the calls that do what they say. -/
import Derived.Test.YtepmfngpdimkhaaGreatDoorGAp1
import Derived.Test.YtepmfngpdimkhaaGreatDoorKA
import Derived.Test.YtepmfngpdimkhaaGreatDoorKC
import Derived.Test.YtepmfngpdimkhaaGreatDoorKS
import Derived.Test.YtepmfngpdimkhaaGreatDoorSN
import Derived.Test.YtepmfngpdimkhaaGreatDoorH1
namespace Go.Proofs.YtepmfngpdimkhaaGreatDoor.Sh
open Go.RowKit
set_option maxRecDepth 100000
set_option maxHeartbeats 4000000
noncomputable def spec_RankOf (aList : (List Candidate)) (aCode : ByteArray) (aText : ByteArray) (aSites : (List Site)) (aDescriptions : (List Description)) : Option (Int × Int) :=
  ((spec_l30Named aList aCode aText aSites aDescriptions).bind fun x1 => (bif (x1 != 0) then some (0, x1) else ((spec_l30Ranked aList aText aSites aDescriptions).bind fun x2 => (((loop (fun (s5 : Int) => ((at' x2 s5).bind fun x7 => (bif (!(x7.Code.toList == aCode.toList)) then some (.inl (w64 (s5 + 1))) else some (.inr s5)))) 0)).bind fun (j3 : Int) => some (j3, 0)))))
theorem spec_RankOf_run (aList : (List Candidate)) (aCode : ByteArray) (aText : ByteArray) (aSites : (List Site)) (aDescriptions : (List Description)) (r : Int × Int) (h : spec_RankOf aList aCode aText aSites aDescriptions = some r) : SCall Tryz.prog 27 [.v (vl eCandidate aList), .v (vs aCode), .v (vs aText), .v (vl eSite aSites), .v (vl eDescription aDescriptions)] ⟨[.v (vi r.1), .v (vi r.2)], [], false⟩ := by
  refine scall_in Tryz.func27 rfl [(.tmp 10), (.tmp 11)] rfl (fun r => ⟨[.v (vi r.1), .v (vi r.2)], [], false⟩) (r := r) ?_
  unfold spec_RankOf at h
  refine srk tbok ⟨39, [(0, vl eCandidate aList), (1, vs aCode), (2, vs aText), (3, vl eSite aSites), (4, vl eDescription aDescriptions)], []⟩ ?_
  refine sr ?_
  refine SRun.ck tbok 5 ⟨39, [(0, vl eCandidate aList), (1, vs aCode), (2, vs aText), (3, vl eSite aSites), (4, vl eDescription aDescriptions), (15, vl eCandidate aList), (16, vs aCode), (17, vs aText), (18, vl eSite aSites), (19, vl eDescription aDescriptions)], []⟩ ?_
  obtain ⟨x1, hx1, h⟩ := bind_some h
  refine SRun.ls (xc ents37 (spec_l30Named_run aList aCode aText aSites aDescriptions _ hx1)) ?_
  refine ckn tbok 1 ⟨39, [(0, vl eCandidate aList), (1, vs aCode), (2, vs aText), (3, vl eSite aSites), (4, vl eDescription aDescriptions), (12, vi x1)], []⟩ ?_
  refine swp_seq ?_
  refine srk tbok ⟨39, [(0, vl eCandidate aList), (1, vs aCode), (2, vs aText), (3, vl eSite aSites), (4, vl eDescription aDescriptions), (12, vi x1), (22, vb (x1 != 0))], []⟩ ?_
  refine swp_cd h (fun h => ?_) fun h => ?_
  refine srk tbok ⟨39, [(10, vi 0), (11, vi x1)], []⟩ ?_
  refine swp_ret ?_
  obtain rfl := inj h
  exact nx_r (q_fr (f2 fv fv))
  refine swp_skip ?_
  refine nx_n ?_
  refine sr ?_
  refine SRun.ck tbok 4 ⟨39, [(1, vs aCode), (24, vl eCandidate aList), (25, vs aText), (26, vl eSite aSites), (27, vl eDescription aDescriptions)], []⟩ ?_
  obtain ⟨x2, hx2, h⟩ := bind_some h
  refine SRun.ls (xc ents50 (spec_l30Ranked_run aList aText aSites aDescriptions _ hx2)) ?_
  refine ckn tbok 1 ⟨39, [(1, vs aCode), (13, .own 28)], [(28, oa 29 3 eAnswer x2)]⟩ ?_
  refine srk tbok ⟨39, [(1, vs aCode), (13, .own 28), (14, vi 0)], [(28, oa 29 3 eAnswer x2)]⟩ ?_
  refine swp_seq ?_
  refine swp_seqJ h (fun j3 => ⟨39, [(14, vi j3)], []⟩) (fun v4 h => ?_) (fun j3 h => ?_)
  refine swp_blk (a := v4) ?_
  refine swp_lpL (r := v4) (s := 0) _ (fun s5 => ⟨39, [(1, vs aCode), (13, .own 13), (14, vi s5)], [(13, oa 29 3 eAnswer x2)]⟩) _ ((Le.sub' ([(1, vs aCode), (13, .own 28), (14, vi 0)] : List (Nat × SV)) ([(28, oa 29 3 eAnswer x2)] : List (Nat × SO)) (by kernel_rfl) (by kernel_rfl)).trans ((Le.ren' (d := 28) (e := 13) (by kernel_rfl) (by kernel_rfl) (by kernel_rfl)).trans (Le.sub0))) h (fun s5 v6 h => ?_)
  refine swp_seq ?_
  refine sr ?_
  refine SRun.ck tbok 2 ⟨39, [(1, vs aCode), (13, .own 13), (14, vi s5), (29, .own 13), (30, vi s5)], [(13, oa 29 3 eAnswer x2)]⟩ ?_
  obtain ⟨x7, hx7, h⟩ := bind_some h
  refine SRun.ls (x_index_own (d := 13) (L := x2) (f := eAnswer) (ti := ti43) (tj := ti29) (e := 29) (e' := 29) (m := 3) (k := .i64) tbok rfl hx7) ?_
  refine SRun.ck tbok 1 ⟨39, [(1, vs aCode), (13, .own 13), (14, vi s5), (32, .eref 13 3 (Int.toNat s5) 0)], [(13, oa 29 3 eAnswer x2)]⟩ ?_
  refine SRun.ls (x_load_own (d := 13) (m := 3) (j := 0) (L := x2) (f := eAnswer) (ti := ti9) (e := 29) (v := vs x7.Code) tbok rfl hx7) ?_
  refine ckn tbok 2 ⟨39, [(1, vs aCode), (13, .own 13), (14, vi s5), (35, vb (!(x7.Code.toList == aCode.toList)))], [(13, oa 29 3 eAnswer x2)]⟩ ?_
  refine swp_cd h (fun h => ?_) fun h => ?_
  refine swp_skip ?_
  refine nx_n ?_
  refine swp_blk (a := v6) ?_
  refine swp_reg ?_
  refine SRun.ck tbok 3 ⟨39, [(1, vs aCode), (13, .own 13), (14, vi (w64 (s5 + 1)))], [(13, oa 29 3 eAnswer x2)]⟩ ?_
  refine SRun.nil ?_
  obtain rfl := inj h
  exact q_bn (q_l (Le.sub0))
  refine swp_exit ?_
  obtain rfl := inj h
  exact nx_e (q_re (q_bh (q_j (Le.sub0))))
  refine srk tbok ⟨39, [(10, vi j3), (11, vi 0)], []⟩ ?_
  refine swp_ret ?_
  obtain rfl := inj h
  exact q_fr (f2 fv fv)
theorem ents27 : Ents Tryz.prog 27 := ents_of Tryz.func27 (by kernel_rfl) rfl
noncomputable def impl_RankOf_1 (aA : Answer) (c0 : ByteArray) : Option (Bool) :=
  some (aA.Code.toList == c0.toList)
theorem impl_RankOf_1_run (aA : Answer) (c0 : ByteArray) (r : Bool) (h : impl_RankOf_1 aA c0 = some r) : SCall Tryz.prog 54 [.v (.agg (tc eAnswer aA)), .v (.ptr [vs c0] 0)] ⟨[.v (vb r)], [], false⟩ := by
  refine scall_in Tryz.func54 rfl [(.tmp 3)] rfl (fun r => ⟨[.v (vb r)], [], false⟩) (r := r) ?_
  unfold impl_RankOf_1 at h
  refine srk tbok ⟨8, [(1, .ptr [vs c0] 0), (2, .ref 2 0)], [(2, .box (tc eAnswer aA))]⟩ ?_
  refine srk tbok ⟨8, [(3, vb (aA.Code.toList == c0.toList))], []⟩ ?_
  refine swp_ret ?_
  obtain rfl := inj h
  exact q_fr (f1 fv)
theorem ents54 : Ents Tryz.prog 54 := ents_of Tryz.func54 (by kernel_rfl) rfl
noncomputable def slices_IndexFunc_Answer_impl_RankOf_1 (aS : (List Answer)) (aF0 : ByteArray) : Option (Int) :=
  (((forN (aS.length : Int) (fun (i3 : Int) (_ : Unit) => ((at' aS i3).bind fun x7 => ((impl_RankOf_1 x7 aF0).bind fun x8 => (bif x8 then some (.inr (.inr i3)) else some (.inl ()))))) (fun (_ : Unit) => .inl ()) 0 ())).bind (Sum.elim (fun (_ : Unit) => some (-1)) some))
theorem slices_IndexFunc_Answer_impl_RankOf_1_run (aS : (List Answer)) (aF0 : ByteArray) (r : Int) (h : slices_IndexFunc_Answer_impl_RankOf_1 aS aF0 = some r) : SCall Tryz.prog 53 [.v (vl eAnswer aS), .v (.clo 54 [.ptr [vs aF0] 0])] ⟨[.v (vi r)], [], false⟩ := by
  refine scall_in Tryz.func53 rfl [(.tmp 4)] rfl (fun r => ⟨[.v (vi r)], [], false⟩) (r := r) ?_
  unfold slices_IndexFunc_Answer_impl_RankOf_1 at h
  refine srk tbok ⟨19, [(0, vl eAnswer aS), (1, .clo 54 [.ptr [vs aF0] 0])], []⟩ ?_
  refine swp_seq ?_
  refine srk tbok ⟨19, [(0, vl eAnswer aS), (1, .clo 54 [.ptr [vs aF0] 0]), (7, vi (aS.length : Int)), (8, vi 0)], []⟩ ?_
  refine swp_seqE (r := r) h (fun j1 => ⟨19, [], []⟩) (fun v2 h => ?_) (fun j1 h => ?_)
  refine swp_blk (a := v2) ?_
  refine swp_lpL (r := v2) (s := (0, ())) _ (fun s3 => ⟨19, [(0, vl eAnswer aS), (1, .clo 54 [.ptr [vs aF0] 0]), (7, vi (aS.length : Int)), (8, vi s3.1)], []⟩) _ (Le.sub0) h (fun s3 v4 h => ?_)
  refine srk tbok ⟨19, [(0, vl eAnswer aS), (1, .clo 54 [.ptr [vs aF0] 0]), (7, vi (aS.length : Int)), (8, vi s3.1), (9, vb (decide (s3.1 < (aS.length : Int))))], []⟩ ?_
  refine swp_seq ?_
  refine swp_cd h (fun h => ?_) fun h => ?_
  refine swp_skip ?_
  refine nx_n ?_
  refine swp_seq ?_
  refine swp_seqL (r := v4) h (fun j5 => ⟨19, [(0, vl eAnswer aS), (1, .clo 54 [.ptr [vs aF0] 0]), (7, vi (aS.length : Int)), (8, vi s3.1)], []⟩) (fun v6 h => ?_) (fun j5 h => ?_)
  refine swp_blk (a := v6) ?_
  refine srk tbok ⟨19, [(0, vl eAnswer aS), (1, .clo 54 [.ptr [vs aF0] 0]), (5, vi s3.1), (7, vi (aS.length : Int)), (8, vi s3.1)], []⟩ ?_
  refine sr ?_
  refine SRun.ck tbok 3 ⟨19, [(0, vl eAnswer aS), (1, .clo 54 [.ptr [vs aF0] 0]), (5, vi s3.1), (7, vi (aS.length : Int)), (8, vi s3.1), (11, .clo 54 [.ptr [vs aF0] 0]), (12, vl eAnswer aS), (13, vi s3.1)], []⟩ ?_
  obtain ⟨x7, hx7, h⟩ := bind_some h
  refine SRun.ls (x_index (L := aS) (f := eAnswer) (ti := ti43) (tj := ti29) (e := 29) (k := .i64) tbok rfl hx7) ?_
  refine SRun.ck tbok 1 ⟨19, [(0, vl eAnswer aS), (1, .clo 54 [.ptr [vs aF0] 0]), (5, vi s3.1), (7, vi (aS.length : Int)), (8, vi s3.1), (11, .clo 54 [.ptr [vs aF0] 0]), (15, .agg (tc eAnswer x7))], []⟩ ?_
  obtain ⟨x8, hx8, h⟩ := bind_some h
  refine SRun.ls (xc ents54 (impl_RankOf_1_run x7 aF0 _ hx8)) ?_
  refine SRun.nx ?_
  refine swp_cd h (fun h => ?_) fun h => ?_
  refine srk tbok ⟨19, [(4, vi s3.1)], []⟩ ?_
  refine swp_ret ?_
  obtain rfl := inj h
  exact q_br (q_rr (q_rr (q_br (q_rr (q_fr (f1 fv))))))
  refine swp_skip ?_
  obtain rfl := inj h
  exact q_bn (q_l (Le.sub0))
  refine swp_reg ?_
  refine SRun.ck tbok 2 ⟨19, [(0, vl eAnswer aS), (1, .clo 54 [.ptr [vs aF0] 0]), (7, vi (aS.length : Int)), (8, vi (w64 (s3.1 + 1)))], []⟩ ?_
  refine SRun.nil ?_
  obtain rfl := inj h
  exact q_l (Le.sub0)
  refine swp_exit ?_
  obtain rfl := inj h
  exact nx_e (q_re (q_bh (q_l (Le.sub0))))
  refine srk tbok ⟨19, [(4, vi (-1))], []⟩ ?_
  refine swp_ret ?_
  obtain rfl := inj h
  exact q_fr (f1 fv)
theorem ents53 : Ents Tryz.prog 53 := ents_of Tryz.func53 (by kernel_rfl) rfl
noncomputable def impl_RankOf (aList : (List Candidate)) (aCode : ByteArray) (aText : ByteArray) (aSites : (List Site)) (aDescriptions : (List Description)) : Option (Int × Int) :=
  ((impl_AnswersOf aList aText aSites aDescriptions).bind fun x1 => (bif (x1.2 != 0) then some (0, x1.2) else ((slices_IndexFunc_Answer_impl_RankOf_1 x1.1 aCode).bind fun x2 => (bif (decide (x2 < 0)) then some (0, 4) else some (x2, 0)))))
theorem impl_RankOf_run (aList : (List Candidate)) (aCode : ByteArray) (aText : ByteArray) (aSites : (List Site)) (aDescriptions : (List Description)) (r : Int × Int) (h : impl_RankOf aList aCode aText aSites aDescriptions = some r) : SCall Tryz.prog 28 [.v (vl eCandidate aList), .v (vs aCode), .v (vs aText), .v (vl eSite aSites), .v (vl eDescription aDescriptions)] ⟨[.v (vi r.1), .v (vi r.2)], [], false⟩ := by
  refine scall_in Tryz.func28 rfl [(.tmp 10), (.tmp 11)] rfl (fun r => ⟨[.v (vi r.1), .v (vi r.2)], [], false⟩) (r := r) ?_
  unfold impl_RankOf at h
  refine srk tbok ⟨32, [(0, vl eCandidate aList), (2, vs aText), (3, vl eSite aSites), (4, vl eDescription aDescriptions), (6, .ref 6 0)], [(6, .box [vs aCode])]⟩ ?_
  refine sr ?_
  refine SRun.ck tbok 4 ⟨32, [(6, .ref 6 0), (16, vl eCandidate aList), (17, vs aText), (18, vl eSite aSites), (19, vl eDescription aDescriptions)], [(6, .box [vs aCode])]⟩ ?_
  obtain ⟨x1, hx1, h⟩ := bind_some h
  refine SRun.ls (xc ents20 (impl_AnswersOf_run aList aText aSites aDescriptions _ hx1)) ?_
  refine ckn tbok 5 ⟨32, [(6, .ref 6 0), (12, .own 20), (13, vi x1.2)], [(6, .box [vs aCode]), (20, oa 29 3 eAnswer x1.1)]⟩ ?_
  refine swp_seq ?_
  refine srk tbok ⟨32, [(6, .ref 6 0), (12, .own 20), (13, vi x1.2), (24, vb (x1.2 != 0))], [(6, .box [vs aCode]), (20, oa 29 3 eAnswer x1.1)]⟩ ?_
  refine swp_cd h (fun h => ?_) fun h => ?_
  refine srk tbok ⟨32, [(10, vi 0), (11, vi x1.2)], []⟩ ?_
  refine swp_ret ?_
  obtain rfl := inj h
  exact nx_r (q_fr (f2 fv fv))
  refine swp_skip ?_
  refine nx_n ?_
  refine sr ?_
  refine SRun.ck tbok 2 ⟨32, [(26, .own 20), (27, .clo 54 [.ref 6 0])], [(6, .box [vs aCode]), (20, oa 29 3 eAnswer x1.1)]⟩ ?_
  obtain ⟨x2, hx2, h⟩ := bind_some h
  refine SRun.ls (xc ents53 (slices_IndexFunc_Answer_impl_RankOf_1_run x1.1 aCode _ hx2)) ?_
  refine ckn tbok 1 ⟨32, [(14, vi x2)], []⟩ ?_
  refine swp_seq ?_
  refine srk tbok ⟨32, [(14, vi x2), (30, vb (decide (x2 < 0)))], []⟩ ?_
  refine swp_cd h (fun h => ?_) fun h => ?_
  refine srk tbok ⟨32, [(10, vi 0), (11, vi 4)], []⟩ ?_
  refine swp_ret ?_
  obtain rfl := inj h
  exact nx_r (q_fr (f2 fv fv))
  refine swp_skip ?_
  refine nx_n ?_
  refine srk tbok ⟨32, [(10, vi x2), (11, vi 0)], []⟩ ?_
  refine swp_ret ?_
  obtain rfl := inj h
  exact q_fr (f2 fv fv)
theorem ents28 : Ents Tryz.prog 28 := ents_of Tryz.func28 (by kernel_rfl) rfl
noncomputable def laws_FnExactRankOf (aAList : (List Candidate)) (aACode : ByteArray) (aAText : ByteArray) (aASites : (List Site)) (aADescriptions : (List Description)) : Option (Bool) :=
  (bif (decide ((aACode.size : Int) > 1048576)) then some true else (bif (decide ((aAText.size : Int) > 1048576)) then some true else ((laws_szCandidateS aAList 1048576).bind fun x1 => (bif (decide (x1 < 0)) then some true else ((laws_szSiteS aASites x1).bind fun x2 => (bif (decide (x2 < 0)) then some true else ((laws_szDescriptionS aADescriptions x2).bind fun x3 => (bif (decide (x3 < 0)) then some true else ((laws_toCandidateS aAList).bind fun x4 => ((laws_toSiteS aASites).bind fun x5 => ((laws_toDescriptionS aADescriptions).bind fun x6 => ((spec_RankOf x4 aACode aAText x5 x6).bind fun x7 => ((laws_toCandidateS aAList).bind fun x8 => ((laws_toSiteS aASites).bind fun x9 => ((laws_toDescriptionS aADescriptions).bind fun x10 => ((impl_RankOf x8 aACode aAText x9 x10).bind fun x11 => (bif ((x11.1 != x7.1) || (x11.2 != x7.2)) then some false else ((laws_toCandidateS aAList).bind fun x12 => ((laws_eqCandidateS x8 x12).bind fun x13 => (bif (!x13) then some false else ((laws_toSiteS aASites).bind fun x14 => ((laws_eqSiteS x9 x14).bind fun x15 => (bif (!x15) then some false else ((laws_toDescriptionS aADescriptions).bind fun x16 => ((laws_eqDescriptionS x10 x16).bind fun x17 => (bif (!x17) then some false else some true))))))))))))))))))))))))))
theorem laws_FnExactRankOf_run (aAList : (List Candidate)) (aACode : ByteArray) (aAText : ByteArray) (aASites : (List Site)) (aADescriptions : (List Description)) (r : Bool) (h : laws_FnExactRankOf aAList aACode aAText aASites aADescriptions = some r) : SCall Tryz.prog 5 [.v (vl eCandidate aAList), .v (vs aACode), .v (vs aAText), .v (vl eSite aASites), .v (vl eDescription aADescriptions)] ⟨[.v (vb r)], [], false⟩ := by
  refine scall_in Tryz.func5 rfl [(.tmp 10)] rfl (fun r => ⟨[.v (vb r)], [], false⟩) (r := r) ?_
  unfold laws_FnExactRankOf at h
  refine srk tbok ⟨90, [(0, vl eCandidate aAList), (1, vs aACode), (2, vs aAText), (3, vl eSite aASites), (4, vl eDescription aADescriptions)], []⟩ ?_
  refine swp_seq ?_
  refine srk tbok ⟨90, [(0, vl eCandidate aAList), (1, vs aACode), (2, vs aAText), (3, vl eSite aASites), (4, vl eDescription aADescriptions), (21, vb (decide ((aACode.size : Int) > 1048576)))], []⟩ ?_
  refine swp_cd h (fun h => ?_) fun h => ?_
  refine srk tbok ⟨90, [(10, vb true)], []⟩ ?_
  refine swp_ret ?_
  obtain rfl := inj h
  exact nx_r (q_fr (f1 fv))
  refine swp_skip ?_
  refine nx_n ?_
  refine swp_seq ?_
  refine srk tbok ⟨90, [(0, vl eCandidate aAList), (1, vs aACode), (2, vs aAText), (3, vl eSite aASites), (4, vl eDescription aADescriptions), (24, vb (decide ((aAText.size : Int) > 1048576)))], []⟩ ?_
  refine swp_cd h (fun h => ?_) fun h => ?_
  refine srk tbok ⟨90, [(10, vb true)], []⟩ ?_
  refine swp_ret ?_
  obtain rfl := inj h
  exact nx_r (q_fr (f1 fv))
  refine swp_skip ?_
  refine nx_n ?_
  refine srk tbok ⟨90, [(0, vl eCandidate aAList), (1, vs aACode), (2, vs aAText), (3, vl eSite aASites), (4, vl eDescription aADescriptions), (11, vi 1048576)], []⟩ ?_
  refine sr ?_
  refine SRun.ck tbok 2 ⟨90, [(0, vl eCandidate aAList), (1, vs aACode), (2, vs aAText), (3, vl eSite aASites), (4, vl eDescription aADescriptions), (25, vl eCandidate aAList), (26, vi 1048576)], []⟩ ?_
  obtain ⟨x1, hx1, h⟩ := bind_some h
  refine SRun.ls (xc ents7 (laws_szCandidateS_run aAList 1048576 _ hx1)) ?_
  refine ckn tbok 1 ⟨90, [(0, vl eCandidate aAList), (1, vs aACode), (2, vs aAText), (3, vl eSite aASites), (4, vl eDescription aADescriptions), (11, vi x1)], []⟩ ?_
  refine swp_seq ?_
  refine srk tbok ⟨90, [(0, vl eCandidate aAList), (1, vs aACode), (2, vs aAText), (3, vl eSite aASites), (4, vl eDescription aADescriptions), (11, vi x1), (29, vb (decide (x1 < 0)))], []⟩ ?_
  refine swp_cd h (fun h => ?_) fun h => ?_
  refine srk tbok ⟨90, [(10, vb true)], []⟩ ?_
  refine swp_ret ?_
  obtain rfl := inj h
  exact nx_r (q_fr (f1 fv))
  refine swp_skip ?_
  refine nx_n ?_
  refine sr ?_
  refine SRun.ck tbok 2 ⟨90, [(0, vl eCandidate aAList), (1, vs aACode), (2, vs aAText), (3, vl eSite aASites), (4, vl eDescription aADescriptions), (30, vl eSite aASites), (31, vi x1)], []⟩ ?_
  obtain ⟨x2, hx2, h⟩ := bind_some h
  refine SRun.ls (xc ents8 (laws_szSiteS_run aASites x1 _ hx2)) ?_
  refine ckn tbok 1 ⟨90, [(0, vl eCandidate aAList), (1, vs aACode), (2, vs aAText), (3, vl eSite aASites), (4, vl eDescription aADescriptions), (11, vi x2)], []⟩ ?_
  refine swp_seq ?_
  refine srk tbok ⟨90, [(0, vl eCandidate aAList), (1, vs aACode), (2, vs aAText), (3, vl eSite aASites), (4, vl eDescription aADescriptions), (11, vi x2), (34, vb (decide (x2 < 0)))], []⟩ ?_
  refine swp_cd h (fun h => ?_) fun h => ?_
  refine srk tbok ⟨90, [(10, vb true)], []⟩ ?_
  refine swp_ret ?_
  obtain rfl := inj h
  exact nx_r (q_fr (f1 fv))
  refine swp_skip ?_
  refine nx_n ?_
  refine sr ?_
  refine SRun.ck tbok 2 ⟨90, [(0, vl eCandidate aAList), (1, vs aACode), (2, vs aAText), (3, vl eSite aASites), (4, vl eDescription aADescriptions), (35, vl eDescription aADescriptions), (36, vi x2)], []⟩ ?_
  obtain ⟨x3, hx3, h⟩ := bind_some h
  refine SRun.ls (xc ents9 (laws_szDescriptionS_run aADescriptions x2 _ hx3)) ?_
  refine ckn tbok 1 ⟨90, [(0, vl eCandidate aAList), (1, vs aACode), (2, vs aAText), (3, vl eSite aASites), (4, vl eDescription aADescriptions), (11, vi x3)], []⟩ ?_
  refine swp_seq ?_
  refine srk tbok ⟨90, [(0, vl eCandidate aAList), (1, vs aACode), (2, vs aAText), (3, vl eSite aASites), (4, vl eDescription aADescriptions), (39, vb (decide (x3 < 0)))], []⟩ ?_
  refine swp_cd h (fun h => ?_) fun h => ?_
  refine srk tbok ⟨90, [(10, vb true)], []⟩ ?_
  refine swp_ret ?_
  obtain rfl := inj h
  exact nx_r (q_fr (f1 fv))
  refine swp_skip ?_
  refine nx_n ?_
  refine sr ?_
  refine SRun.ck tbok 1 ⟨90, [(0, vl eCandidate aAList), (1, vs aACode), (2, vs aAText), (3, vl eSite aASites), (4, vl eDescription aADescriptions), (41, vl eCandidate aAList)], []⟩ ?_
  obtain ⟨x4, hx4, h⟩ := bind_some h
  refine SRun.ls (xc ents11 (laws_toCandidateS_run aAList _ hx4)) ?_
  refine SRun.ck tbok 3 ⟨90, [(0, vl eCandidate aAList), (1, vs aACode), (2, vs aAText), (3, vl eSite aASites), (4, vl eDescription aADescriptions), (42, .own 42), (43, vs aACode), (44, vs aAText), (45, vl eSite aASites)], [(42, oa 74 4 eCandidate x4)]⟩ ?_
  obtain ⟨x5, hx5, h⟩ := bind_some h
  refine SRun.ls (xc ents12 (laws_toSiteS_run aASites _ hx5)) ?_
  refine SRun.ck tbok 1 ⟨90, [(0, vl eCandidate aAList), (1, vs aACode), (2, vs aAText), (3, vl eSite aASites), (4, vl eDescription aADescriptions), (42, .own 42), (43, vs aACode), (44, vs aAText), (46, .own 46), (47, vl eDescription aADescriptions)], [(42, oa 74 4 eCandidate x4), (46, oa 78 3 eSite x5)]⟩ ?_
  obtain ⟨x6, hx6, h⟩ := bind_some h
  refine SRun.ls (xc ents13 (laws_toDescriptionS_run aADescriptions _ hx6)) ?_
  obtain ⟨x7, hx7, h⟩ := bind_some h
  refine SRun.ls (xc ents27 (spec_RankOf_run x4 aACode aAText x5 x6 _ hx7)) ?_
  refine ckn tbok 5 ⟨90, [(0, vl eCandidate aAList), (1, vs aACode), (2, vs aAText), (3, vl eSite aASites), (4, vl eDescription aADescriptions), (12, vi x7.1), (13, vi x7.2)], []⟩ ?_
  refine sr ?_
  refine SRun.ck tbok 1 ⟨90, [(0, vl eCandidate aAList), (1, vs aACode), (2, vs aAText), (3, vl eSite aASites), (4, vl eDescription aADescriptions), (12, vi x7.1), (13, vi x7.2), (52, vl eCandidate aAList)], []⟩ ?_
  obtain ⟨x8, hx8, h⟩ := bind_some h
  refine SRun.ls (xc ents11 (laws_toCandidateS_run aAList _ hx8)) ?_
  refine ckn tbok 1 ⟨90, [(0, vl eCandidate aAList), (1, vs aACode), (2, vs aAText), (3, vl eSite aASites), (4, vl eDescription aADescriptions), (12, vi x7.1), (13, vi x7.2), (14, .own 53)], [(53, oa 74 4 eCandidate x8)]⟩ ?_
  refine sr ?_
  refine SRun.ck tbok 1 ⟨90, [(0, vl eCandidate aAList), (1, vs aACode), (2, vs aAText), (3, vl eSite aASites), (4, vl eDescription aADescriptions), (12, vi x7.1), (13, vi x7.2), (14, .own 53), (54, vl eSite aASites)], [(53, oa 74 4 eCandidate x8)]⟩ ?_
  obtain ⟨x9, hx9, h⟩ := bind_some h
  refine SRun.ls (xc ents12 (laws_toSiteS_run aASites _ hx9)) ?_
  refine ckn tbok 1 ⟨90, [(0, vl eCandidate aAList), (1, vs aACode), (2, vs aAText), (3, vl eSite aASites), (4, vl eDescription aADescriptions), (12, vi x7.1), (13, vi x7.2), (14, .own 53), (15, .own 55)], [(53, oa 74 4 eCandidate x8), (55, oa 78 3 eSite x9)]⟩ ?_
  refine sr ?_
  refine SRun.ck tbok 1 ⟨90, [(0, vl eCandidate aAList), (1, vs aACode), (2, vs aAText), (3, vl eSite aASites), (4, vl eDescription aADescriptions), (12, vi x7.1), (13, vi x7.2), (14, .own 53), (15, .own 55), (56, vl eDescription aADescriptions)], [(53, oa 74 4 eCandidate x8), (55, oa 78 3 eSite x9)]⟩ ?_
  obtain ⟨x10, hx10, h⟩ := bind_some h
  refine SRun.ls (xc ents13 (laws_toDescriptionS_run aADescriptions _ hx10)) ?_
  refine ckn tbok 1 ⟨90, [(0, vl eCandidate aAList), (1, vs aACode), (2, vs aAText), (3, vl eSite aASites), (4, vl eDescription aADescriptions), (12, vi x7.1), (13, vi x7.2), (14, .own 53), (15, .own 55), (16, .own 57)], [(53, oa 74 4 eCandidate x8), (55, oa 78 3 eSite x9), (57, oa 80 6 eDescription x10)]⟩ ?_
  refine sr ?_
  refine SRun.ck tbok 5 ⟨90, [(0, vl eCandidate aAList), (3, vl eSite aASites), (4, vl eDescription aADescriptions), (12, vi x7.1), (13, vi x7.2), (14, .own 53), (15, .own 55), (16, .own 57), (59, .own 53), (60, vs aACode), (61, vs aAText), (62, .own 55), (63, .own 57)], [(53, oa 74 4 eCandidate x8), (55, oa 78 3 eSite x9), (57, oa 80 6 eDescription x10)]⟩ ?_
  obtain ⟨x11, hx11, h⟩ := bind_some h
  refine SRun.ls (xc ents28 (impl_RankOf_run x8 aACode aAText x9 x10 _ hx11)) ?_
  refine ckn tbok 5 ⟨90, [(0, vl eCandidate aAList), (3, vl eSite aASites), (4, vl eDescription aADescriptions), (12, vi x7.1), (13, vi x7.2), (14, .own 53), (15, .own 55), (16, .own 57), (17, vi x11.1), (18, vi x11.2)], [(53, oa 74 4 eCandidate x8), (55, oa 78 3 eSite x9), (57, oa 80 6 eDescription x10)]⟩ ?_
  refine swp_seq ?_
  refine swp_seq ?_
  refine swp_regP ⟨90, [(0, vl eCandidate aAList), (3, vl eSite aASites), (4, vl eDescription aADescriptions), (14, .own 53), (15, .own 55), (16, .own 57), (74, vb ((x11.1 != x7.1) || (x11.2 != x7.2)))], [(53, oa 74 4 eCandidate x8), (55, oa 78 3 eSite x9), (57, oa 80 6 eDescription x10)]⟩ ?_ ?_
  refine SRun.ck tbok 4 ⟨90, [(0, vl eCandidate aAList), (3, vl eSite aASites), (4, vl eDescription aADescriptions), (13, vi x7.2), (14, .own 53), (15, .own 55), (16, .own 57), (18, vi x11.2), (70, vb (x11.1 != x7.1))], [(53, oa 74 4 eCandidate x8), (55, oa 78 3 eSite x9), (57, oa 80 6 eDescription x10)]⟩ ?_
  generalize (x11.1 != x7.1) = bb
  cases bb
  refine SRun.ck tbok 4 ⟨90, [(0, vl eCandidate aAList), (3, vl eSite aASites), (4, vl eDescription aADescriptions), (14, .own 53), (15, .own 55), (16, .own 57), (74, vb (x11.2 != x7.2))], [(53, oa 74 4 eCandidate x8), (55, oa 78 3 eSite x9), (57, oa 80 6 eDescription x10)]⟩ ?_
  exact SRun.nil (Le.sub0)
  refine SRun.ck tbok 4 ⟨90, [(0, vl eCandidate aAList), (3, vl eSite aASites), (4, vl eDescription aADescriptions), (14, .own 53), (15, .own 55), (16, .own 57), (74, vb true)], [(53, oa 74 4 eCandidate x8), (55, oa 78 3 eSite x9), (57, oa 80 6 eDescription x10)]⟩ ?_
  exact SRun.nil (Le.sub0)
  refine swp_cd h (fun h => ?_) fun h => ?_
  refine srk tbok ⟨90, [(10, vb false)], []⟩ ?_
  refine swp_ret ?_
  obtain rfl := inj h
  exact nx_r (q_fr (f1 fv))
  refine swp_skip ?_
  refine nx_n ?_
  refine swp_seq ?_
  refine sr ?_
  refine SRun.ck tbok 2 ⟨90, [(3, vl eSite aASites), (4, vl eDescription aADescriptions), (15, .own 55), (16, .own 57), (75, .own 53), (76, vl eCandidate aAList)], [(53, oa 74 4 eCandidate x8), (55, oa 78 3 eSite x9), (57, oa 80 6 eDescription x10)]⟩ ?_
  obtain ⟨x12, hx12, h⟩ := bind_some h
  refine SRun.ls (xc ents11 (laws_toCandidateS_run aAList _ hx12)) ?_
  obtain ⟨x13, hx13, h⟩ := bind_some h
  refine SRun.ls (xc ents16 (laws_eqCandidateS_run x8 x12 _ hx13)) ?_
  refine ckn tbok 1 ⟨90, [(3, vl eSite aASites), (4, vl eDescription aADescriptions), (15, .own 55), (16, .own 57), (79, vb (!x13))], [(55, oa 78 3 eSite x9), (57, oa 80 6 eDescription x10)]⟩ ?_
  refine swp_cd h (fun h => ?_) fun h => ?_
  refine srk tbok ⟨90, [(10, vb false)], []⟩ ?_
  refine swp_ret ?_
  obtain rfl := inj h
  exact nx_r (q_fr (f1 fv))
  refine swp_skip ?_
  refine nx_n ?_
  refine swp_seq ?_
  refine sr ?_
  refine SRun.ck tbok 2 ⟨90, [(4, vl eDescription aADescriptions), (16, .own 57), (80, .own 55), (81, vl eSite aASites)], [(55, oa 78 3 eSite x9), (57, oa 80 6 eDescription x10)]⟩ ?_
  obtain ⟨x14, hx14, h⟩ := bind_some h
  refine SRun.ls (xc ents12 (laws_toSiteS_run aASites _ hx14)) ?_
  obtain ⟨x15, hx15, h⟩ := bind_some h
  refine SRun.ls (xc ents17 (laws_eqSiteS_run x9 x14 _ hx15)) ?_
  refine ckn tbok 1 ⟨90, [(4, vl eDescription aADescriptions), (16, .own 57), (84, vb (!x15))], [(57, oa 80 6 eDescription x10)]⟩ ?_
  refine swp_cd h (fun h => ?_) fun h => ?_
  refine srk tbok ⟨90, [(10, vb false)], []⟩ ?_
  refine swp_ret ?_
  obtain rfl := inj h
  exact nx_r (q_fr (f1 fv))
  refine swp_skip ?_
  refine nx_n ?_
  refine swp_seq ?_
  refine sr ?_
  refine SRun.ck tbok 2 ⟨90, [(85, .own 57), (86, vl eDescription aADescriptions)], [(57, oa 80 6 eDescription x10)]⟩ ?_
  obtain ⟨x16, hx16, h⟩ := bind_some h
  refine SRun.ls (xc ents13 (laws_toDescriptionS_run aADescriptions _ hx16)) ?_
  obtain ⟨x17, hx17, h⟩ := bind_some h
  refine SRun.ls (xc ents18 (laws_eqDescriptionS_run x10 x16 _ hx17)) ?_
  refine ckn tbok 1 ⟨90, [(89, vb (!x17))], []⟩ ?_
  refine swp_cd h (fun h => ?_) fun h => ?_
  refine srk tbok ⟨90, [(10, vb false)], []⟩ ?_
  refine swp_ret ?_
  obtain rfl := inj h
  exact nx_r (q_fr (f1 fv))
  refine swp_skip ?_
  refine nx_n ?_
  refine srk tbok ⟨90, [(10, vb true)], []⟩ ?_
  refine swp_ret ?_
  obtain rfl := inj h
  exact q_fr (f1 fv)
end Go.Proofs.YtepmfngpdimkhaaGreatDoor.Sh
