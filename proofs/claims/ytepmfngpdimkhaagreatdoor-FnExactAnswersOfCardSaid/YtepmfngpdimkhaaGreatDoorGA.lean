/- Typed functions and the calls that do what they say. -/
import Derived.Test.YtepmfngpdimkhaaGreatDoorGAp1
import Derived.Test.YtepmfngpdimkhaaGreatDoorKA
import Derived.Test.YtepmfngpdimkhaaGreatDoorKC
import Derived.Test.YtepmfngpdimkhaaGreatDoorKS
import Derived.Test.YtepmfngpdimkhaaGreatDoorSN
import Derived.Test.YtepmfngpdimkhaaGreatDoorH1
namespace Go.Proofs.YtepmfngpdimkhaaGreatDoor.Sh
open Go.RowKit
set_option maxRecDepth 100000
set_option maxHeartbeats 4000000
noncomputable def laws_markText (aK : Int) : Option (ByteArray) :=
  (bif (decide (aK ≤ 0)) then some (ByteArray.mk #[109, 48]) else (((loop (fun (s3 : Int × ByteArray) => (bif (decide (s3.1 > 0)) then ((cat' (strOfNums ([(IntKind.wrap .u8 (w64 (48 + (Int.tmod s3.1 10))))] : List Int)) s3.2).bind fun x5 => some (.inl ((w64 (Int.tdiv s3.1 10)), x5))) else some (.inr s3.2))) (aK, (ByteArray.mk #[])))).bind fun (j1 : ByteArray) => ((cat' (ByteArray.mk #[109]) j1).bind fun x6 => some x6)))
theorem laws_markText_run (aK : Int) (r : ByteArray) (h : laws_markText aK = some r) : SCall Tryz.prog 52 [.v (vi aK)] ⟨[.v (vs r)], [], false⟩ := by
  refine scall_in Tryz.func52 rfl [(.tmp 2)] rfl (fun r => ⟨[.v (vs r)], [], false⟩) (r := r) ?_
  unfold laws_markText at h
  refine srk tbok ⟨20, [(0, vi aK)], []⟩ ?_
  refine swp_seq ?_
  refine srk tbok ⟨20, [(0, vi aK), (5, vb (decide (aK ≤ 0)))], []⟩ ?_
  refine swp_cd h (fun h => ?_) fun h => ?_
  refine srk tbok ⟨20, [(2, vs (ByteArray.mk #[109, 48]))], []⟩ ?_
  refine swp_ret ?_
  obtain rfl := inj h
  exact nx_r (q_fr (f1 fv))
  refine swp_skip ?_
  refine nx_n ?_
  refine srk tbok ⟨20, [(0, vi aK), (3, vs (ByteArray.mk #[]))], []⟩ ?_
  refine swp_seq ?_
  refine swp_seqJ h (fun j1 => ⟨20, [(3, vs j1)], []⟩) (fun v2 h => ?_) (fun j1 h => ?_)
  refine swp_blk (a := v2) ?_
  refine swp_lpL (r := v2) (s := (aK, (ByteArray.mk #[]))) _ (fun s3 => ⟨20, [(0, vi s3.1), (3, vs s3.2)], []⟩) _ (Le.sub0) h (fun s3 v4 h => ?_)
  refine swp_seq ?_
  refine srk tbok ⟨20, [(0, vi s3.1), (3, vs s3.2), (7, vb (decide (s3.1 > 0)))], []⟩ ?_
  refine swp_cd h (fun h => ?_) fun h => ?_
  refine swp_skip ?_
  refine nx_n ?_
  refine swp_blk (a := v4) ?_
  refine sr ?_
  refine SRun.ck tbok 5 ⟨20, [(0, vi s3.1), (3, vs s3.2), (12, .own 12)], [(12, oa 5 1 (eI .u8) ([(IntKind.wrap .u8 (w64 (48 + (Int.tmod s3.1 10))))] : List Int))]⟩ ?_
  refine SRun.ls (x_bytes_own (L := ([(IntKind.wrap .u8 (w64 (48 + (Int.tmod s3.1 10))))] : List Int)) (d := 12) (e' := 5) tbok rfl (e := 5) (ti := ti111) (tj := ti5) (tk := ti9)) ?_
  refine SRun.ck tbok 1 ⟨20, [(0, vi s3.1), (13, vs (strOfNums ([(IntKind.wrap .u8 (w64 (48 + (Int.tmod s3.1 10))))] : List Int))), (14, vs s3.2)], []⟩ ?_
  obtain ⟨x5, hx5, h⟩ := bind_some h
  refine SRun.ls (x_cat hx5 rfl) ?_
  refine ckn tbok 1 ⟨20, [(0, vi s3.1), (3, vs x5)], []⟩ ?_
  refine swp_reg ?_
  refine SRun.ck tbok 3 ⟨20, [(0, vi (w64 (Int.tdiv s3.1 10))), (3, vs x5)], []⟩ ?_
  refine SRun.nil ?_
  obtain rfl := inj h
  exact q_bn (q_l (Le.sub0))
  refine swp_exit ?_
  obtain rfl := inj h
  exact nx_e (q_re (q_bh (q_j (Le.sub0))))
  refine sr ?_
  refine SRun.ck tbok 1 ⟨20, [(18, vs j1)], []⟩ ?_
  obtain ⟨x6, hx6, h⟩ := bind_some h
  refine SRun.ls (x_cat hx6 rfl) ?_
  refine ckn tbok 1 ⟨20, [(2, vs x6)], []⟩ ?_
  refine swp_ret ?_
  obtain rfl := inj h
  exact q_fr (f1 fv)
theorem ents52 : Ents Tryz.prog 52 := ents_of Tryz.func52 (by kernel_rfl) rfl
noncomputable def laws_markCandidateS (aA : (List Candidate)) (aK : Int) : Option (Int × (List Candidate)) :=
  (((forH (fun (i3 : Int) (s3 : Int × (List Candidate)) => (decide (i3 < (s3.2.length : Int)))) (fun (i3 : Int) (s3 : Int × (List Candidate)) => ((laws_markText s3.1).bind fun x7 => ((at' s3.2 i3).bind fun x8 => ((laws_markText (w64 (s3.1 + 1))).bind fun x9 => ((at' (List.set s3.2 (Int.toNat i3) (Candidate.mk x7 x8.Text x8.At)) i3).bind fun x10 => ((at' (List.set (List.set s3.2 (Int.toNat i3) (Candidate.mk x7 x8.Text x8.At)) (Int.toNat i3) (Candidate.mk x10.Code x9 x10.At)) i3).bind fun x11 => ((at' (List.set (List.set (List.set s3.2 (Int.toNat i3) (Candidate.mk x7 x8.Text x8.At)) (Int.toNat i3) (Candidate.mk x10.Code x9 x10.At)) (Int.toNat i3) (Candidate.mk x11.Code x11.Text (Point.mk (w64 ((w64 (s3.1 + 1)) + 1)) x11.At.Y))) i3).bind fun x12 => some ((w64 ((w64 ((w64 ((w64 (s3.1 + 1)) + 1)) + 1)) + 1)), (List.set (List.set (List.set (List.set s3.2 (Int.toNat i3) (Candidate.mk x7 x8.Text x8.At)) (Int.toNat i3) (Candidate.mk x10.Code x9 x10.At)) (Int.toNat i3) (Candidate.mk x11.Code x11.Text (Point.mk (w64 ((w64 (s3.1 + 1)) + 1)) x11.At.Y))) (Int.toNat i3) (Candidate.mk x12.Code x12.Text (Point.mk x12.At.X (w64 ((w64 ((w64 (s3.1 + 1)) + 1)) + 1))))))))))))) (fun (s3 : Int × (List Candidate)) => (s3.1, s3.2)) 0 (aK, aA))).bind fun (j1 : Int × (List Candidate)) => some (j1.1, j1.2))
theorem laws_markCandidateS_run (aA : (List Candidate)) (aK : Int) (r : Int × (List Candidate)) (h : laws_markCandidateS aA aK = some r) : SCall Tryz.prog 22 [.o (oa 74 4 eCandidate aA), .v (vi aK)] ⟨[.v (vi r.1)], [(0, oa 74 4 eCandidate r.2)], false⟩ := by
  refine scall_in Tryz.func22 rfl [(.tmp 4)] rfl (fun r => ⟨[.v (vi r.1)], [(0, oa 74 4 eCandidate r.2)], false⟩) (r := r) ?_
  unfold laws_markCandidateS at h
  refine srk tbok ⟨45, [(0, .own 1000000), (1, vi aK)], [(1000000, oa 74 4 eCandidate aA)]⟩ ?_
  refine swp_seq ?_
  refine srk tbok ⟨45, [(0, .own 1000000), (1, vi aK), (5, vi 0)], [(1000000, oa 74 4 eCandidate aA)]⟩ ?_
  refine swp_seqJ h (fun j1 => ⟨45, [(1, vi j1.1)], [(1000000, oa 74 4 eCandidate j1.2)]⟩) (fun v2 h => ?_) (fun j1 h => ?_)
  refine swp_blk (a := v2) ?_
  refine swp_lpL (r := v2) (s := (0, aK, aA)) _ (fun s3 => ⟨45, [(0, .own 1000000), (1, vi s3.2.1), (5, vi s3.1)], [(1000000, oa 74 4 eCandidate s3.2.2)]⟩) _ (Le.sub0) h (fun s3 v4 h => ?_)
  refine swp_seq ?_
  refine srk tbok ⟨45, [(0, .own 1000000), (1, vi s3.2.1), (5, vi s3.1), (9, vb (decide (s3.1 < (s3.2.2.length : Int))))], [(1000000, oa 74 4 eCandidate s3.2.2)]⟩ ?_
  refine swp_cd h (fun h => ?_) fun h => ?_
  refine swp_skip ?_
  refine nx_n ?_
  refine swp_seq ?_
  refine swp_seqJ h (fun j5 => ⟨45, [(0, .own 1000000), (1, vi j5.1), (5, vi s3.1)], [(1000000, oa 74 4 eCandidate j5.2)]⟩) (fun v6 h => ?_) (fun j5 h => ?_)
  refine swp_blk (a := v6) ?_
  refine sr ?_
  refine SRun.ck tbok 3 ⟨45, [(0, .own 1000000), (1, vi s3.2.1), (5, vi s3.1), (12, .own 1000000), (13, vi s3.1), (14, vi s3.2.1)], [(1000000, oa 74 4 eCandidate s3.2.2)]⟩ ?_
  obtain ⟨x7, hx7, h⟩ := bind_some h
  refine SRun.ls (xc ents52 (laws_markText_run s3.2.1 _ hx7)) ?_
  obtain ⟨x8, hx8, h⟩ := bind_some h
  refine SRun.ls (x_index_own (d := 1000000) (L := s3.2.2) (f := eCandidate) (ti := ti32) (tj := ti74) (e := 74) (e' := 74) (m := 4) (k := .i64) tbok rfl hx8) ?_
  refine SRun.ck tbok 1 ⟨45, [(0, .own 1000000), (1, vi s3.2.1), (5, vi s3.1), (15, vs x7), (17, .eref 1000000 4 (Int.toNat s3.1) 0)], [(1000000, oa 74 4 eCandidate s3.2.2)]⟩ ?_
  refine SRun.estep (x_store_own (d := 1000000) (m := 4) (j := 0) (L := s3.2.2) (f := eCandidate) (x := (Candidate.mk x7 x8.Text x8.At)) (z := x8) (ti := ti9) (e := 74) (ts := [.str x7]) (vs := [vs x7]) (v := vs x7) tbok rfl rfl hx8) ?_
  refine SRun.nx ?_
  refine srk tbok ⟨45, [(0, .own 1000000), (1, vi (w64 (s3.2.1 + 1))), (5, vi s3.1)], [(1000000, oa 74 4 eCandidate (List.set s3.2.2 (Int.toNat s3.1) (Candidate.mk x7 x8.Text x8.At)))]⟩ ?_
  refine sr ?_
  refine SRun.ck tbok 3 ⟨45, [(0, .own 1000000), (1, vi (w64 (s3.2.1 + 1))), (5, vi s3.1), (20, .own 1000000), (21, vi s3.1), (22, vi (w64 (s3.2.1 + 1)))], [(1000000, oa 74 4 eCandidate (List.set s3.2.2 (Int.toNat s3.1) (Candidate.mk x7 x8.Text x8.At)))]⟩ ?_
  obtain ⟨x9, hx9, h⟩ := bind_some h
  refine SRun.ls (xc ents52 (laws_markText_run (w64 (s3.2.1 + 1)) _ hx9)) ?_
  obtain ⟨x10, hx10, h⟩ := bind_some h
  refine SRun.ls (x_index_own (d := 1000000) (L := (List.set s3.2.2 (Int.toNat s3.1) (Candidate.mk x7 x8.Text x8.At))) (f := eCandidate) (ti := ti32) (tj := ti74) (e := 74) (e' := 74) (m := 4) (k := .i64) tbok rfl hx10) ?_
  refine SRun.ck tbok 1 ⟨45, [(0, .own 1000000), (1, vi (w64 (s3.2.1 + 1))), (5, vi s3.1), (23, vs x9), (25, .eref 1000000 4 (Int.toNat s3.1) 1)], [(1000000, oa 74 4 eCandidate (List.set s3.2.2 (Int.toNat s3.1) (Candidate.mk x7 x8.Text x8.At)))]⟩ ?_
  refine SRun.estep (x_store_own (d := 1000000) (m := 4) (j := 1) (L := (List.set s3.2.2 (Int.toNat s3.1) (Candidate.mk x7 x8.Text x8.At))) (f := eCandidate) (x := (Candidate.mk x10.Code x9 x10.At)) (z := x10) (ti := ti9) (e := 74) (ts := [.str x9]) (vs := [vs x9]) (v := vs x9) tbok rfl rfl hx10) ?_
  refine SRun.nx ?_
  refine srk tbok ⟨45, [(0, .own 1000000), (1, vi (w64 ((w64 (s3.2.1 + 1)) + 1))), (5, vi s3.1)], [(1000000, oa 74 4 eCandidate (List.set (List.set s3.2.2 (Int.toNat s3.1) (Candidate.mk x7 x8.Text x8.At)) (Int.toNat s3.1) (Candidate.mk x10.Code x9 x10.At)))]⟩ ?_
  refine sr ?_
  refine SRun.ck tbok 3 ⟨45, [(0, .own 1000000), (1, vi (w64 ((w64 (s3.2.1 + 1)) + 1))), (5, vi s3.1), (28, .own 1000000), (29, vi s3.1), (30, vi (w64 ((w64 (s3.2.1 + 1)) + 1)))], [(1000000, oa 74 4 eCandidate (List.set (List.set s3.2.2 (Int.toNat s3.1) (Candidate.mk x7 x8.Text x8.At)) (Int.toNat s3.1) (Candidate.mk x10.Code x9 x10.At)))]⟩ ?_
  obtain ⟨x11, hx11, h⟩ := bind_some h
  refine SRun.ls (x_index_own (d := 1000000) (L := (List.set (List.set s3.2.2 (Int.toNat s3.1) (Candidate.mk x7 x8.Text x8.At)) (Int.toNat s3.1) (Candidate.mk x10.Code x9 x10.At))) (f := eCandidate) (ti := ti32) (tj := ti74) (e := 74) (e' := 74) (m := 4) (k := .i64) tbok rfl hx11) ?_
  refine SRun.ck tbok 2 ⟨45, [(0, .own 1000000), (1, vi (w64 ((w64 (s3.2.1 + 1)) + 1))), (5, vi s3.1), (30, vi (w64 ((w64 (s3.2.1 + 1)) + 1))), (33, .eref 1000000 4 (Int.toNat s3.1) 2)], [(1000000, oa 74 4 eCandidate (List.set (List.set s3.2.2 (Int.toNat s3.1) (Candidate.mk x7 x8.Text x8.At)) (Int.toNat s3.1) (Candidate.mk x10.Code x9 x10.At)))]⟩ ?_
  refine SRun.estep (x_store_own (d := 1000000) (m := 4) (j := 2) (L := (List.set (List.set s3.2.2 (Int.toNat s3.1) (Candidate.mk x7 x8.Text x8.At)) (Int.toNat s3.1) (Candidate.mk x10.Code x9 x10.At))) (f := eCandidate) (x := (Candidate.mk x11.Code x11.Text (Point.mk (w64 ((w64 (s3.2.1 + 1)) + 1)) x11.At.Y))) (z := x11) (ti := ti2) (e := 74) (ts := [.int .i64 (w64 ((w64 (s3.2.1 + 1)) + 1))]) (vs := [vi (w64 ((w64 (s3.2.1 + 1)) + 1))]) (v := vi (w64 ((w64 (s3.2.1 + 1)) + 1))) tbok rfl rfl hx11) ?_
  refine SRun.nx ?_
  refine srk tbok ⟨45, [(0, .own 1000000), (1, vi (w64 ((w64 ((w64 (s3.2.1 + 1)) + 1)) + 1))), (5, vi s3.1)], [(1000000, oa 74 4 eCandidate (List.set (List.set (List.set s3.2.2 (Int.toNat s3.1) (Candidate.mk x7 x8.Text x8.At)) (Int.toNat s3.1) (Candidate.mk x10.Code x9 x10.At)) (Int.toNat s3.1) (Candidate.mk x11.Code x11.Text (Point.mk (w64 ((w64 (s3.2.1 + 1)) + 1)) x11.At.Y))))]⟩ ?_
  refine sr ?_
  refine SRun.ck tbok 3 ⟨45, [(0, .own 1000000), (1, vi (w64 ((w64 ((w64 (s3.2.1 + 1)) + 1)) + 1))), (5, vi s3.1), (36, .own 1000000), (37, vi s3.1), (38, vi (w64 ((w64 ((w64 (s3.2.1 + 1)) + 1)) + 1)))], [(1000000, oa 74 4 eCandidate (List.set (List.set (List.set s3.2.2 (Int.toNat s3.1) (Candidate.mk x7 x8.Text x8.At)) (Int.toNat s3.1) (Candidate.mk x10.Code x9 x10.At)) (Int.toNat s3.1) (Candidate.mk x11.Code x11.Text (Point.mk (w64 ((w64 (s3.2.1 + 1)) + 1)) x11.At.Y))))]⟩ ?_
  obtain ⟨x12, hx12, h⟩ := bind_some h
  refine SRun.ls (x_index_own (d := 1000000) (L := (List.set (List.set (List.set s3.2.2 (Int.toNat s3.1) (Candidate.mk x7 x8.Text x8.At)) (Int.toNat s3.1) (Candidate.mk x10.Code x9 x10.At)) (Int.toNat s3.1) (Candidate.mk x11.Code x11.Text (Point.mk (w64 ((w64 (s3.2.1 + 1)) + 1)) x11.At.Y)))) (f := eCandidate) (ti := ti32) (tj := ti74) (e := 74) (e' := 74) (m := 4) (k := .i64) tbok rfl hx12) ?_
  refine SRun.ck tbok 2 ⟨45, [(0, .own 1000000), (1, vi (w64 ((w64 ((w64 (s3.2.1 + 1)) + 1)) + 1))), (5, vi s3.1), (38, vi (w64 ((w64 ((w64 (s3.2.1 + 1)) + 1)) + 1))), (41, .eref 1000000 4 (Int.toNat s3.1) 3)], [(1000000, oa 74 4 eCandidate (List.set (List.set (List.set s3.2.2 (Int.toNat s3.1) (Candidate.mk x7 x8.Text x8.At)) (Int.toNat s3.1) (Candidate.mk x10.Code x9 x10.At)) (Int.toNat s3.1) (Candidate.mk x11.Code x11.Text (Point.mk (w64 ((w64 (s3.2.1 + 1)) + 1)) x11.At.Y))))]⟩ ?_
  refine SRun.estep (x_store_own (d := 1000000) (m := 4) (j := 3) (L := (List.set (List.set (List.set s3.2.2 (Int.toNat s3.1) (Candidate.mk x7 x8.Text x8.At)) (Int.toNat s3.1) (Candidate.mk x10.Code x9 x10.At)) (Int.toNat s3.1) (Candidate.mk x11.Code x11.Text (Point.mk (w64 ((w64 (s3.2.1 + 1)) + 1)) x11.At.Y)))) (f := eCandidate) (x := (Candidate.mk x12.Code x12.Text (Point.mk x12.At.X (w64 ((w64 ((w64 (s3.2.1 + 1)) + 1)) + 1))))) (z := x12) (ti := ti2) (e := 74) (ts := [.int .i64 (w64 ((w64 ((w64 (s3.2.1 + 1)) + 1)) + 1))]) (vs := [vi (w64 ((w64 ((w64 (s3.2.1 + 1)) + 1)) + 1))]) (v := vi (w64 ((w64 ((w64 (s3.2.1 + 1)) + 1)) + 1))) tbok rfl rfl hx12) ?_
  refine SRun.nx ?_
  refine swp_reg ?_
  refine SRun.ck tbok 3 ⟨45, [(0, .own 1000000), (1, vi (w64 ((w64 ((w64 ((w64 (s3.2.1 + 1)) + 1)) + 1)) + 1))), (5, vi s3.1)], [(1000000, oa 74 4 eCandidate (List.set (List.set (List.set (List.set s3.2.2 (Int.toNat s3.1) (Candidate.mk x7 x8.Text x8.At)) (Int.toNat s3.1) (Candidate.mk x10.Code x9 x10.At)) (Int.toNat s3.1) (Candidate.mk x11.Code x11.Text (Point.mk (w64 ((w64 (s3.2.1 + 1)) + 1)) x11.At.Y))) (Int.toNat s3.1) (Candidate.mk x12.Code x12.Text (Point.mk x12.At.X (w64 ((w64 ((w64 (s3.2.1 + 1)) + 1)) + 1))))))]⟩ ?_
  refine SRun.nil ?_
  obtain rfl := inj h
  exact q_bn (q_j (Le.sub0))
  refine swp_reg ?_
  refine SRun.ck tbok 3 ⟨45, [(0, .own 1000000), (1, vi j5.1), (5, vi (w64 (s3.1 + 1)))], [(1000000, oa 74 4 eCandidate j5.2)]⟩ ?_
  refine SRun.nil ?_
  obtain rfl := inj h
  exact q_l (Le.sub0)
  refine swp_exit ?_
  obtain rfl := inj h
  exact nx_e (q_re (q_bh (q_j (Le.sub0))))
  refine srk tbok ⟨45, [(4, vi j1.1)], [(1000000, oa 74 4 eCandidate j1.2)]⟩ ?_
  refine swp_ret ?_
  obtain rfl := inj h
  exact q_fr (fin_io (f1 fv) (y := oa 74 4 eCandidate j1.2) (by kernel_rfl) rfl (by kernel_rfl) (by kernel_rfl))
theorem ents22 : Ents Tryz.prog 22 := ents_of Tryz.func22 (by kernel_rfl) rfl
noncomputable def laws_markSiteS (aA : (List Site)) (aK : Int) : Option (Int × (List Site)) :=
  (((forH (fun (i3 : Int) (s3 : Int × (List Site)) => (decide (i3 < (s3.2.length : Int)))) (fun (i3 : Int) (s3 : Int × (List Site)) => ((laws_markText s3.1).bind fun x7 => ((at' s3.2 i3).bind fun x8 => ((at' (List.set s3.2 (Int.toNat i3) (Site.mk x7 x8.At)) i3).bind fun x9 => ((at' (List.set (List.set s3.2 (Int.toNat i3) (Site.mk x7 x8.At)) (Int.toNat i3) (Site.mk x9.Code (Point.mk (w64 (s3.1 + 1)) x9.At.Y))) i3).bind fun x10 => some ((w64 ((w64 ((w64 (s3.1 + 1)) + 1)) + 1)), (List.set (List.set (List.set s3.2 (Int.toNat i3) (Site.mk x7 x8.At)) (Int.toNat i3) (Site.mk x9.Code (Point.mk (w64 (s3.1 + 1)) x9.At.Y))) (Int.toNat i3) (Site.mk x10.Code (Point.mk x10.At.X (w64 ((w64 (s3.1 + 1)) + 1))))))))))) (fun (s3 : Int × (List Site)) => (s3.1, s3.2)) 0 (aK, aA))).bind fun (j1 : Int × (List Site)) => some (j1.1, j1.2))
theorem laws_markSiteS_run (aA : (List Site)) (aK : Int) (r : Int × (List Site)) (h : laws_markSiteS aA aK = some r) : SCall Tryz.prog 23 [.o (oa 78 3 eSite aA), .v (vi aK)] ⟨[.v (vi r.1)], [(0, oa 78 3 eSite r.2)], false⟩ := by
  refine scall_in Tryz.func23 rfl [(.tmp 4)] rfl (fun r => ⟨[.v (vi r.1)], [(0, oa 78 3 eSite r.2)], false⟩) (r := r) ?_
  unfold laws_markSiteS at h
  refine srk tbok ⟨37, [(0, .own 1000000), (1, vi aK)], [(1000000, oa 78 3 eSite aA)]⟩ ?_
  refine swp_seq ?_
  refine srk tbok ⟨37, [(0, .own 1000000), (1, vi aK), (5, vi 0)], [(1000000, oa 78 3 eSite aA)]⟩ ?_
  refine swp_seqJ h (fun j1 => ⟨37, [(1, vi j1.1)], [(1000000, oa 78 3 eSite j1.2)]⟩) (fun v2 h => ?_) (fun j1 h => ?_)
  refine swp_blk (a := v2) ?_
  refine swp_lpL (r := v2) (s := (0, aK, aA)) _ (fun s3 => ⟨37, [(0, .own 1000000), (1, vi s3.2.1), (5, vi s3.1)], [(1000000, oa 78 3 eSite s3.2.2)]⟩) _ (Le.sub0) h (fun s3 v4 h => ?_)
  refine swp_seq ?_
  refine srk tbok ⟨37, [(0, .own 1000000), (1, vi s3.2.1), (5, vi s3.1), (9, vb (decide (s3.1 < (s3.2.2.length : Int))))], [(1000000, oa 78 3 eSite s3.2.2)]⟩ ?_
  refine swp_cd h (fun h => ?_) fun h => ?_
  refine swp_skip ?_
  refine nx_n ?_
  refine swp_seq ?_
  refine swp_seqJ h (fun j5 => ⟨37, [(0, .own 1000000), (1, vi j5.1), (5, vi s3.1)], [(1000000, oa 78 3 eSite j5.2)]⟩) (fun v6 h => ?_) (fun j5 h => ?_)
  refine swp_blk (a := v6) ?_
  refine sr ?_
  refine SRun.ck tbok 3 ⟨37, [(0, .own 1000000), (1, vi s3.2.1), (5, vi s3.1), (12, .own 1000000), (13, vi s3.1), (14, vi s3.2.1)], [(1000000, oa 78 3 eSite s3.2.2)]⟩ ?_
  obtain ⟨x7, hx7, h⟩ := bind_some h
  refine SRun.ls (xc ents52 (laws_markText_run s3.2.1 _ hx7)) ?_
  obtain ⟨x8, hx8, h⟩ := bind_some h
  refine SRun.ls (x_index_own (d := 1000000) (L := s3.2.2) (f := eSite) (ti := ti34) (tj := ti78) (e := 78) (e' := 78) (m := 3) (k := .i64) tbok rfl hx8) ?_
  refine SRun.ck tbok 1 ⟨37, [(0, .own 1000000), (1, vi s3.2.1), (5, vi s3.1), (15, vs x7), (17, .eref 1000000 3 (Int.toNat s3.1) 0)], [(1000000, oa 78 3 eSite s3.2.2)]⟩ ?_
  refine SRun.estep (x_store_own (d := 1000000) (m := 3) (j := 0) (L := s3.2.2) (f := eSite) (x := (Site.mk x7 x8.At)) (z := x8) (ti := ti9) (e := 78) (ts := [.str x7]) (vs := [vs x7]) (v := vs x7) tbok rfl rfl hx8) ?_
  refine SRun.nx ?_
  refine srk tbok ⟨37, [(0, .own 1000000), (1, vi (w64 (s3.2.1 + 1))), (5, vi s3.1)], [(1000000, oa 78 3 eSite (List.set s3.2.2 (Int.toNat s3.1) (Site.mk x7 x8.At)))]⟩ ?_
  refine sr ?_
  refine SRun.ck tbok 3 ⟨37, [(0, .own 1000000), (1, vi (w64 (s3.2.1 + 1))), (5, vi s3.1), (20, .own 1000000), (21, vi s3.1), (22, vi (w64 (s3.2.1 + 1)))], [(1000000, oa 78 3 eSite (List.set s3.2.2 (Int.toNat s3.1) (Site.mk x7 x8.At)))]⟩ ?_
  obtain ⟨x9, hx9, h⟩ := bind_some h
  refine SRun.ls (x_index_own (d := 1000000) (L := (List.set s3.2.2 (Int.toNat s3.1) (Site.mk x7 x8.At))) (f := eSite) (ti := ti34) (tj := ti78) (e := 78) (e' := 78) (m := 3) (k := .i64) tbok rfl hx9) ?_
  refine SRun.ck tbok 2 ⟨37, [(0, .own 1000000), (1, vi (w64 (s3.2.1 + 1))), (5, vi s3.1), (22, vi (w64 (s3.2.1 + 1))), (25, .eref 1000000 3 (Int.toNat s3.1) 1)], [(1000000, oa 78 3 eSite (List.set s3.2.2 (Int.toNat s3.1) (Site.mk x7 x8.At)))]⟩ ?_
  refine SRun.estep (x_store_own (d := 1000000) (m := 3) (j := 1) (L := (List.set s3.2.2 (Int.toNat s3.1) (Site.mk x7 x8.At))) (f := eSite) (x := (Site.mk x9.Code (Point.mk (w64 (s3.2.1 + 1)) x9.At.Y))) (z := x9) (ti := ti2) (e := 78) (ts := [.int .i64 (w64 (s3.2.1 + 1))]) (vs := [vi (w64 (s3.2.1 + 1))]) (v := vi (w64 (s3.2.1 + 1))) tbok rfl rfl hx9) ?_
  refine SRun.nx ?_
  refine srk tbok ⟨37, [(0, .own 1000000), (1, vi (w64 ((w64 (s3.2.1 + 1)) + 1))), (5, vi s3.1)], [(1000000, oa 78 3 eSite (List.set (List.set s3.2.2 (Int.toNat s3.1) (Site.mk x7 x8.At)) (Int.toNat s3.1) (Site.mk x9.Code (Point.mk (w64 (s3.2.1 + 1)) x9.At.Y))))]⟩ ?_
  refine sr ?_
  refine SRun.ck tbok 3 ⟨37, [(0, .own 1000000), (1, vi (w64 ((w64 (s3.2.1 + 1)) + 1))), (5, vi s3.1), (28, .own 1000000), (29, vi s3.1), (30, vi (w64 ((w64 (s3.2.1 + 1)) + 1)))], [(1000000, oa 78 3 eSite (List.set (List.set s3.2.2 (Int.toNat s3.1) (Site.mk x7 x8.At)) (Int.toNat s3.1) (Site.mk x9.Code (Point.mk (w64 (s3.2.1 + 1)) x9.At.Y))))]⟩ ?_
  obtain ⟨x10, hx10, h⟩ := bind_some h
  refine SRun.ls (x_index_own (d := 1000000) (L := (List.set (List.set s3.2.2 (Int.toNat s3.1) (Site.mk x7 x8.At)) (Int.toNat s3.1) (Site.mk x9.Code (Point.mk (w64 (s3.2.1 + 1)) x9.At.Y)))) (f := eSite) (ti := ti34) (tj := ti78) (e := 78) (e' := 78) (m := 3) (k := .i64) tbok rfl hx10) ?_
  refine SRun.ck tbok 2 ⟨37, [(0, .own 1000000), (1, vi (w64 ((w64 (s3.2.1 + 1)) + 1))), (5, vi s3.1), (30, vi (w64 ((w64 (s3.2.1 + 1)) + 1))), (33, .eref 1000000 3 (Int.toNat s3.1) 2)], [(1000000, oa 78 3 eSite (List.set (List.set s3.2.2 (Int.toNat s3.1) (Site.mk x7 x8.At)) (Int.toNat s3.1) (Site.mk x9.Code (Point.mk (w64 (s3.2.1 + 1)) x9.At.Y))))]⟩ ?_
  refine SRun.estep (x_store_own (d := 1000000) (m := 3) (j := 2) (L := (List.set (List.set s3.2.2 (Int.toNat s3.1) (Site.mk x7 x8.At)) (Int.toNat s3.1) (Site.mk x9.Code (Point.mk (w64 (s3.2.1 + 1)) x9.At.Y)))) (f := eSite) (x := (Site.mk x10.Code (Point.mk x10.At.X (w64 ((w64 (s3.2.1 + 1)) + 1))))) (z := x10) (ti := ti2) (e := 78) (ts := [.int .i64 (w64 ((w64 (s3.2.1 + 1)) + 1))]) (vs := [vi (w64 ((w64 (s3.2.1 + 1)) + 1))]) (v := vi (w64 ((w64 (s3.2.1 + 1)) + 1))) tbok rfl rfl hx10) ?_
  refine SRun.nx ?_
  refine swp_reg ?_
  refine SRun.ck tbok 3 ⟨37, [(0, .own 1000000), (1, vi (w64 ((w64 ((w64 (s3.2.1 + 1)) + 1)) + 1))), (5, vi s3.1)], [(1000000, oa 78 3 eSite (List.set (List.set (List.set s3.2.2 (Int.toNat s3.1) (Site.mk x7 x8.At)) (Int.toNat s3.1) (Site.mk x9.Code (Point.mk (w64 (s3.2.1 + 1)) x9.At.Y))) (Int.toNat s3.1) (Site.mk x10.Code (Point.mk x10.At.X (w64 ((w64 (s3.2.1 + 1)) + 1))))))]⟩ ?_
  refine SRun.nil ?_
  obtain rfl := inj h
  exact q_bn (q_j (Le.sub0))
  refine swp_reg ?_
  refine SRun.ck tbok 3 ⟨37, [(0, .own 1000000), (1, vi j5.1), (5, vi (w64 (s3.1 + 1)))], [(1000000, oa 78 3 eSite j5.2)]⟩ ?_
  refine SRun.nil ?_
  obtain rfl := inj h
  exact q_l (Le.sub0)
  refine swp_exit ?_
  obtain rfl := inj h
  exact nx_e (q_re (q_bh (q_j (Le.sub0))))
  refine srk tbok ⟨37, [(4, vi j1.1)], [(1000000, oa 78 3 eSite j1.2)]⟩ ?_
  refine swp_ret ?_
  obtain rfl := inj h
  exact q_fr (fin_io (f1 fv) (y := oa 78 3 eSite j1.2) (by kernel_rfl) rfl (by kernel_rfl) (by kernel_rfl))
theorem ents23 : Ents Tryz.prog 23 := ents_of Tryz.func23 (by kernel_rfl) rfl
noncomputable def laws_markDescriptionS (aA : (List Description)) (aK : Int) : Option (Int × (List Description)) :=
  (((forH (fun (i3 : Int) (s3 : Int × (List Description)) => (decide (i3 < (s3.2.length : Int)))) (fun (i3 : Int) (s3 : Int × (List Description)) => ((at' s3.2 i3).bind fun x7 => ((at' (List.set s3.2 (Int.toNat i3) (Description.mk s3.1 x7.Count x7.Unit x7.Direction x7.A x7.B)) i3).bind fun x8 => ((laws_markText (w64 ((w64 (s3.1 + 1)) + 1))).bind fun x9 => ((at' (List.set (List.set s3.2 (Int.toNat i3) (Description.mk s3.1 x7.Count x7.Unit x7.Direction x7.A x7.B)) (Int.toNat i3) (Description.mk x8.Kind (w64 (s3.1 + 1)) x8.Unit x8.Direction x8.A x8.B)) i3).bind fun x10 => ((at' (List.set (List.set (List.set s3.2 (Int.toNat i3) (Description.mk s3.1 x7.Count x7.Unit x7.Direction x7.A x7.B)) (Int.toNat i3) (Description.mk x8.Kind (w64 (s3.1 + 1)) x8.Unit x8.Direction x8.A x8.B)) (Int.toNat i3) (Description.mk x10.Kind x10.Count x9 x10.Direction x10.A x10.B)) i3).bind fun x11 => ((laws_markText (w64 ((w64 ((w64 ((w64 (s3.1 + 1)) + 1)) + 1)) + 1))).bind fun x12 => ((at' (List.set (List.set (List.set (List.set s3.2 (Int.toNat i3) (Description.mk s3.1 x7.Count x7.Unit x7.Direction x7.A x7.B)) (Int.toNat i3) (Description.mk x8.Kind (w64 (s3.1 + 1)) x8.Unit x8.Direction x8.A x8.B)) (Int.toNat i3) (Description.mk x10.Kind x10.Count x9 x10.Direction x10.A x10.B)) (Int.toNat i3) (Description.mk x11.Kind x11.Count x11.Unit (w64 ((w64 ((w64 (s3.1 + 1)) + 1)) + 1)) x11.A x11.B)) i3).bind fun x13 => ((laws_markText (w64 ((w64 ((w64 ((w64 ((w64 (s3.1 + 1)) + 1)) + 1)) + 1)) + 1))).bind fun x14 => ((at' (List.set (List.set (List.set (List.set (List.set s3.2 (Int.toNat i3) (Description.mk s3.1 x7.Count x7.Unit x7.Direction x7.A x7.B)) (Int.toNat i3) (Description.mk x8.Kind (w64 (s3.1 + 1)) x8.Unit x8.Direction x8.A x8.B)) (Int.toNat i3) (Description.mk x10.Kind x10.Count x9 x10.Direction x10.A x10.B)) (Int.toNat i3) (Description.mk x11.Kind x11.Count x11.Unit (w64 ((w64 ((w64 (s3.1 + 1)) + 1)) + 1)) x11.A x11.B)) (Int.toNat i3) (Description.mk x13.Kind x13.Count x13.Unit x13.Direction x12 x13.B)) i3).bind fun x15 => some ((w64 ((w64 ((w64 ((w64 ((w64 ((w64 (s3.1 + 1)) + 1)) + 1)) + 1)) + 1)) + 1)), (List.set (List.set (List.set (List.set (List.set (List.set s3.2 (Int.toNat i3) (Description.mk s3.1 x7.Count x7.Unit x7.Direction x7.A x7.B)) (Int.toNat i3) (Description.mk x8.Kind (w64 (s3.1 + 1)) x8.Unit x8.Direction x8.A x8.B)) (Int.toNat i3) (Description.mk x10.Kind x10.Count x9 x10.Direction x10.A x10.B)) (Int.toNat i3) (Description.mk x11.Kind x11.Count x11.Unit (w64 ((w64 ((w64 (s3.1 + 1)) + 1)) + 1)) x11.A x11.B)) (Int.toNat i3) (Description.mk x13.Kind x13.Count x13.Unit x13.Direction x12 x13.B)) (Int.toNat i3) (Description.mk x15.Kind x15.Count x15.Unit x15.Direction x15.A x14))))))))))))) (fun (s3 : Int × (List Description)) => (s3.1, s3.2)) 0 (aK, aA))).bind fun (j1 : Int × (List Description)) => some (j1.1, j1.2))
theorem laws_markDescriptionS_run (aA : (List Description)) (aK : Int) (r : Int × (List Description)) (h : laws_markDescriptionS aA aK = some r) : SCall Tryz.prog 24 [.o (oa 80 6 eDescription aA), .v (vi aK)] ⟨[.v (vi r.1)], [(0, oa 80 6 eDescription r.2)], false⟩ := by
  refine scall_in Tryz.func24 rfl [(.tmp 4)] rfl (fun r => ⟨[.v (vi r.1)], [(0, oa 80 6 eDescription r.2)], false⟩) (r := r) ?_
  unfold laws_markDescriptionS at h
  refine srk tbok ⟨58, [(0, .own 1000000), (1, vi aK)], [(1000000, oa 80 6 eDescription aA)]⟩ ?_
  refine swp_seq ?_
  refine srk tbok ⟨58, [(0, .own 1000000), (1, vi aK), (5, vi 0)], [(1000000, oa 80 6 eDescription aA)]⟩ ?_
  refine swp_seqJ h (fun j1 => ⟨58, [(1, vi j1.1)], [(1000000, oa 80 6 eDescription j1.2)]⟩) (fun v2 h => ?_) (fun j1 h => ?_)
  refine swp_blk (a := v2) ?_
  refine swp_lpL (r := v2) (s := (0, aK, aA)) _ (fun s3 => ⟨58, [(0, .own 1000000), (1, vi s3.2.1), (5, vi s3.1)], [(1000000, oa 80 6 eDescription s3.2.2)]⟩) _ (Le.sub0) h (fun s3 v4 h => ?_)
  refine swp_seq ?_
  refine srk tbok ⟨58, [(0, .own 1000000), (1, vi s3.2.1), (5, vi s3.1), (9, vb (decide (s3.1 < (s3.2.2.length : Int))))], [(1000000, oa 80 6 eDescription s3.2.2)]⟩ ?_
  refine swp_cd h (fun h => ?_) fun h => ?_
  refine swp_skip ?_
  refine nx_n ?_
  refine swp_seq ?_
  refine swp_seqJ h (fun j5 => ⟨58, [(0, .own 1000000), (1, vi j5.1), (5, vi s3.1)], [(1000000, oa 80 6 eDescription j5.2)]⟩) (fun v6 h => ?_) (fun j5 h => ?_)
  refine swp_blk (a := v6) ?_
  refine sr ?_
  refine SRun.ck tbok 3 ⟨58, [(0, .own 1000000), (1, vi s3.2.1), (5, vi s3.1), (12, .own 1000000), (13, vi s3.1), (14, vi s3.2.1)], [(1000000, oa 80 6 eDescription s3.2.2)]⟩ ?_
  obtain ⟨x7, hx7, h⟩ := bind_some h
  refine SRun.ls (x_index_own (d := 1000000) (L := s3.2.2) (f := eDescription) (ti := ti36) (tj := ti80) (e := 80) (e' := 80) (m := 6) (k := .i64) tbok rfl hx7) ?_
  refine SRun.ck tbok 1 ⟨58, [(0, .own 1000000), (1, vi s3.2.1), (5, vi s3.1), (14, vi s3.2.1), (16, .eref 1000000 6 (Int.toNat s3.1) 0)], [(1000000, oa 80 6 eDescription s3.2.2)]⟩ ?_
  refine SRun.estep (x_store_own (d := 1000000) (m := 6) (j := 0) (L := s3.2.2) (f := eDescription) (x := (Description.mk s3.2.1 x7.Count x7.Unit x7.Direction x7.A x7.B)) (z := x7) (ti := ti2) (e := 80) (ts := [.int .i64 s3.2.1]) (vs := [vi s3.2.1]) (v := vi s3.2.1) tbok rfl rfl hx7) ?_
  refine SRun.nx ?_
  refine srk tbok ⟨58, [(0, .own 1000000), (1, vi (w64 (s3.2.1 + 1))), (5, vi s3.1)], [(1000000, oa 80 6 eDescription (List.set s3.2.2 (Int.toNat s3.1) (Description.mk s3.2.1 x7.Count x7.Unit x7.Direction x7.A x7.B)))]⟩ ?_
  refine sr ?_
  refine SRun.ck tbok 3 ⟨58, [(0, .own 1000000), (1, vi (w64 (s3.2.1 + 1))), (5, vi s3.1), (19, .own 1000000), (20, vi s3.1), (21, vi (w64 (s3.2.1 + 1)))], [(1000000, oa 80 6 eDescription (List.set s3.2.2 (Int.toNat s3.1) (Description.mk s3.2.1 x7.Count x7.Unit x7.Direction x7.A x7.B)))]⟩ ?_
  obtain ⟨x8, hx8, h⟩ := bind_some h
  refine SRun.ls (x_index_own (d := 1000000) (L := (List.set s3.2.2 (Int.toNat s3.1) (Description.mk s3.2.1 x7.Count x7.Unit x7.Direction x7.A x7.B))) (f := eDescription) (ti := ti36) (tj := ti80) (e := 80) (e' := 80) (m := 6) (k := .i64) tbok rfl hx8) ?_
  refine SRun.ck tbok 1 ⟨58, [(0, .own 1000000), (1, vi (w64 (s3.2.1 + 1))), (5, vi s3.1), (21, vi (w64 (s3.2.1 + 1))), (23, .eref 1000000 6 (Int.toNat s3.1) 1)], [(1000000, oa 80 6 eDescription (List.set s3.2.2 (Int.toNat s3.1) (Description.mk s3.2.1 x7.Count x7.Unit x7.Direction x7.A x7.B)))]⟩ ?_
  refine SRun.estep (x_store_own (d := 1000000) (m := 6) (j := 1) (L := (List.set s3.2.2 (Int.toNat s3.1) (Description.mk s3.2.1 x7.Count x7.Unit x7.Direction x7.A x7.B))) (f := eDescription) (x := (Description.mk x8.Kind (w64 (s3.2.1 + 1)) x8.Unit x8.Direction x8.A x8.B)) (z := x8) (ti := ti2) (e := 80) (ts := [.int .i64 (w64 (s3.2.1 + 1))]) (vs := [vi (w64 (s3.2.1 + 1))]) (v := vi (w64 (s3.2.1 + 1))) tbok rfl rfl hx8) ?_
  refine SRun.nx ?_
  refine srk tbok ⟨58, [(0, .own 1000000), (1, vi (w64 ((w64 (s3.2.1 + 1)) + 1))), (5, vi s3.1)], [(1000000, oa 80 6 eDescription (List.set (List.set s3.2.2 (Int.toNat s3.1) (Description.mk s3.2.1 x7.Count x7.Unit x7.Direction x7.A x7.B)) (Int.toNat s3.1) (Description.mk x8.Kind (w64 (s3.2.1 + 1)) x8.Unit x8.Direction x8.A x8.B)))]⟩ ?_
  refine sr ?_
  refine SRun.ck tbok 3 ⟨58, [(0, .own 1000000), (1, vi (w64 ((w64 (s3.2.1 + 1)) + 1))), (5, vi s3.1), (26, .own 1000000), (27, vi s3.1), (28, vi (w64 ((w64 (s3.2.1 + 1)) + 1)))], [(1000000, oa 80 6 eDescription (List.set (List.set s3.2.2 (Int.toNat s3.1) (Description.mk s3.2.1 x7.Count x7.Unit x7.Direction x7.A x7.B)) (Int.toNat s3.1) (Description.mk x8.Kind (w64 (s3.2.1 + 1)) x8.Unit x8.Direction x8.A x8.B)))]⟩ ?_
  obtain ⟨x9, hx9, h⟩ := bind_some h
  refine SRun.ls (xc ents52 (laws_markText_run (w64 ((w64 (s3.2.1 + 1)) + 1)) _ hx9)) ?_
  obtain ⟨x10, hx10, h⟩ := bind_some h
  refine SRun.ls (x_index_own (d := 1000000) (L := (List.set (List.set s3.2.2 (Int.toNat s3.1) (Description.mk s3.2.1 x7.Count x7.Unit x7.Direction x7.A x7.B)) (Int.toNat s3.1) (Description.mk x8.Kind (w64 (s3.2.1 + 1)) x8.Unit x8.Direction x8.A x8.B))) (f := eDescription) (ti := ti36) (tj := ti80) (e := 80) (e' := 80) (m := 6) (k := .i64) tbok rfl hx10) ?_
  refine SRun.ck tbok 1 ⟨58, [(0, .own 1000000), (1, vi (w64 ((w64 (s3.2.1 + 1)) + 1))), (5, vi s3.1), (29, vs x9), (31, .eref 1000000 6 (Int.toNat s3.1) 2)], [(1000000, oa 80 6 eDescription (List.set (List.set s3.2.2 (Int.toNat s3.1) (Description.mk s3.2.1 x7.Count x7.Unit x7.Direction x7.A x7.B)) (Int.toNat s3.1) (Description.mk x8.Kind (w64 (s3.2.1 + 1)) x8.Unit x8.Direction x8.A x8.B)))]⟩ ?_
  refine SRun.estep (x_store_own (d := 1000000) (m := 6) (j := 2) (L := (List.set (List.set s3.2.2 (Int.toNat s3.1) (Description.mk s3.2.1 x7.Count x7.Unit x7.Direction x7.A x7.B)) (Int.toNat s3.1) (Description.mk x8.Kind (w64 (s3.2.1 + 1)) x8.Unit x8.Direction x8.A x8.B))) (f := eDescription) (x := (Description.mk x10.Kind x10.Count x9 x10.Direction x10.A x10.B)) (z := x10) (ti := ti9) (e := 80) (ts := [.str x9]) (vs := [vs x9]) (v := vs x9) tbok rfl rfl hx10) ?_
  refine SRun.nx ?_
  refine srk tbok ⟨58, [(0, .own 1000000), (1, vi (w64 ((w64 ((w64 (s3.2.1 + 1)) + 1)) + 1))), (5, vi s3.1)], [(1000000, oa 80 6 eDescription (List.set (List.set (List.set s3.2.2 (Int.toNat s3.1) (Description.mk s3.2.1 x7.Count x7.Unit x7.Direction x7.A x7.B)) (Int.toNat s3.1) (Description.mk x8.Kind (w64 (s3.2.1 + 1)) x8.Unit x8.Direction x8.A x8.B)) (Int.toNat s3.1) (Description.mk x10.Kind x10.Count x9 x10.Direction x10.A x10.B)))]⟩ ?_
  refine sr ?_
  refine SRun.ck tbok 3 ⟨58, [(0, .own 1000000), (1, vi (w64 ((w64 ((w64 (s3.2.1 + 1)) + 1)) + 1))), (5, vi s3.1), (34, .own 1000000), (35, vi s3.1), (36, vi (w64 ((w64 ((w64 (s3.2.1 + 1)) + 1)) + 1)))], [(1000000, oa 80 6 eDescription (List.set (List.set (List.set s3.2.2 (Int.toNat s3.1) (Description.mk s3.2.1 x7.Count x7.Unit x7.Direction x7.A x7.B)) (Int.toNat s3.1) (Description.mk x8.Kind (w64 (s3.2.1 + 1)) x8.Unit x8.Direction x8.A x8.B)) (Int.toNat s3.1) (Description.mk x10.Kind x10.Count x9 x10.Direction x10.A x10.B)))]⟩ ?_
  obtain ⟨x11, hx11, h⟩ := bind_some h
  refine SRun.ls (x_index_own (d := 1000000) (L := (List.set (List.set (List.set s3.2.2 (Int.toNat s3.1) (Description.mk s3.2.1 x7.Count x7.Unit x7.Direction x7.A x7.B)) (Int.toNat s3.1) (Description.mk x8.Kind (w64 (s3.2.1 + 1)) x8.Unit x8.Direction x8.A x8.B)) (Int.toNat s3.1) (Description.mk x10.Kind x10.Count x9 x10.Direction x10.A x10.B))) (f := eDescription) (ti := ti36) (tj := ti80) (e := 80) (e' := 80) (m := 6) (k := .i64) tbok rfl hx11) ?_
  refine SRun.ck tbok 1 ⟨58, [(0, .own 1000000), (1, vi (w64 ((w64 ((w64 (s3.2.1 + 1)) + 1)) + 1))), (5, vi s3.1), (36, vi (w64 ((w64 ((w64 (s3.2.1 + 1)) + 1)) + 1))), (38, .eref 1000000 6 (Int.toNat s3.1) 3)], [(1000000, oa 80 6 eDescription (List.set (List.set (List.set s3.2.2 (Int.toNat s3.1) (Description.mk s3.2.1 x7.Count x7.Unit x7.Direction x7.A x7.B)) (Int.toNat s3.1) (Description.mk x8.Kind (w64 (s3.2.1 + 1)) x8.Unit x8.Direction x8.A x8.B)) (Int.toNat s3.1) (Description.mk x10.Kind x10.Count x9 x10.Direction x10.A x10.B)))]⟩ ?_
  refine SRun.estep (x_store_own (d := 1000000) (m := 6) (j := 3) (L := (List.set (List.set (List.set s3.2.2 (Int.toNat s3.1) (Description.mk s3.2.1 x7.Count x7.Unit x7.Direction x7.A x7.B)) (Int.toNat s3.1) (Description.mk x8.Kind (w64 (s3.2.1 + 1)) x8.Unit x8.Direction x8.A x8.B)) (Int.toNat s3.1) (Description.mk x10.Kind x10.Count x9 x10.Direction x10.A x10.B))) (f := eDescription) (x := (Description.mk x11.Kind x11.Count x11.Unit (w64 ((w64 ((w64 (s3.2.1 + 1)) + 1)) + 1)) x11.A x11.B)) (z := x11) (ti := ti2) (e := 80) (ts := [.int .i64 (w64 ((w64 ((w64 (s3.2.1 + 1)) + 1)) + 1))]) (vs := [vi (w64 ((w64 ((w64 (s3.2.1 + 1)) + 1)) + 1))]) (v := vi (w64 ((w64 ((w64 (s3.2.1 + 1)) + 1)) + 1))) tbok rfl rfl hx11) ?_
  refine SRun.nx ?_
  refine srk tbok ⟨58, [(0, .own 1000000), (1, vi (w64 ((w64 ((w64 ((w64 (s3.2.1 + 1)) + 1)) + 1)) + 1))), (5, vi s3.1)], [(1000000, oa 80 6 eDescription (List.set (List.set (List.set (List.set s3.2.2 (Int.toNat s3.1) (Description.mk s3.2.1 x7.Count x7.Unit x7.Direction x7.A x7.B)) (Int.toNat s3.1) (Description.mk x8.Kind (w64 (s3.2.1 + 1)) x8.Unit x8.Direction x8.A x8.B)) (Int.toNat s3.1) (Description.mk x10.Kind x10.Count x9 x10.Direction x10.A x10.B)) (Int.toNat s3.1) (Description.mk x11.Kind x11.Count x11.Unit (w64 ((w64 ((w64 (s3.2.1 + 1)) + 1)) + 1)) x11.A x11.B)))]⟩ ?_
  refine sr ?_
  refine SRun.ck tbok 3 ⟨58, [(0, .own 1000000), (1, vi (w64 ((w64 ((w64 ((w64 (s3.2.1 + 1)) + 1)) + 1)) + 1))), (5, vi s3.1), (41, .own 1000000), (42, vi s3.1), (43, vi (w64 ((w64 ((w64 ((w64 (s3.2.1 + 1)) + 1)) + 1)) + 1)))], [(1000000, oa 80 6 eDescription (List.set (List.set (List.set (List.set s3.2.2 (Int.toNat s3.1) (Description.mk s3.2.1 x7.Count x7.Unit x7.Direction x7.A x7.B)) (Int.toNat s3.1) (Description.mk x8.Kind (w64 (s3.2.1 + 1)) x8.Unit x8.Direction x8.A x8.B)) (Int.toNat s3.1) (Description.mk x10.Kind x10.Count x9 x10.Direction x10.A x10.B)) (Int.toNat s3.1) (Description.mk x11.Kind x11.Count x11.Unit (w64 ((w64 ((w64 (s3.2.1 + 1)) + 1)) + 1)) x11.A x11.B)))]⟩ ?_
  obtain ⟨x12, hx12, h⟩ := bind_some h
  refine SRun.ls (xc ents52 (laws_markText_run (w64 ((w64 ((w64 ((w64 (s3.2.1 + 1)) + 1)) + 1)) + 1)) _ hx12)) ?_
  obtain ⟨x13, hx13, h⟩ := bind_some h
  refine SRun.ls (x_index_own (d := 1000000) (L := (List.set (List.set (List.set (List.set s3.2.2 (Int.toNat s3.1) (Description.mk s3.2.1 x7.Count x7.Unit x7.Direction x7.A x7.B)) (Int.toNat s3.1) (Description.mk x8.Kind (w64 (s3.2.1 + 1)) x8.Unit x8.Direction x8.A x8.B)) (Int.toNat s3.1) (Description.mk x10.Kind x10.Count x9 x10.Direction x10.A x10.B)) (Int.toNat s3.1) (Description.mk x11.Kind x11.Count x11.Unit (w64 ((w64 ((w64 (s3.2.1 + 1)) + 1)) + 1)) x11.A x11.B))) (f := eDescription) (ti := ti36) (tj := ti80) (e := 80) (e' := 80) (m := 6) (k := .i64) tbok rfl hx13) ?_
  refine SRun.ck tbok 1 ⟨58, [(0, .own 1000000), (1, vi (w64 ((w64 ((w64 ((w64 (s3.2.1 + 1)) + 1)) + 1)) + 1))), (5, vi s3.1), (44, vs x12), (46, .eref 1000000 6 (Int.toNat s3.1) 4)], [(1000000, oa 80 6 eDescription (List.set (List.set (List.set (List.set s3.2.2 (Int.toNat s3.1) (Description.mk s3.2.1 x7.Count x7.Unit x7.Direction x7.A x7.B)) (Int.toNat s3.1) (Description.mk x8.Kind (w64 (s3.2.1 + 1)) x8.Unit x8.Direction x8.A x8.B)) (Int.toNat s3.1) (Description.mk x10.Kind x10.Count x9 x10.Direction x10.A x10.B)) (Int.toNat s3.1) (Description.mk x11.Kind x11.Count x11.Unit (w64 ((w64 ((w64 (s3.2.1 + 1)) + 1)) + 1)) x11.A x11.B)))]⟩ ?_
  refine SRun.estep (x_store_own (d := 1000000) (m := 6) (j := 4) (L := (List.set (List.set (List.set (List.set s3.2.2 (Int.toNat s3.1) (Description.mk s3.2.1 x7.Count x7.Unit x7.Direction x7.A x7.B)) (Int.toNat s3.1) (Description.mk x8.Kind (w64 (s3.2.1 + 1)) x8.Unit x8.Direction x8.A x8.B)) (Int.toNat s3.1) (Description.mk x10.Kind x10.Count x9 x10.Direction x10.A x10.B)) (Int.toNat s3.1) (Description.mk x11.Kind x11.Count x11.Unit (w64 ((w64 ((w64 (s3.2.1 + 1)) + 1)) + 1)) x11.A x11.B))) (f := eDescription) (x := (Description.mk x13.Kind x13.Count x13.Unit x13.Direction x12 x13.B)) (z := x13) (ti := ti9) (e := 80) (ts := [.str x12]) (vs := [vs x12]) (v := vs x12) tbok rfl rfl hx13) ?_
  refine SRun.nx ?_
  refine srk tbok ⟨58, [(0, .own 1000000), (1, vi (w64 ((w64 ((w64 ((w64 ((w64 (s3.2.1 + 1)) + 1)) + 1)) + 1)) + 1))), (5, vi s3.1)], [(1000000, oa 80 6 eDescription (List.set (List.set (List.set (List.set (List.set s3.2.2 (Int.toNat s3.1) (Description.mk s3.2.1 x7.Count x7.Unit x7.Direction x7.A x7.B)) (Int.toNat s3.1) (Description.mk x8.Kind (w64 (s3.2.1 + 1)) x8.Unit x8.Direction x8.A x8.B)) (Int.toNat s3.1) (Description.mk x10.Kind x10.Count x9 x10.Direction x10.A x10.B)) (Int.toNat s3.1) (Description.mk x11.Kind x11.Count x11.Unit (w64 ((w64 ((w64 (s3.2.1 + 1)) + 1)) + 1)) x11.A x11.B)) (Int.toNat s3.1) (Description.mk x13.Kind x13.Count x13.Unit x13.Direction x12 x13.B)))]⟩ ?_
  refine sr ?_
  refine SRun.ck tbok 3 ⟨58, [(0, .own 1000000), (1, vi (w64 ((w64 ((w64 ((w64 ((w64 (s3.2.1 + 1)) + 1)) + 1)) + 1)) + 1))), (5, vi s3.1), (49, .own 1000000), (50, vi s3.1), (51, vi (w64 ((w64 ((w64 ((w64 ((w64 (s3.2.1 + 1)) + 1)) + 1)) + 1)) + 1)))], [(1000000, oa 80 6 eDescription (List.set (List.set (List.set (List.set (List.set s3.2.2 (Int.toNat s3.1) (Description.mk s3.2.1 x7.Count x7.Unit x7.Direction x7.A x7.B)) (Int.toNat s3.1) (Description.mk x8.Kind (w64 (s3.2.1 + 1)) x8.Unit x8.Direction x8.A x8.B)) (Int.toNat s3.1) (Description.mk x10.Kind x10.Count x9 x10.Direction x10.A x10.B)) (Int.toNat s3.1) (Description.mk x11.Kind x11.Count x11.Unit (w64 ((w64 ((w64 (s3.2.1 + 1)) + 1)) + 1)) x11.A x11.B)) (Int.toNat s3.1) (Description.mk x13.Kind x13.Count x13.Unit x13.Direction x12 x13.B)))]⟩ ?_
  obtain ⟨x14, hx14, h⟩ := bind_some h
  refine SRun.ls (xc ents52 (laws_markText_run (w64 ((w64 ((w64 ((w64 ((w64 (s3.2.1 + 1)) + 1)) + 1)) + 1)) + 1)) _ hx14)) ?_
  obtain ⟨x15, hx15, h⟩ := bind_some h
  refine SRun.ls (x_index_own (d := 1000000) (L := (List.set (List.set (List.set (List.set (List.set s3.2.2 (Int.toNat s3.1) (Description.mk s3.2.1 x7.Count x7.Unit x7.Direction x7.A x7.B)) (Int.toNat s3.1) (Description.mk x8.Kind (w64 (s3.2.1 + 1)) x8.Unit x8.Direction x8.A x8.B)) (Int.toNat s3.1) (Description.mk x10.Kind x10.Count x9 x10.Direction x10.A x10.B)) (Int.toNat s3.1) (Description.mk x11.Kind x11.Count x11.Unit (w64 ((w64 ((w64 (s3.2.1 + 1)) + 1)) + 1)) x11.A x11.B)) (Int.toNat s3.1) (Description.mk x13.Kind x13.Count x13.Unit x13.Direction x12 x13.B))) (f := eDescription) (ti := ti36) (tj := ti80) (e := 80) (e' := 80) (m := 6) (k := .i64) tbok rfl hx15) ?_
  refine SRun.ck tbok 1 ⟨58, [(0, .own 1000000), (1, vi (w64 ((w64 ((w64 ((w64 ((w64 (s3.2.1 + 1)) + 1)) + 1)) + 1)) + 1))), (5, vi s3.1), (52, vs x14), (54, .eref 1000000 6 (Int.toNat s3.1) 5)], [(1000000, oa 80 6 eDescription (List.set (List.set (List.set (List.set (List.set s3.2.2 (Int.toNat s3.1) (Description.mk s3.2.1 x7.Count x7.Unit x7.Direction x7.A x7.B)) (Int.toNat s3.1) (Description.mk x8.Kind (w64 (s3.2.1 + 1)) x8.Unit x8.Direction x8.A x8.B)) (Int.toNat s3.1) (Description.mk x10.Kind x10.Count x9 x10.Direction x10.A x10.B)) (Int.toNat s3.1) (Description.mk x11.Kind x11.Count x11.Unit (w64 ((w64 ((w64 (s3.2.1 + 1)) + 1)) + 1)) x11.A x11.B)) (Int.toNat s3.1) (Description.mk x13.Kind x13.Count x13.Unit x13.Direction x12 x13.B)))]⟩ ?_
  refine SRun.estep (x_store_own (d := 1000000) (m := 6) (j := 5) (L := (List.set (List.set (List.set (List.set (List.set s3.2.2 (Int.toNat s3.1) (Description.mk s3.2.1 x7.Count x7.Unit x7.Direction x7.A x7.B)) (Int.toNat s3.1) (Description.mk x8.Kind (w64 (s3.2.1 + 1)) x8.Unit x8.Direction x8.A x8.B)) (Int.toNat s3.1) (Description.mk x10.Kind x10.Count x9 x10.Direction x10.A x10.B)) (Int.toNat s3.1) (Description.mk x11.Kind x11.Count x11.Unit (w64 ((w64 ((w64 (s3.2.1 + 1)) + 1)) + 1)) x11.A x11.B)) (Int.toNat s3.1) (Description.mk x13.Kind x13.Count x13.Unit x13.Direction x12 x13.B))) (f := eDescription) (x := (Description.mk x15.Kind x15.Count x15.Unit x15.Direction x15.A x14)) (z := x15) (ti := ti9) (e := 80) (ts := [.str x14]) (vs := [vs x14]) (v := vs x14) tbok rfl rfl hx15) ?_
  refine SRun.nx ?_
  refine swp_reg ?_
  refine SRun.ck tbok 3 ⟨58, [(0, .own 1000000), (1, vi (w64 ((w64 ((w64 ((w64 ((w64 ((w64 (s3.2.1 + 1)) + 1)) + 1)) + 1)) + 1)) + 1))), (5, vi s3.1)], [(1000000, oa 80 6 eDescription (List.set (List.set (List.set (List.set (List.set (List.set s3.2.2 (Int.toNat s3.1) (Description.mk s3.2.1 x7.Count x7.Unit x7.Direction x7.A x7.B)) (Int.toNat s3.1) (Description.mk x8.Kind (w64 (s3.2.1 + 1)) x8.Unit x8.Direction x8.A x8.B)) (Int.toNat s3.1) (Description.mk x10.Kind x10.Count x9 x10.Direction x10.A x10.B)) (Int.toNat s3.1) (Description.mk x11.Kind x11.Count x11.Unit (w64 ((w64 ((w64 (s3.2.1 + 1)) + 1)) + 1)) x11.A x11.B)) (Int.toNat s3.1) (Description.mk x13.Kind x13.Count x13.Unit x13.Direction x12 x13.B)) (Int.toNat s3.1) (Description.mk x15.Kind x15.Count x15.Unit x15.Direction x15.A x14)))]⟩ ?_
  refine SRun.nil ?_
  obtain rfl := inj h
  exact q_bn (q_j (Le.sub0))
  refine swp_reg ?_
  refine SRun.ck tbok 3 ⟨58, [(0, .own 1000000), (1, vi j5.1), (5, vi (w64 (s3.1 + 1)))], [(1000000, oa 80 6 eDescription j5.2)]⟩ ?_
  refine SRun.nil ?_
  obtain rfl := inj h
  exact q_l (Le.sub0)
  refine swp_exit ?_
  obtain rfl := inj h
  exact nx_e (q_re (q_bh (q_j (Le.sub0))))
  refine srk tbok ⟨58, [(4, vi j1.1)], [(1000000, oa 80 6 eDescription j1.2)]⟩ ?_
  refine swp_ret ?_
  obtain rfl := inj h
  exact q_fr (fin_io (f1 fv) (y := oa 80 6 eDescription j1.2) (by kernel_rfl) rfl (by kernel_rfl) (by kernel_rfl))
theorem ents24 : Ents Tryz.prog 24 := ents_of Tryz.func24 (by kernel_rfl) rfl
noncomputable def laws_markAnswerS (aA : (List Answer)) (aK : Int) : Option (Int × (List Answer)) :=
  (((forH (fun (i3 : Int) (s3 : Int × (List Answer)) => (decide (i3 < (s3.2.length : Int)))) (fun (i3 : Int) (s3 : Int × (List Answer)) => ((laws_markText s3.1).bind fun x7 => ((at' s3.2 i3).bind fun x8 => ((at' (List.set s3.2 (Int.toNat i3) (Answer.mk x7 x8.Distance x8.Satisfied)) i3).bind fun x9 => ((at' (List.set (List.set s3.2 (Int.toNat i3) (Answer.mk x7 x8.Distance x8.Satisfied)) (Int.toNat i3) (Answer.mk x9.Code (w64 (s3.1 + 1)) x9.Satisfied)) i3).bind fun x10 => some ((w64 ((w64 ((w64 (s3.1 + 1)) + 1)) + 1)), (List.set (List.set (List.set s3.2 (Int.toNat i3) (Answer.mk x7 x8.Distance x8.Satisfied)) (Int.toNat i3) (Answer.mk x9.Code (w64 (s3.1 + 1)) x9.Satisfied)) (Int.toNat i3) (Answer.mk x10.Code x10.Distance (w64 ((w64 (s3.1 + 1)) + 1)))))))))) (fun (s3 : Int × (List Answer)) => (s3.1, s3.2)) 0 (aK, aA))).bind fun (j1 : Int × (List Answer)) => some (j1.1, j1.2))
theorem laws_markAnswerS_run (aA : (List Answer)) (aK : Int) (r : Int × (List Answer)) (h : laws_markAnswerS aA aK = some r) : SCall Tryz.prog 25 [.o (oa 29 3 eAnswer aA), .v (vi aK)] ⟨[.v (vi r.1)], [(0, oa 29 3 eAnswer r.2)], false⟩ := by
  refine scall_in Tryz.func25 rfl [(.tmp 4)] rfl (fun r => ⟨[.v (vi r.1)], [(0, oa 29 3 eAnswer r.2)], false⟩) (r := r) ?_
  unfold laws_markAnswerS at h
  refine srk tbok ⟨35, [(0, .own 1000000), (1, vi aK)], [(1000000, oa 29 3 eAnswer aA)]⟩ ?_
  refine swp_seq ?_
  refine srk tbok ⟨35, [(0, .own 1000000), (1, vi aK), (5, vi 0)], [(1000000, oa 29 3 eAnswer aA)]⟩ ?_
  refine swp_seqJ h (fun j1 => ⟨35, [(1, vi j1.1)], [(1000000, oa 29 3 eAnswer j1.2)]⟩) (fun v2 h => ?_) (fun j1 h => ?_)
  refine swp_blk (a := v2) ?_
  refine swp_lpL (r := v2) (s := (0, aK, aA)) _ (fun s3 => ⟨35, [(0, .own 1000000), (1, vi s3.2.1), (5, vi s3.1)], [(1000000, oa 29 3 eAnswer s3.2.2)]⟩) _ (Le.sub0) h (fun s3 v4 h => ?_)
  refine swp_seq ?_
  refine srk tbok ⟨35, [(0, .own 1000000), (1, vi s3.2.1), (5, vi s3.1), (9, vb (decide (s3.1 < (s3.2.2.length : Int))))], [(1000000, oa 29 3 eAnswer s3.2.2)]⟩ ?_
  refine swp_cd h (fun h => ?_) fun h => ?_
  refine swp_skip ?_
  refine nx_n ?_
  refine swp_seq ?_
  refine swp_seqJ h (fun j5 => ⟨35, [(0, .own 1000000), (1, vi j5.1), (5, vi s3.1)], [(1000000, oa 29 3 eAnswer j5.2)]⟩) (fun v6 h => ?_) (fun j5 h => ?_)
  refine swp_blk (a := v6) ?_
  refine sr ?_
  refine SRun.ck tbok 3 ⟨35, [(0, .own 1000000), (1, vi s3.2.1), (5, vi s3.1), (12, .own 1000000), (13, vi s3.1), (14, vi s3.2.1)], [(1000000, oa 29 3 eAnswer s3.2.2)]⟩ ?_
  obtain ⟨x7, hx7, h⟩ := bind_some h
  refine SRun.ls (xc ents52 (laws_markText_run s3.2.1 _ hx7)) ?_
  obtain ⟨x8, hx8, h⟩ := bind_some h
  refine SRun.ls (x_index_own (d := 1000000) (L := s3.2.2) (f := eAnswer) (ti := ti43) (tj := ti29) (e := 29) (e' := 29) (m := 3) (k := .i64) tbok rfl hx8) ?_
  refine SRun.ck tbok 1 ⟨35, [(0, .own 1000000), (1, vi s3.2.1), (5, vi s3.1), (15, vs x7), (17, .eref 1000000 3 (Int.toNat s3.1) 0)], [(1000000, oa 29 3 eAnswer s3.2.2)]⟩ ?_
  refine SRun.estep (x_store_own (d := 1000000) (m := 3) (j := 0) (L := s3.2.2) (f := eAnswer) (x := (Answer.mk x7 x8.Distance x8.Satisfied)) (z := x8) (ti := ti9) (e := 29) (ts := [.str x7]) (vs := [vs x7]) (v := vs x7) tbok rfl rfl hx8) ?_
  refine SRun.nx ?_
  refine srk tbok ⟨35, [(0, .own 1000000), (1, vi (w64 (s3.2.1 + 1))), (5, vi s3.1)], [(1000000, oa 29 3 eAnswer (List.set s3.2.2 (Int.toNat s3.1) (Answer.mk x7 x8.Distance x8.Satisfied)))]⟩ ?_
  refine sr ?_
  refine SRun.ck tbok 3 ⟨35, [(0, .own 1000000), (1, vi (w64 (s3.2.1 + 1))), (5, vi s3.1), (20, .own 1000000), (21, vi s3.1), (22, vi (w64 (s3.2.1 + 1)))], [(1000000, oa 29 3 eAnswer (List.set s3.2.2 (Int.toNat s3.1) (Answer.mk x7 x8.Distance x8.Satisfied)))]⟩ ?_
  obtain ⟨x9, hx9, h⟩ := bind_some h
  refine SRun.ls (x_index_own (d := 1000000) (L := (List.set s3.2.2 (Int.toNat s3.1) (Answer.mk x7 x8.Distance x8.Satisfied))) (f := eAnswer) (ti := ti43) (tj := ti29) (e := 29) (e' := 29) (m := 3) (k := .i64) tbok rfl hx9) ?_
  refine SRun.ck tbok 1 ⟨35, [(0, .own 1000000), (1, vi (w64 (s3.2.1 + 1))), (5, vi s3.1), (22, vi (w64 (s3.2.1 + 1))), (24, .eref 1000000 3 (Int.toNat s3.1) 1)], [(1000000, oa 29 3 eAnswer (List.set s3.2.2 (Int.toNat s3.1) (Answer.mk x7 x8.Distance x8.Satisfied)))]⟩ ?_
  refine SRun.estep (x_store_own (d := 1000000) (m := 3) (j := 1) (L := (List.set s3.2.2 (Int.toNat s3.1) (Answer.mk x7 x8.Distance x8.Satisfied))) (f := eAnswer) (x := (Answer.mk x9.Code (w64 (s3.2.1 + 1)) x9.Satisfied)) (z := x9) (ti := ti2) (e := 29) (ts := [.int .i64 (w64 (s3.2.1 + 1))]) (vs := [vi (w64 (s3.2.1 + 1))]) (v := vi (w64 (s3.2.1 + 1))) tbok rfl rfl hx9) ?_
  refine SRun.nx ?_
  refine srk tbok ⟨35, [(0, .own 1000000), (1, vi (w64 ((w64 (s3.2.1 + 1)) + 1))), (5, vi s3.1)], [(1000000, oa 29 3 eAnswer (List.set (List.set s3.2.2 (Int.toNat s3.1) (Answer.mk x7 x8.Distance x8.Satisfied)) (Int.toNat s3.1) (Answer.mk x9.Code (w64 (s3.2.1 + 1)) x9.Satisfied)))]⟩ ?_
  refine sr ?_
  refine SRun.ck tbok 3 ⟨35, [(0, .own 1000000), (1, vi (w64 ((w64 (s3.2.1 + 1)) + 1))), (5, vi s3.1), (27, .own 1000000), (28, vi s3.1), (29, vi (w64 ((w64 (s3.2.1 + 1)) + 1)))], [(1000000, oa 29 3 eAnswer (List.set (List.set s3.2.2 (Int.toNat s3.1) (Answer.mk x7 x8.Distance x8.Satisfied)) (Int.toNat s3.1) (Answer.mk x9.Code (w64 (s3.2.1 + 1)) x9.Satisfied)))]⟩ ?_
  obtain ⟨x10, hx10, h⟩ := bind_some h
  refine SRun.ls (x_index_own (d := 1000000) (L := (List.set (List.set s3.2.2 (Int.toNat s3.1) (Answer.mk x7 x8.Distance x8.Satisfied)) (Int.toNat s3.1) (Answer.mk x9.Code (w64 (s3.2.1 + 1)) x9.Satisfied))) (f := eAnswer) (ti := ti43) (tj := ti29) (e := 29) (e' := 29) (m := 3) (k := .i64) tbok rfl hx10) ?_
  refine SRun.ck tbok 1 ⟨35, [(0, .own 1000000), (1, vi (w64 ((w64 (s3.2.1 + 1)) + 1))), (5, vi s3.1), (29, vi (w64 ((w64 (s3.2.1 + 1)) + 1))), (31, .eref 1000000 3 (Int.toNat s3.1) 2)], [(1000000, oa 29 3 eAnswer (List.set (List.set s3.2.2 (Int.toNat s3.1) (Answer.mk x7 x8.Distance x8.Satisfied)) (Int.toNat s3.1) (Answer.mk x9.Code (w64 (s3.2.1 + 1)) x9.Satisfied)))]⟩ ?_
  refine SRun.estep (x_store_own (d := 1000000) (m := 3) (j := 2) (L := (List.set (List.set s3.2.2 (Int.toNat s3.1) (Answer.mk x7 x8.Distance x8.Satisfied)) (Int.toNat s3.1) (Answer.mk x9.Code (w64 (s3.2.1 + 1)) x9.Satisfied))) (f := eAnswer) (x := (Answer.mk x10.Code x10.Distance (w64 ((w64 (s3.2.1 + 1)) + 1)))) (z := x10) (ti := ti2) (e := 29) (ts := [.int .i64 (w64 ((w64 (s3.2.1 + 1)) + 1))]) (vs := [vi (w64 ((w64 (s3.2.1 + 1)) + 1))]) (v := vi (w64 ((w64 (s3.2.1 + 1)) + 1))) tbok rfl rfl hx10) ?_
  refine SRun.nx ?_
  refine swp_reg ?_
  refine SRun.ck tbok 3 ⟨35, [(0, .own 1000000), (1, vi (w64 ((w64 ((w64 (s3.2.1 + 1)) + 1)) + 1))), (5, vi s3.1)], [(1000000, oa 29 3 eAnswer (List.set (List.set (List.set s3.2.2 (Int.toNat s3.1) (Answer.mk x7 x8.Distance x8.Satisfied)) (Int.toNat s3.1) (Answer.mk x9.Code (w64 (s3.2.1 + 1)) x9.Satisfied)) (Int.toNat s3.1) (Answer.mk x10.Code x10.Distance (w64 ((w64 (s3.2.1 + 1)) + 1)))))]⟩ ?_
  refine SRun.nil ?_
  obtain rfl := inj h
  exact q_bn (q_j (Le.sub0))
  refine swp_reg ?_
  refine SRun.ck tbok 3 ⟨35, [(0, .own 1000000), (1, vi j5.1), (5, vi (w64 (s3.1 + 1)))], [(1000000, oa 29 3 eAnswer j5.2)]⟩ ?_
  refine SRun.nil ?_
  obtain rfl := inj h
  exact q_l (Le.sub0)
  refine swp_exit ?_
  obtain rfl := inj h
  exact nx_e (q_re (q_bh (q_j (Le.sub0))))
  refine srk tbok ⟨35, [(4, vi j1.1)], [(1000000, oa 29 3 eAnswer j1.2)]⟩ ?_
  refine swp_ret ?_
  obtain rfl := inj h
  exact q_fr (fin_io (f1 fv) (y := oa 29 3 eAnswer j1.2) (by kernel_rfl) rfl (by kernel_rfl) (by kernel_rfl))
theorem ents25 : Ents Tryz.prog 25 := ents_of Tryz.func25 (by kernel_rfl) rfl
noncomputable def laws_heldAnswerS (aA : (List Answer)) (aK : Int) : Option (Int) :=
  (((forN (aA.length : Int) (fun (i3 : Int) (s3 : Int) => ((at' aA i3).bind fun x7 => ((laws_markText s3).bind fun x8 => (bif (!(x7.Code.toList == x8.toList)) then some (.inr (.inr (-1))) else ((at' aA i3).bind fun x9 => (bif (x9.Distance != (w64 (s3 + 1))) then some (.inr (.inr (-1))) else ((at' aA i3).bind fun x10 => (bif (x10.Satisfied != (w64 ((w64 (s3 + 1)) + 1))) then some (.inr (.inr (-1))) else some (.inl (w64 ((w64 ((w64 (s3 + 1)) + 1)) + 1))))))))))) (fun (s3 : Int) => .inl s3) 0 aK)).bind (Sum.elim (fun (j1 : Int) => some j1) some))
theorem laws_heldAnswerS_run (aA : (List Answer)) (aK : Int) (r : Int) (h : laws_heldAnswerS aA aK = some r) : SCall Tryz.prog 26 [.v (vl eAnswer aA), .v (vi aK)] ⟨[.v (vi r)], [], false⟩ := by
  refine scall_in Tryz.func26 rfl [(.tmp 4)] rfl (fun r => ⟨[.v (vi r)], [], false⟩) (r := r) ?_
  unfold laws_heldAnswerS at h
  refine srk tbok ⟨41, [(0, vl eAnswer aA), (1, vi aK)], []⟩ ?_
  refine swp_seq ?_
  refine srk tbok ⟨41, [(0, vl eAnswer aA), (1, vi aK), (5, vi 0)], []⟩ ?_
  refine swp_seqE (r := r) h (fun j1 => ⟨41, [(1, vi j1)], []⟩) (fun v2 h => ?_) (fun j1 h => ?_)
  refine swp_blk (a := v2) ?_
  refine swp_lpL (r := v2) (s := (0, aK)) _ (fun s3 => ⟨41, [(0, vl eAnswer aA), (1, vi s3.2), (5, vi s3.1)], []⟩) _ (Le.sub0) h (fun s3 v4 h => ?_)
  refine swp_seq ?_
  refine srk tbok ⟨41, [(0, vl eAnswer aA), (1, vi s3.2), (5, vi s3.1), (9, vb (decide (s3.1 < (aA.length : Int))))], []⟩ ?_
  refine swp_cd h (fun h => ?_) fun h => ?_
  refine swp_skip ?_
  refine nx_n ?_
  refine swp_seq ?_
  refine swp_seqL (r := v4) h (fun j5 => ⟨41, [(0, vl eAnswer aA), (1, vi j5), (5, vi s3.1)], []⟩) (fun v6 h => ?_) (fun j5 h => ?_)
  refine swp_blk (a := v6) ?_
  refine swp_seq ?_
  refine swp_seq ?_
  refine swp_dr mixed ?_
  refine DGo.ck tbok false 2 ⟨41, [(0, vl eAnswer aA), (1, vi s3.2), (5, vi s3.1), (12, vl eAnswer aA), (13, vi s3.1)], []⟩ ?_
  obtain ⟨x7, hx7, h⟩ := bind_some h
  refine DGo.step (x_index (L := aA) (f := eAnswer) (ti := ti43) (tj := ti29) (e := 29) (k := .i64) tbok rfl hx7) ?_
  refine DGo.ck tbok false 3 ⟨41, [(0, vl eAnswer aA), (1, vi s3.2), (5, vi s3.1), (16, vs x7.Code), (17, vi s3.2)], []⟩ ?_
  obtain ⟨x8, hx8, h⟩ := bind_some h
  refine DGo.step (xc ents52 (laws_markText_run s3.2 _ hx8)) ?_
  refine DGo.ck tbok false 1 ⟨41, [(0, vl eAnswer aA), (1, vi s3.2), (5, vi s3.1), (19, vb (!(x7.Code.toList == x8.toList)))], []⟩ ?_
  refine DGo.nx ?_
  refine swp_cd h (fun h => ?_) fun h => ?_
  refine srk tbok ⟨41, [(4, vi (-1))], []⟩ ?_
  refine swp_ret ?_
  obtain rfl := inj h
  exact nx_r (q_br (q_rr (q_rr (q_br (q_rr (q_fr (f1 fv)))))))
  refine swp_skip ?_
  refine nx_n ?_
  refine srk tbok ⟨41, [(0, vl eAnswer aA), (1, vi (w64 (s3.2 + 1))), (5, vi s3.1)], []⟩ ?_
  refine swp_seq ?_
  refine sr ?_
  refine SRun.ck tbok 2 ⟨41, [(0, vl eAnswer aA), (1, vi (w64 (s3.2 + 1))), (5, vi s3.1), (22, vl eAnswer aA), (23, vi s3.1)], []⟩ ?_
  obtain ⟨x9, hx9, h⟩ := bind_some h
  refine SRun.ls (x_index (L := aA) (f := eAnswer) (ti := ti43) (tj := ti29) (e := 29) (k := .i64) tbok rfl hx9) ?_
  refine ckn tbok 4 ⟨41, [(0, vl eAnswer aA), (1, vi (w64 (s3.2 + 1))), (5, vi s3.1), (28, vb (x9.Distance != (w64 (s3.2 + 1))))], []⟩ ?_
  refine swp_cd h (fun h => ?_) fun h => ?_
  refine srk tbok ⟨41, [(4, vi (-1))], []⟩ ?_
  refine swp_ret ?_
  obtain rfl := inj h
  exact nx_r (q_br (q_rr (q_rr (q_br (q_rr (q_fr (f1 fv)))))))
  refine swp_skip ?_
  refine nx_n ?_
  refine srk tbok ⟨41, [(0, vl eAnswer aA), (1, vi (w64 ((w64 (s3.2 + 1)) + 1))), (5, vi s3.1)], []⟩ ?_
  refine swp_seq ?_
  refine sr ?_
  refine SRun.ck tbok 2 ⟨41, [(0, vl eAnswer aA), (1, vi (w64 ((w64 (s3.2 + 1)) + 1))), (5, vi s3.1), (31, vl eAnswer aA), (32, vi s3.1)], []⟩ ?_
  obtain ⟨x10, hx10, h⟩ := bind_some h
  refine SRun.ls (x_index (L := aA) (f := eAnswer) (ti := ti43) (tj := ti29) (e := 29) (k := .i64) tbok rfl hx10) ?_
  refine ckn tbok 4 ⟨41, [(0, vl eAnswer aA), (1, vi (w64 ((w64 (s3.2 + 1)) + 1))), (5, vi s3.1), (37, vb (x10.Satisfied != (w64 ((w64 (s3.2 + 1)) + 1))))], []⟩ ?_
  refine swp_cd h (fun h => ?_) fun h => ?_
  refine srk tbok ⟨41, [(4, vi (-1))], []⟩ ?_
  refine swp_ret ?_
  obtain rfl := inj h
  exact nx_r (q_br (q_rr (q_rr (q_br (q_rr (q_fr (f1 fv)))))))
  refine swp_skip ?_
  refine nx_n ?_
  refine swp_reg ?_
  refine SRun.ck tbok 3 ⟨41, [(0, vl eAnswer aA), (1, vi (w64 ((w64 ((w64 (s3.2 + 1)) + 1)) + 1))), (5, vi s3.1)], []⟩ ?_
  refine SRun.nil ?_
  obtain rfl := inj h
  exact q_bn (q_l (Le.sub0))
  refine swp_reg ?_
  refine SRun.ck tbok 3 ⟨41, [(0, vl eAnswer aA), (1, vi j5), (5, vi (w64 (s3.1 + 1)))], []⟩ ?_
  refine SRun.nil ?_
  obtain rfl := inj h
  exact q_l (Le.sub0)
  refine swp_exit ?_
  obtain rfl := inj h
  exact nx_e (q_re (q_bh (q_l (Le.sub0))))
  refine srk tbok ⟨41, [(4, vi j1)], []⟩ ?_
  refine swp_ret ?_
  obtain rfl := inj h
  exact q_fr (f1 fv)
theorem ents26 : Ents Tryz.prog 26 := ents_of Tryz.func26 (by kernel_rfl) rfl
noncomputable def laws_FnExactAnswersOf (aAList : (List Candidate)) (aAText : ByteArray) (aASites : (List Site)) (aADescriptions : (List Description)) : Option (Bool) :=
  (bif (decide ((aAText.size : Int) > 1048576)) then some true else ((laws_szCandidateS aAList 1048576).bind fun x1 => (bif (decide (x1 < 0)) then some true else ((laws_szSiteS aASites x1).bind fun x2 => (bif (decide (x2 < 0)) then some true else ((laws_szDescriptionS aADescriptions x2).bind fun x3 => (bif (decide (x3 < 0)) then some true else ((laws_toCandidateS aAList).bind fun x4 => ((laws_toSiteS aASites).bind fun x5 => ((laws_toDescriptionS aADescriptions).bind fun x6 => ((spec_AnswersOf x4 aAText x5 x6).bind fun x7 => ((laws_toCandidateS aAList).bind fun x8 => ((laws_toSiteS aASites).bind fun x9 => ((laws_toDescriptionS aADescriptions).bind fun x10 => ((impl_AnswersOf x8 aAText x9 x10).bind fun x11 => ((((laws_eqAnswerS x11.1 x7.1).bind fun x12 => (bif (!x12) then some true else some (x11.2 != x7.2)))).bind fun (j13 : Bool) => (bif j13 then some false else ((laws_toCandidateS aAList).bind fun x15 => ((laws_eqCandidateS x8 x15).bind fun x16 => (bif (!x16) then some false else ((laws_toSiteS aASites).bind fun x17 => ((laws_eqSiteS x9 x17).bind fun x18 => (bif (!x18) then some false else ((laws_toDescriptionS aADescriptions).bind fun x19 => ((laws_eqDescriptionS x10 x19).bind fun x20 => (bif (!x20) then some false else ((laws_markCandidateS x8 1).bind fun x21 => ((laws_markSiteS x9 x21.1).bind fun x22 => ((laws_markDescriptionS x10 x22.1).bind fun x23 => (((bif (decide (x23.1 < 0)) then some true else ((laws_eqAnswerS x11.1 x7.1).bind fun x24 => (bif (!x24) then some true else some (x11.2 != x7.2))))).bind fun (j25 : Bool) => (bif j25 then some false else ((laws_markAnswerS x11.1 1).bind fun x27 => ((laws_heldAnswerS x27.2 1).bind fun x28 => (bif (decide (x28 < 0)) then some false else (bif (x28 != x27.1) then some false else ((laws_toCandidateS aAList).bind fun x29 => ((laws_toSiteS aASites).bind fun x30 => ((laws_toDescriptionS aADescriptions).bind fun x31 => ((impl_AnswersOf x29 aAText x30 x31).bind fun x32 => ((((laws_eqAnswerS x32.1 x7.1).bind fun x33 => (bif (!x33) then some true else some (x32.2 != x7.2)))).bind fun (j34 : Bool) => (bif j34 then some false else ((laws_heldAnswerS x27.2 1).bind fun x36 => (bif (decide (x36 < 0)) then some false else (bif (x36 != x27.1) then some false else some true))))))))))))))))))))))))))))))))))))))))))))
theorem laws_FnExactAnswersOf_run (aAList : (List Candidate)) (aAText : ByteArray) (aASites : (List Site)) (aADescriptions : (List Description)) (r : Bool) (h : laws_FnExactAnswersOf aAList aAText aASites aADescriptions = some r) : SCall Tryz.prog 4 [.v (vl eCandidate aAList), .v (vs aAText), .v (vl eSite aASites), .v (vl eDescription aADescriptions)] ⟨[.v (vb r)], [], false⟩ := by
  refine scall_in Tryz.func4 rfl [(.tmp 8)] rfl (fun r => ⟨[.v (vb r)], [], false⟩) (r := r) ?_
  unfold laws_FnExactAnswersOf at h
  refine srk tbok ⟨150, [(0, vl eCandidate aAList), (1, vs aAText), (2, vl eSite aASites), (3, vl eDescription aADescriptions)], []⟩ ?_
  refine swp_seq ?_
  refine srk tbok ⟨150, [(0, vl eCandidate aAList), (1, vs aAText), (2, vl eSite aASites), (3, vl eDescription aADescriptions), (24, vb (decide ((aAText.size : Int) > 1048576)))], []⟩ ?_
  refine swp_cd h (fun h => ?_) fun h => ?_
  refine srk tbok ⟨150, [(8, vb true)], []⟩ ?_
  refine swp_ret ?_
  obtain rfl := inj h
  exact nx_r (q_fr (f1 fv))
  refine swp_skip ?_
  refine nx_n ?_
  refine srk tbok ⟨150, [(0, vl eCandidate aAList), (1, vs aAText), (2, vl eSite aASites), (3, vl eDescription aADescriptions), (9, vi 1048576)], []⟩ ?_
  refine sr ?_
  refine SRun.ck tbok 2 ⟨150, [(0, vl eCandidate aAList), (1, vs aAText), (2, vl eSite aASites), (3, vl eDescription aADescriptions), (25, vl eCandidate aAList), (26, vi 1048576)], []⟩ ?_
  obtain ⟨x1, hx1, h⟩ := bind_some h
  refine SRun.ls (xc ents7 (laws_szCandidateS_run aAList 1048576 _ hx1)) ?_
  refine ckn tbok 1 ⟨150, [(0, vl eCandidate aAList), (1, vs aAText), (2, vl eSite aASites), (3, vl eDescription aADescriptions), (9, vi x1)], []⟩ ?_
  refine swp_seq ?_
  refine srk tbok ⟨150, [(0, vl eCandidate aAList), (1, vs aAText), (2, vl eSite aASites), (3, vl eDescription aADescriptions), (9, vi x1), (29, vb (decide (x1 < 0)))], []⟩ ?_
  refine swp_cd h (fun h => ?_) fun h => ?_
  refine srk tbok ⟨150, [(8, vb true)], []⟩ ?_
  refine swp_ret ?_
  obtain rfl := inj h
  exact nx_r (q_fr (f1 fv))
  refine swp_skip ?_
  refine nx_n ?_
  refine sr ?_
  refine SRun.ck tbok 2 ⟨150, [(0, vl eCandidate aAList), (1, vs aAText), (2, vl eSite aASites), (3, vl eDescription aADescriptions), (30, vl eSite aASites), (31, vi x1)], []⟩ ?_
  obtain ⟨x2, hx2, h⟩ := bind_some h
  refine SRun.ls (xc ents8 (laws_szSiteS_run aASites x1 _ hx2)) ?_
  refine ckn tbok 1 ⟨150, [(0, vl eCandidate aAList), (1, vs aAText), (2, vl eSite aASites), (3, vl eDescription aADescriptions), (9, vi x2)], []⟩ ?_
  refine swp_seq ?_
  refine srk tbok ⟨150, [(0, vl eCandidate aAList), (1, vs aAText), (2, vl eSite aASites), (3, vl eDescription aADescriptions), (9, vi x2), (34, vb (decide (x2 < 0)))], []⟩ ?_
  refine swp_cd h (fun h => ?_) fun h => ?_
  refine srk tbok ⟨150, [(8, vb true)], []⟩ ?_
  refine swp_ret ?_
  obtain rfl := inj h
  exact nx_r (q_fr (f1 fv))
  refine swp_skip ?_
  refine nx_n ?_
  refine sr ?_
  refine SRun.ck tbok 2 ⟨150, [(0, vl eCandidate aAList), (1, vs aAText), (2, vl eSite aASites), (3, vl eDescription aADescriptions), (35, vl eDescription aADescriptions), (36, vi x2)], []⟩ ?_
  obtain ⟨x3, hx3, h⟩ := bind_some h
  refine SRun.ls (xc ents9 (laws_szDescriptionS_run aADescriptions x2 _ hx3)) ?_
  refine ckn tbok 1 ⟨150, [(0, vl eCandidate aAList), (1, vs aAText), (2, vl eSite aASites), (3, vl eDescription aADescriptions), (9, vi x3)], []⟩ ?_
  refine swp_seq ?_
  refine srk tbok ⟨150, [(0, vl eCandidate aAList), (1, vs aAText), (2, vl eSite aASites), (3, vl eDescription aADescriptions), (39, vb (decide (x3 < 0)))], []⟩ ?_
  refine swp_cd h (fun h => ?_) fun h => ?_
  refine srk tbok ⟨150, [(8, vb true)], []⟩ ?_
  refine swp_ret ?_
  obtain rfl := inj h
  exact nx_r (q_fr (f1 fv))
  refine swp_skip ?_
  refine nx_n ?_
  refine sr ?_
  refine SRun.ck tbok 1 ⟨150, [(0, vl eCandidate aAList), (1, vs aAText), (2, vl eSite aASites), (3, vl eDescription aADescriptions), (41, vl eCandidate aAList)], []⟩ ?_
  obtain ⟨x4, hx4, h⟩ := bind_some h
  refine SRun.ls (xc ents11 (laws_toCandidateS_run aAList _ hx4)) ?_
  refine SRun.ck tbok 2 ⟨150, [(0, vl eCandidate aAList), (1, vs aAText), (2, vl eSite aASites), (3, vl eDescription aADescriptions), (42, .own 42), (43, vs aAText), (44, vl eSite aASites)], [(42, oa 74 4 eCandidate x4)]⟩ ?_
  obtain ⟨x5, hx5, h⟩ := bind_some h
  refine SRun.ls (xc ents12 (laws_toSiteS_run aASites _ hx5)) ?_
  refine SRun.ck tbok 1 ⟨150, [(0, vl eCandidate aAList), (1, vs aAText), (2, vl eSite aASites), (3, vl eDescription aADescriptions), (42, .own 42), (43, vs aAText), (45, .own 45), (46, vl eDescription aADescriptions)], [(42, oa 74 4 eCandidate x4), (45, oa 78 3 eSite x5)]⟩ ?_
  obtain ⟨x6, hx6, h⟩ := bind_some h
  refine SRun.ls (xc ents13 (laws_toDescriptionS_run aADescriptions _ hx6)) ?_
  obtain ⟨x7, hx7, h⟩ := bind_some h
  refine SRun.ls (xc ents19 (spec_AnswersOf_run x4 aAText x5 x6 _ hx7)) ?_
  refine ckn tbok 5 ⟨150, [(0, vl eCandidate aAList), (1, vs aAText), (2, vl eSite aASites), (3, vl eDescription aADescriptions), (10, .own 48), (11, vi x7.2)], [(48, oa 29 3 eAnswer x7.1)]⟩ ?_
  refine sr ?_
  refine SRun.ck tbok 1 ⟨150, [(0, vl eCandidate aAList), (1, vs aAText), (2, vl eSite aASites), (3, vl eDescription aADescriptions), (10, .own 48), (11, vi x7.2), (51, vl eCandidate aAList)], [(48, oa 29 3 eAnswer x7.1)]⟩ ?_
  obtain ⟨x8, hx8, h⟩ := bind_some h
  refine SRun.ls (xc ents11 (laws_toCandidateS_run aAList _ hx8)) ?_
  refine ckn tbok 1 ⟨150, [(0, vl eCandidate aAList), (1, vs aAText), (2, vl eSite aASites), (3, vl eDescription aADescriptions), (10, .own 48), (11, vi x7.2), (12, .own 52)], [(48, oa 29 3 eAnswer x7.1), (52, oa 74 4 eCandidate x8)]⟩ ?_
  refine sr ?_
  refine SRun.ck tbok 1 ⟨150, [(0, vl eCandidate aAList), (1, vs aAText), (2, vl eSite aASites), (3, vl eDescription aADescriptions), (10, .own 48), (11, vi x7.2), (12, .own 52), (53, vl eSite aASites)], [(48, oa 29 3 eAnswer x7.1), (52, oa 74 4 eCandidate x8)]⟩ ?_
  obtain ⟨x9, hx9, h⟩ := bind_some h
  refine SRun.ls (xc ents12 (laws_toSiteS_run aASites _ hx9)) ?_
  refine ckn tbok 1 ⟨150, [(0, vl eCandidate aAList), (1, vs aAText), (2, vl eSite aASites), (3, vl eDescription aADescriptions), (10, .own 48), (11, vi x7.2), (12, .own 52), (13, .own 54)], [(48, oa 29 3 eAnswer x7.1), (52, oa 74 4 eCandidate x8), (54, oa 78 3 eSite x9)]⟩ ?_
  refine sr ?_
  refine SRun.ck tbok 1 ⟨150, [(0, vl eCandidate aAList), (1, vs aAText), (2, vl eSite aASites), (3, vl eDescription aADescriptions), (10, .own 48), (11, vi x7.2), (12, .own 52), (13, .own 54), (55, vl eDescription aADescriptions)], [(48, oa 29 3 eAnswer x7.1), (52, oa 74 4 eCandidate x8), (54, oa 78 3 eSite x9)]⟩ ?_
  obtain ⟨x10, hx10, h⟩ := bind_some h
  refine SRun.ls (xc ents13 (laws_toDescriptionS_run aADescriptions _ hx10)) ?_
  refine ckn tbok 1 ⟨150, [(0, vl eCandidate aAList), (1, vs aAText), (2, vl eSite aASites), (3, vl eDescription aADescriptions), (10, .own 48), (11, vi x7.2), (12, .own 52), (13, .own 54), (14, .own 56)], [(48, oa 29 3 eAnswer x7.1), (52, oa 74 4 eCandidate x8), (54, oa 78 3 eSite x9), (56, oa 80 6 eDescription x10)]⟩ ?_
  refine sr ?_
  refine SRun.ck tbok 4 ⟨150, [(0, vl eCandidate aAList), (1, vs aAText), (2, vl eSite aASites), (3, vl eDescription aADescriptions), (10, .own 48), (11, vi x7.2), (12, .own 52), (13, .own 54), (14, .own 56), (58, .own 52), (59, vs aAText), (60, .own 54), (61, .own 56)], [(48, oa 29 3 eAnswer x7.1), (52, oa 74 4 eCandidate x8), (54, oa 78 3 eSite x9), (56, oa 80 6 eDescription x10)]⟩ ?_
  obtain ⟨x11, hx11, h⟩ := bind_some h
  refine SRun.ls (xc ents20 (impl_AnswersOf_run x8 aAText x9 x10 _ hx11)) ?_
  refine ckn tbok 5 ⟨150, [(0, vl eCandidate aAList), (1, vs aAText), (2, vl eSite aASites), (3, vl eDescription aADescriptions), (10, .own 48), (11, vi x7.2), (12, .own 52), (13, .own 54), (14, .own 56), (15, .own 62), (16, vi x11.2)], [(48, oa 29 3 eAnswer x7.1), (52, oa 74 4 eCandidate x8), (54, oa 78 3 eSite x9), (56, oa 80 6 eDescription x10), (62, oa 29 3 eAnswer x11.1)]⟩ ?_
  refine swp_seq ?_
  refine swp_seq ?_
  refine swp_regJ h (fun j13 => ⟨150, [(0, vl eCandidate aAList), (1, vs aAText), (2, vl eSite aASites), (3, vl eDescription aADescriptions), (10, .own 10), (11, vi x7.2), (12, .own 12), (13, .own 13), (14, .own 14), (15, .own 15), (16, vi x11.2), (73, vb j13)], [(10, oa 29 3 eAnswer x7.1), (12, oa 74 4 eCandidate x8), (13, oa 78 3 eSite x9), (14, oa 80 6 eDescription x10), (15, oa 29 3 eAnswer x11.1)]⟩) (fun v14 h => ?_) (fun j13 h => ?_)
  refine SRun.ck tbok 2 ⟨150, [(0, vl eCandidate aAList), (1, vs aAText), (2, vl eSite aASites), (3, vl eDescription aADescriptions), (10, .own 48), (11, vi x7.2), (12, .own 52), (13, .own 54), (14, .own 56), (15, .own 62), (16, vi x11.2), (65, .own 62), (66, .own 48)], [(48, oa 29 3 eAnswer x7.1), (52, oa 74 4 eCandidate x8), (54, oa 78 3 eSite x9), (56, oa 80 6 eDescription x10), (62, oa 29 3 eAnswer x11.1)]⟩ ?_
  obtain ⟨x12, hx12, h⟩ := bind_some h
  refine SRun.ls (xc ents21 (laws_eqAnswerS_run x11.1 x7.1 _ hx12)) ?_
  refine SRun.ck tbok 2 ⟨150, [(0, vl eCandidate aAList), (1, vs aAText), (2, vl eSite aASites), (3, vl eDescription aADescriptions), (10, .own 48), (11, vi x7.2), (12, .own 52), (13, .own 54), (14, .own 56), (15, .own 62), (16, vi x11.2), (69, vb (!x12))], [(48, oa 29 3 eAnswer x7.1), (52, oa 74 4 eCandidate x8), (54, oa 78 3 eSite x9), (56, oa 80 6 eDescription x10), (62, oa 29 3 eAnswer x11.1)]⟩ ?_
  refine SRun.cu [(69, fun b => b)] h (fun h => ?_) fun h => ?_
  refine SRun.ck tbok 4 ⟨150, [(0, vl eCandidate aAList), (1, vs aAText), (2, vl eSite aASites), (3, vl eDescription aADescriptions), (10, .own 48), (11, vi x7.2), (12, .own 52), (13, .own 54), (14, .own 56), (15, .own 62), (16, vi x11.2), (73, vb true)], [(48, oa 29 3 eAnswer x7.1), (52, oa 74 4 eCandidate x8), (54, oa 78 3 eSite x9), (56, oa 80 6 eDescription x10), (62, oa 29 3 eAnswer x11.1)]⟩ ?_
  refine SRun.nil ?_
  obtain rfl := inj h
  exact (Le.sub' ([(0, vl eCandidate aAList), (1, vs aAText), (2, vl eSite aASites), (3, vl eDescription aADescriptions), (10, .own 48), (11, vi x7.2), (12, .own 52), (13, .own 54), (14, .own 56), (15, .own 62), (16, vi x11.2), (73, vb true)] : List (Nat × SV)) ([(48, oa 29 3 eAnswer x7.1), (52, oa 74 4 eCandidate x8), (54, oa 78 3 eSite x9), (56, oa 80 6 eDescription x10), (62, oa 29 3 eAnswer x11.1)] : List (Nat × SO)) (by kernel_rfl) (by kernel_rfl)).trans ((Le.ren' (d := 48) (e := 10) (by kernel_rfl) (by kernel_rfl) (by kernel_rfl)).trans ((Le.ren' (d := 52) (e := 12) (by kernel_rfl) (by kernel_rfl) (by kernel_rfl)).trans ((Le.ren' (d := 54) (e := 13) (by kernel_rfl) (by kernel_rfl) (by kernel_rfl)).trans ((Le.ren' (d := 56) (e := 14) (by kernel_rfl) (by kernel_rfl) (by kernel_rfl)).trans ((Le.ren' (d := 62) (e := 15) (by kernel_rfl) (by kernel_rfl) (by kernel_rfl)).trans (Le.sub0))))))
  refine SRun.ck tbok 4 ⟨150, [(0, vl eCandidate aAList), (1, vs aAText), (2, vl eSite aASites), (3, vl eDescription aADescriptions), (10, .own 48), (11, vi x7.2), (12, .own 52), (13, .own 54), (14, .own 56), (15, .own 62), (16, vi x11.2), (73, vb (x11.2 != x7.2))], [(48, oa 29 3 eAnswer x7.1), (52, oa 74 4 eCandidate x8), (54, oa 78 3 eSite x9), (56, oa 80 6 eDescription x10), (62, oa 29 3 eAnswer x11.1)]⟩ ?_
  refine SRun.nil ?_
  obtain rfl := inj h
  exact (Le.sub' ([(0, vl eCandidate aAList), (1, vs aAText), (2, vl eSite aASites), (3, vl eDescription aADescriptions), (10, .own 48), (11, vi x7.2), (12, .own 52), (13, .own 54), (14, .own 56), (15, .own 62), (16, vi x11.2), (73, vb (x11.2 != x7.2))] : List (Nat × SV)) ([(48, oa 29 3 eAnswer x7.1), (52, oa 74 4 eCandidate x8), (54, oa 78 3 eSite x9), (56, oa 80 6 eDescription x10), (62, oa 29 3 eAnswer x11.1)] : List (Nat × SO)) (by kernel_rfl) (by kernel_rfl)).trans ((Le.ren' (d := 48) (e := 10) (by kernel_rfl) (by kernel_rfl) (by kernel_rfl)).trans ((Le.ren' (d := 52) (e := 12) (by kernel_rfl) (by kernel_rfl) (by kernel_rfl)).trans ((Le.ren' (d := 54) (e := 13) (by kernel_rfl) (by kernel_rfl) (by kernel_rfl)).trans ((Le.ren' (d := 56) (e := 14) (by kernel_rfl) (by kernel_rfl) (by kernel_rfl)).trans ((Le.ren' (d := 62) (e := 15) (by kernel_rfl) (by kernel_rfl) (by kernel_rfl)).trans (Le.sub0))))))
  refine swp_cd h (fun h => ?_) fun h => ?_
  refine srk tbok ⟨150, [(8, vb false)], []⟩ ?_
  refine swp_ret ?_
  obtain rfl := inj h
  exact nx_r (q_fr (f1 fv))
  refine swp_skip ?_
  refine nx_n ?_
  refine swp_seq ?_
  refine sr ?_
  refine SRun.ck tbok 2 ⟨150, [(0, vl eCandidate aAList), (1, vs aAText), (2, vl eSite aASites), (3, vl eDescription aADescriptions), (10, .own 10), (11, vi x7.2), (12, .own 12), (13, .own 13), (14, .own 14), (15, .own 15), (16, vi x11.2), (74, .own 12), (75, vl eCandidate aAList)], [(10, oa 29 3 eAnswer x7.1), (12, oa 74 4 eCandidate x8), (13, oa 78 3 eSite x9), (14, oa 80 6 eDescription x10), (15, oa 29 3 eAnswer x11.1)]⟩ ?_
  obtain ⟨x15, hx15, h⟩ := bind_some h
  refine SRun.ls (xc ents11 (laws_toCandidateS_run aAList _ hx15)) ?_
  obtain ⟨x16, hx16, h⟩ := bind_some h
  refine SRun.ls (xc ents16 (laws_eqCandidateS_run x8 x15 _ hx16)) ?_
  refine ckn tbok 1 ⟨150, [(0, vl eCandidate aAList), (1, vs aAText), (2, vl eSite aASites), (3, vl eDescription aADescriptions), (10, .own 10), (11, vi x7.2), (12, .own 12), (13, .own 13), (14, .own 14), (15, .own 15), (16, vi x11.2), (78, vb (!x16))], [(10, oa 29 3 eAnswer x7.1), (12, oa 74 4 eCandidate x8), (13, oa 78 3 eSite x9), (14, oa 80 6 eDescription x10), (15, oa 29 3 eAnswer x11.1)]⟩ ?_
  refine swp_cd h (fun h => ?_) fun h => ?_
  refine srk tbok ⟨150, [(8, vb false)], []⟩ ?_
  refine swp_ret ?_
  obtain rfl := inj h
  exact nx_r (q_fr (f1 fv))
  refine swp_skip ?_
  refine nx_n ?_
  refine swp_seq ?_
  refine sr ?_
  refine SRun.ck tbok 2 ⟨150, [(0, vl eCandidate aAList), (1, vs aAText), (2, vl eSite aASites), (3, vl eDescription aADescriptions), (10, .own 10), (11, vi x7.2), (12, .own 12), (13, .own 13), (14, .own 14), (15, .own 15), (16, vi x11.2), (79, .own 13), (80, vl eSite aASites)], [(10, oa 29 3 eAnswer x7.1), (12, oa 74 4 eCandidate x8), (13, oa 78 3 eSite x9), (14, oa 80 6 eDescription x10), (15, oa 29 3 eAnswer x11.1)]⟩ ?_
  obtain ⟨x17, hx17, h⟩ := bind_some h
  refine SRun.ls (xc ents12 (laws_toSiteS_run aASites _ hx17)) ?_
  obtain ⟨x18, hx18, h⟩ := bind_some h
  refine SRun.ls (xc ents17 (laws_eqSiteS_run x9 x17 _ hx18)) ?_
  refine ckn tbok 1 ⟨150, [(0, vl eCandidate aAList), (1, vs aAText), (2, vl eSite aASites), (3, vl eDescription aADescriptions), (10, .own 10), (11, vi x7.2), (12, .own 12), (13, .own 13), (14, .own 14), (15, .own 15), (16, vi x11.2), (83, vb (!x18))], [(10, oa 29 3 eAnswer x7.1), (12, oa 74 4 eCandidate x8), (13, oa 78 3 eSite x9), (14, oa 80 6 eDescription x10), (15, oa 29 3 eAnswer x11.1)]⟩ ?_
  refine swp_cd h (fun h => ?_) fun h => ?_
  refine srk tbok ⟨150, [(8, vb false)], []⟩ ?_
  refine swp_ret ?_
  obtain rfl := inj h
  exact nx_r (q_fr (f1 fv))
  refine swp_skip ?_
  refine nx_n ?_
  refine swp_seq ?_
  refine sr ?_
  refine SRun.ck tbok 2 ⟨150, [(0, vl eCandidate aAList), (1, vs aAText), (2, vl eSite aASites), (3, vl eDescription aADescriptions), (10, .own 10), (11, vi x7.2), (12, .own 12), (13, .own 13), (14, .own 14), (15, .own 15), (16, vi x11.2), (84, .own 14), (85, vl eDescription aADescriptions)], [(10, oa 29 3 eAnswer x7.1), (12, oa 74 4 eCandidate x8), (13, oa 78 3 eSite x9), (14, oa 80 6 eDescription x10), (15, oa 29 3 eAnswer x11.1)]⟩ ?_
  obtain ⟨x19, hx19, h⟩ := bind_some h
  refine SRun.ls (xc ents13 (laws_toDescriptionS_run aADescriptions _ hx19)) ?_
  obtain ⟨x20, hx20, h⟩ := bind_some h
  refine SRun.ls (xc ents18 (laws_eqDescriptionS_run x10 x19 _ hx20)) ?_
  refine ckn tbok 1 ⟨150, [(0, vl eCandidate aAList), (1, vs aAText), (2, vl eSite aASites), (3, vl eDescription aADescriptions), (10, .own 10), (11, vi x7.2), (12, .own 12), (13, .own 13), (14, .own 14), (15, .own 15), (16, vi x11.2), (88, vb (!x20))], [(10, oa 29 3 eAnswer x7.1), (12, oa 74 4 eCandidate x8), (13, oa 78 3 eSite x9), (14, oa 80 6 eDescription x10), (15, oa 29 3 eAnswer x11.1)]⟩ ?_
  refine swp_cd h (fun h => ?_) fun h => ?_
  refine srk tbok ⟨150, [(8, vb false)], []⟩ ?_
  refine swp_ret ?_
  obtain rfl := inj h
  exact nx_r (q_fr (f1 fv))
  refine swp_skip ?_
  refine nx_n ?_
  refine srk tbok ⟨150, [(0, vl eCandidate aAList), (1, vs aAText), (2, vl eSite aASites), (3, vl eDescription aADescriptions), (10, .own 10), (11, vi x7.2), (12, .own 12), (13, .own 13), (14, .own 14), (15, .own 15), (16, vi x11.2), (17, vi 1)], [(10, oa 29 3 eAnswer x7.1), (12, oa 74 4 eCandidate x8), (13, oa 78 3 eSite x9), (14, oa 80 6 eDescription x10), (15, oa 29 3 eAnswer x11.1)]⟩ ?_
  refine sr ?_
  refine SRun.ck tbok 2 ⟨150, [(0, vl eCandidate aAList), (1, vs aAText), (2, vl eSite aASites), (3, vl eDescription aADescriptions), (10, .own 10), (11, vi x7.2), (13, .own 13), (14, .own 14), (15, .own 15), (16, vi x11.2), (89, .own 12), (90, vi 1)], [(10, oa 29 3 eAnswer x7.1), (12, oa 74 4 eCandidate x8), (13, oa 78 3 eSite x9), (14, oa 80 6 eDescription x10), (15, oa 29 3 eAnswer x11.1)]⟩ ?_
  obtain ⟨x21, hx21, h⟩ := bind_some h
  refine SRun.estep (xe ents22 (laws_markCandidateS_run x8 1 _ hx21)) ?_
  refine ckn tbok 1 ⟨150, [(0, vl eCandidate aAList), (1, vs aAText), (2, vl eSite aASites), (3, vl eDescription aADescriptions), (10, .own 10), (11, vi x7.2), (13, .own 13), (14, .own 14), (15, .own 15), (16, vi x11.2), (17, vi x21.1)], [(10, oa 29 3 eAnswer x7.1), (13, oa 78 3 eSite x9), (14, oa 80 6 eDescription x10), (15, oa 29 3 eAnswer x11.1)]⟩ ?_
  refine sr ?_
  refine SRun.ck tbok 2 ⟨150, [(0, vl eCandidate aAList), (1, vs aAText), (2, vl eSite aASites), (3, vl eDescription aADescriptions), (10, .own 10), (11, vi x7.2), (14, .own 14), (15, .own 15), (16, vi x11.2), (92, .own 13), (93, vi x21.1)], [(10, oa 29 3 eAnswer x7.1), (13, oa 78 3 eSite x9), (14, oa 80 6 eDescription x10), (15, oa 29 3 eAnswer x11.1)]⟩ ?_
  obtain ⟨x22, hx22, h⟩ := bind_some h
  refine SRun.estep (xe ents23 (laws_markSiteS_run x9 x21.1 _ hx22)) ?_
  refine ckn tbok 1 ⟨150, [(0, vl eCandidate aAList), (1, vs aAText), (2, vl eSite aASites), (3, vl eDescription aADescriptions), (10, .own 10), (11, vi x7.2), (14, .own 14), (15, .own 15), (16, vi x11.2), (17, vi x22.1)], [(10, oa 29 3 eAnswer x7.1), (14, oa 80 6 eDescription x10), (15, oa 29 3 eAnswer x11.1)]⟩ ?_
  refine sr ?_
  refine SRun.ck tbok 2 ⟨150, [(0, vl eCandidate aAList), (1, vs aAText), (2, vl eSite aASites), (3, vl eDescription aADescriptions), (10, .own 10), (11, vi x7.2), (15, .own 15), (16, vi x11.2), (95, .own 14), (96, vi x22.1)], [(10, oa 29 3 eAnswer x7.1), (14, oa 80 6 eDescription x10), (15, oa 29 3 eAnswer x11.1)]⟩ ?_
  obtain ⟨x23, hx23, h⟩ := bind_some h
  refine SRun.estep (xe ents24 (laws_markDescriptionS_run x10 x22.1 _ hx23)) ?_
  refine ckn tbok 1 ⟨150, [(0, vl eCandidate aAList), (1, vs aAText), (2, vl eSite aASites), (3, vl eDescription aADescriptions), (10, .own 10), (11, vi x7.2), (15, .own 15), (16, vi x11.2), (17, vi x23.1)], [(10, oa 29 3 eAnswer x7.1), (15, oa 29 3 eAnswer x11.1)]⟩ ?_
  refine swp_seq ?_
  refine swp_seq ?_
  refine swp_regJ h (fun j25 => ⟨150, [(0, vl eCandidate aAList), (1, vs aAText), (2, vl eSite aASites), (3, vl eDescription aADescriptions), (10, .own 10), (11, vi x7.2), (15, .own 15), (110, vb j25)], [(10, oa 29 3 eAnswer x7.1), (15, oa 29 3 eAnswer x11.1)]⟩) (fun v26 h => ?_) (fun j25 h => ?_)
  refine SRun.ck tbok 3 ⟨150, [(0, vl eCandidate aAList), (1, vs aAText), (2, vl eSite aASites), (3, vl eDescription aADescriptions), (10, .own 10), (11, vi x7.2), (15, .own 15), (16, vi x11.2), (100, vb (decide (x23.1 < 0)))], [(10, oa 29 3 eAnswer x7.1), (15, oa 29 3 eAnswer x11.1)]⟩ ?_
  refine SRun.cu [(100, fun b => b)] h (fun h => ?_) fun h => ?_
  refine SRun.ck tbok 10 ⟨150, [(0, vl eCandidate aAList), (1, vs aAText), (2, vl eSite aASites), (3, vl eDescription aADescriptions), (10, .own 10), (11, vi x7.2), (15, .own 15), (110, vb true)], [(10, oa 29 3 eAnswer x7.1), (15, oa 29 3 eAnswer x11.1)]⟩ ?_
  refine SRun.nil ?_
  obtain rfl := inj h
  exact Le.sub0
  refine SRun.ck tbok 2 ⟨150, [(0, vl eCandidate aAList), (1, vs aAText), (2, vl eSite aASites), (3, vl eDescription aADescriptions), (10, .own 10), (11, vi x7.2), (15, .own 15), (16, vi x11.2), (100, vb false), (101, .own 15), (102, .own 10)], [(10, oa 29 3 eAnswer x7.1), (15, oa 29 3 eAnswer x11.1)]⟩ ?_
  obtain ⟨x24, hx24, h⟩ := bind_some h
  refine SRun.ls (xc ents21 (laws_eqAnswerS_run x11.1 x7.1 _ hx24)) ?_
  refine SRun.ck tbok 3 ⟨150, [(0, vl eCandidate aAList), (1, vs aAText), (2, vl eSite aASites), (3, vl eDescription aADescriptions), (10, .own 10), (11, vi x7.2), (15, .own 15), (16, vi x11.2), (106, vb (!x24))], [(10, oa 29 3 eAnswer x7.1), (15, oa 29 3 eAnswer x11.1)]⟩ ?_
  refine SRun.cu [(106, fun b => b)] h (fun h => ?_) fun h => ?_
  refine SRun.ck tbok 4 ⟨150, [(0, vl eCandidate aAList), (1, vs aAText), (2, vl eSite aASites), (3, vl eDescription aADescriptions), (10, .own 10), (11, vi x7.2), (15, .own 15), (110, vb true)], [(10, oa 29 3 eAnswer x7.1), (15, oa 29 3 eAnswer x11.1)]⟩ ?_
  refine SRun.nil ?_
  obtain rfl := inj h
  exact Le.sub0
  refine SRun.ck tbok 4 ⟨150, [(0, vl eCandidate aAList), (1, vs aAText), (2, vl eSite aASites), (3, vl eDescription aADescriptions), (10, .own 10), (11, vi x7.2), (15, .own 15), (110, vb (x11.2 != x7.2))], [(10, oa 29 3 eAnswer x7.1), (15, oa 29 3 eAnswer x11.1)]⟩ ?_
  refine SRun.nil ?_
  obtain rfl := inj h
  exact Le.sub0
  refine swp_cd h (fun h => ?_) fun h => ?_
  refine srk tbok ⟨150, [(8, vb false)], []⟩ ?_
  refine swp_ret ?_
  obtain rfl := inj h
  exact nx_r (q_fr (f1 fv))
  refine swp_skip ?_
  refine nx_n ?_
  refine srk tbok ⟨150, [(0, vl eCandidate aAList), (1, vs aAText), (2, vl eSite aASites), (3, vl eDescription aADescriptions), (10, .own 10), (11, vi x7.2), (15, .own 15), (18, vi 1)], [(10, oa 29 3 eAnswer x7.1), (15, oa 29 3 eAnswer x11.1)]⟩ ?_
  refine sr ?_
  refine SRun.ck tbok 2 ⟨150, [(0, vl eCandidate aAList), (1, vs aAText), (2, vl eSite aASites), (3, vl eDescription aADescriptions), (10, .own 10), (11, vi x7.2), (15, .own 15), (111, .own 15), (112, vi 1)], [(10, oa 29 3 eAnswer x7.1), (15, oa 29 3 eAnswer x11.1)]⟩ ?_
  obtain ⟨x27, hx27, h⟩ := bind_some h
  refine SRun.estep (xe ents25 (laws_markAnswerS_run x11.1 1 _ hx27)) ?_
  refine ckn tbok 1 ⟨150, [(0, vl eCandidate aAList), (1, vs aAText), (2, vl eSite aASites), (3, vl eDescription aADescriptions), (10, .own 10), (11, vi x7.2), (15, .own 15), (18, vi x27.1)], [(10, oa 29 3 eAnswer x7.1), (15, oa 29 3 eAnswer x27.2)]⟩ ?_
  refine srk tbok ⟨150, [(0, vl eCandidate aAList), (1, vs aAText), (2, vl eSite aASites), (3, vl eDescription aADescriptions), (10, .own 10), (11, vi x7.2), (15, .own 15), (18, vi x27.1), (19, vi 1)], [(10, oa 29 3 eAnswer x7.1), (15, oa 29 3 eAnswer x27.2)]⟩ ?_
  refine sr ?_
  refine SRun.ck tbok 2 ⟨150, [(0, vl eCandidate aAList), (1, vs aAText), (2, vl eSite aASites), (3, vl eDescription aADescriptions), (10, .own 10), (11, vi x7.2), (15, .own 15), (18, vi x27.1), (114, .own 15), (115, vi 1)], [(10, oa 29 3 eAnswer x7.1), (15, oa 29 3 eAnswer x27.2)]⟩ ?_
  obtain ⟨x28, hx28, h⟩ := bind_some h
  refine SRun.ls (xc ents26 (laws_heldAnswerS_run x27.2 1 _ hx28)) ?_
  refine ckn tbok 1 ⟨150, [(0, vl eCandidate aAList), (1, vs aAText), (2, vl eSite aASites), (3, vl eDescription aADescriptions), (10, .own 10), (11, vi x7.2), (15, .own 15), (18, vi x27.1), (19, vi x28)], [(10, oa 29 3 eAnswer x7.1), (15, oa 29 3 eAnswer x27.2)]⟩ ?_
  refine swp_seq ?_
  refine srk tbok ⟨150, [(0, vl eCandidate aAList), (1, vs aAText), (2, vl eSite aASites), (3, vl eDescription aADescriptions), (10, .own 10), (11, vi x7.2), (15, .own 15), (18, vi x27.1), (19, vi x28), (118, vb (decide (x28 < 0)))], [(10, oa 29 3 eAnswer x7.1), (15, oa 29 3 eAnswer x27.2)]⟩ ?_
  refine swp_cd h (fun h => ?_) fun h => ?_
  refine srk tbok ⟨150, [(8, vb false)], []⟩ ?_
  refine swp_ret ?_
  obtain rfl := inj h
  exact nx_r (q_fr (f1 fv))
  refine swp_skip ?_
  refine nx_n ?_
  refine swp_seq ?_
  refine srk tbok ⟨150, [(0, vl eCandidate aAList), (1, vs aAText), (2, vl eSite aASites), (3, vl eDescription aADescriptions), (10, .own 10), (11, vi x7.2), (15, .own 15), (18, vi x27.1), (121, vb (x28 != x27.1))], [(10, oa 29 3 eAnswer x7.1), (15, oa 29 3 eAnswer x27.2)]⟩ ?_
  refine swp_cd h (fun h => ?_) fun h => ?_
  refine srk tbok ⟨150, [(8, vb false)], []⟩ ?_
  refine swp_ret ?_
  obtain rfl := inj h
  exact nx_r (q_fr (f1 fv))
  refine swp_skip ?_
  refine nx_n ?_
  refine sr ?_
  refine SRun.ck tbok 1 ⟨150, [(1, vs aAText), (2, vl eSite aASites), (3, vl eDescription aADescriptions), (10, .own 10), (11, vi x7.2), (15, .own 15), (18, vi x27.1), (123, vl eCandidate aAList)], [(10, oa 29 3 eAnswer x7.1), (15, oa 29 3 eAnswer x27.2)]⟩ ?_
  obtain ⟨x29, hx29, h⟩ := bind_some h
  refine SRun.ls (xc ents11 (laws_toCandidateS_run aAList _ hx29)) ?_
  refine SRun.ck tbok 2 ⟨150, [(3, vl eDescription aADescriptions), (10, .own 10), (11, vi x7.2), (15, .own 15), (18, vi x27.1), (124, .own 124), (125, vs aAText), (126, vl eSite aASites)], [(10, oa 29 3 eAnswer x7.1), (15, oa 29 3 eAnswer x27.2), (124, oa 74 4 eCandidate x29)]⟩ ?_
  obtain ⟨x30, hx30, h⟩ := bind_some h
  refine SRun.ls (xc ents12 (laws_toSiteS_run aASites _ hx30)) ?_
  refine SRun.ck tbok 1 ⟨150, [(10, .own 10), (11, vi x7.2), (15, .own 15), (18, vi x27.1), (124, .own 124), (125, vs aAText), (127, .own 127), (128, vl eDescription aADescriptions)], [(10, oa 29 3 eAnswer x7.1), (15, oa 29 3 eAnswer x27.2), (124, oa 74 4 eCandidate x29), (127, oa 78 3 eSite x30)]⟩ ?_
  obtain ⟨x31, hx31, h⟩ := bind_some h
  refine SRun.ls (xc ents13 (laws_toDescriptionS_run aADescriptions _ hx31)) ?_
  obtain ⟨x32, hx32, h⟩ := bind_some h
  refine SRun.ls (xc ents20 (impl_AnswersOf_run x29 aAText x30 x31 _ hx32)) ?_
  refine ckn tbok 5 ⟨150, [(10, .own 10), (11, vi x7.2), (15, .own 15), (18, vi x27.1), (20, .own 130), (21, vi x32.2)], [(10, oa 29 3 eAnswer x7.1), (15, oa 29 3 eAnswer x27.2), (130, oa 29 3 eAnswer x32.1)]⟩ ?_
  refine swp_seq ?_
  refine swp_seq ?_
  refine swp_regJ h (fun j34 => ⟨150, [(15, .own 15), (18, vi x27.1), (141, vb j34)], [(15, oa 29 3 eAnswer x27.2)]⟩) (fun v35 h => ?_) (fun j34 h => ?_)
  refine SRun.ck tbok 2 ⟨150, [(11, vi x7.2), (15, .own 15), (18, vi x27.1), (21, vi x32.2), (133, .own 130), (134, .own 10)], [(10, oa 29 3 eAnswer x7.1), (15, oa 29 3 eAnswer x27.2), (130, oa 29 3 eAnswer x32.1)]⟩ ?_
  obtain ⟨x33, hx33, h⟩ := bind_some h
  refine SRun.ls (xc ents21 (laws_eqAnswerS_run x32.1 x7.1 _ hx33)) ?_
  refine SRun.ck tbok 2 ⟨150, [(11, vi x7.2), (15, .own 15), (18, vi x27.1), (21, vi x32.2), (137, vb (!x33))], [(15, oa 29 3 eAnswer x27.2)]⟩ ?_
  refine SRun.cu [(137, fun b => b)] h (fun h => ?_) fun h => ?_
  refine SRun.ck tbok 4 ⟨150, [(15, .own 15), (18, vi x27.1), (141, vb true)], [(15, oa 29 3 eAnswer x27.2)]⟩ ?_
  refine SRun.nil ?_
  obtain rfl := inj h
  exact Le.sub0
  refine SRun.ck tbok 4 ⟨150, [(15, .own 15), (18, vi x27.1), (141, vb (x32.2 != x7.2))], [(15, oa 29 3 eAnswer x27.2)]⟩ ?_
  refine SRun.nil ?_
  obtain rfl := inj h
  exact Le.sub0
  refine swp_cd h (fun h => ?_) fun h => ?_
  refine srk tbok ⟨150, [(8, vb false)], []⟩ ?_
  refine swp_ret ?_
  obtain rfl := inj h
  exact nx_r (q_fr (f1 fv))
  refine swp_skip ?_
  refine nx_n ?_
  refine srk tbok ⟨150, [(15, .own 15), (18, vi x27.1), (19, vi 1)], [(15, oa 29 3 eAnswer x27.2)]⟩ ?_
  refine sr ?_
  refine SRun.ck tbok 2 ⟨150, [(18, vi x27.1), (142, .own 15), (143, vi 1)], [(15, oa 29 3 eAnswer x27.2)]⟩ ?_
  obtain ⟨x36, hx36, h⟩ := bind_some h
  refine SRun.ls (xc ents26 (laws_heldAnswerS_run x27.2 1 _ hx36)) ?_
  refine ckn tbok 1 ⟨150, [(18, vi x27.1), (19, vi x36)], []⟩ ?_
  refine swp_seq ?_
  refine srk tbok ⟨150, [(18, vi x27.1), (19, vi x36), (146, vb (decide (x36 < 0)))], []⟩ ?_
  refine swp_cd h (fun h => ?_) fun h => ?_
  refine srk tbok ⟨150, [(8, vb false)], []⟩ ?_
  refine swp_ret ?_
  obtain rfl := inj h
  exact nx_r (q_fr (f1 fv))
  refine swp_skip ?_
  refine nx_n ?_
  refine swp_seq ?_
  refine srk tbok ⟨150, [(149, vb (x36 != x27.1))], []⟩ ?_
  refine swp_cd h (fun h => ?_) fun h => ?_
  refine srk tbok ⟨150, [(8, vb false)], []⟩ ?_
  refine swp_ret ?_
  obtain rfl := inj h
  exact nx_r (q_fr (f1 fv))
  refine swp_skip ?_
  refine nx_n ?_
  refine srk tbok ⟨150, [(8, vb true)], []⟩ ?_
  refine swp_ret ?_
  obtain rfl := inj h
  exact q_fr (f1 fv)
end Go.Proofs.YtepmfngpdimkhaaGreatDoor.Sh
