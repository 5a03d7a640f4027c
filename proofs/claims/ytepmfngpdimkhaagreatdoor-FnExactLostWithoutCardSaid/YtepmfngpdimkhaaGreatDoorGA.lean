/- Typed functions and the calls that do what they say. -/
import Derived.Test.YtepmfngpdimkhaaGreatDoorGAp1
import Derived.Test.YtepmfngpdimkhaaGreatDoorKA
import Derived.Test.YtepmfngpdimkhaaGreatDoorKC
import Derived.Test.YtepmfngpdimkhaaGreatDoorKS
import Derived.Test.YtepmfngpdimkhaaGreatDoorSN
import Derived.Test.YtepmfngpdimkhaaGreatDoorH1
namespace Go.Proofs.YtepmfngpdimkhaaGreatDoor.Sh
open Go.RowKit
set_option maxRecDepth 100000
set_option maxHeartbeats 4000000
noncomputable def laws_markText (aK : Int) : Option (ByteArray) :=
  (bif (decide (aK ≤ 0)) then some (ByteArray.mk #[109, 48]) else (((loop (fun (s3 : Int × ByteArray) => (bif (decide (s3.1 > 0)) then ((cat' (strOfNums ([(IntKind.wrap .u8 (w64 (48 + (Int.tmod s3.1 10))))] : List Int)) s3.2).bind fun x5 => some (.inl ((w64 (Int.tdiv s3.1 10)), x5))) else some (.inr s3.2))) (aK, (ByteArray.mk #[])))).bind fun (j1 : ByteArray) => ((cat' (ByteArray.mk #[109]) j1).bind fun x6 => some x6)))
theorem laws_markText_run (aK : Int) (r : ByteArray) (h : laws_markText aK = some r) : SCall Tryz.prog 52 [.v (vi aK)] ⟨[.v (vs r)], [], false⟩ := by
  refine scall_in Tryz.func52 rfl [(.tmp 2)] rfl (fun r => ⟨[.v (vs r)], [], false⟩) (r := r) ?_
  unfold laws_markText at h
  refine srk tbok ⟨20, [(0, vi aK)], []⟩ ?_
  refine swp_seq ?_
  refine srk tbok ⟨20, [(0, vi aK), (5, vb (decide (aK ≤ 0)))], []⟩ ?_
  refine swp_cd h (fun h => ?_) fun h => ?_
  refine srk tbok ⟨20, [(2, vs (ByteArray.mk #[109, 48]))], []⟩ ?_
  refine swp_ret ?_
  obtain rfl := inj h
  exact nx_r (q_fr (f1 fv))
  refine swp_skip ?_
  refine nx_n ?_
  refine srk tbok ⟨20, [(0, vi aK), (3, vs (ByteArray.mk #[]))], []⟩ ?_
  refine swp_seq ?_
  refine swp_seqJ h (fun j1 => ⟨20, [(3, vs j1)], []⟩) (fun v2 h => ?_) (fun j1 h => ?_)
  refine swp_blk (a := v2) ?_
  refine swp_lpL (r := v2) (s := (aK, (ByteArray.mk #[]))) _ (fun s3 => ⟨20, [(0, vi s3.1), (3, vs s3.2)], []⟩) _ (Le.sub0) h (fun s3 v4 h => ?_)
  refine swp_seq ?_
  refine srk tbok ⟨20, [(0, vi s3.1), (3, vs s3.2), (7, vb (decide (s3.1 > 0)))], []⟩ ?_
  refine swp_cd h (fun h => ?_) fun h => ?_
  refine swp_skip ?_
  refine nx_n ?_
  refine swp_blk (a := v4) ?_
  refine sr ?_
  refine SRun.ck tbok 5 ⟨20, [(0, vi s3.1), (3, vs s3.2), (12, .own 12)], [(12, oa 5 1 (eI .u8) ([(IntKind.wrap .u8 (w64 (48 + (Int.tmod s3.1 10))))] : List Int))]⟩ ?_
  refine SRun.ls (x_bytes_own (L := ([(IntKind.wrap .u8 (w64 (48 + (Int.tmod s3.1 10))))] : List Int)) (d := 12) (e' := 5) tbok rfl (e := 5) (ti := ti111) (tj := ti5) (tk := ti9)) ?_
  refine SRun.ck tbok 1 ⟨20, [(0, vi s3.1), (13, vs (strOfNums ([(IntKind.wrap .u8 (w64 (48 + (Int.tmod s3.1 10))))] : List Int))), (14, vs s3.2)], []⟩ ?_
  obtain ⟨x5, hx5, h⟩ := bind_some h
  refine SRun.ls (x_cat hx5 rfl) ?_
  refine ckn tbok 1 ⟨20, [(0, vi s3.1), (3, vs x5)], []⟩ ?_
  refine swp_reg ?_
  refine SRun.ck tbok 3 ⟨20, [(0, vi (w64 (Int.tdiv s3.1 10))), (3, vs x5)], []⟩ ?_
  refine SRun.nil ?_
  obtain rfl := inj h
  exact q_bn (q_l (Le.sub0))
  refine swp_exit ?_
  obtain rfl := inj h
  exact nx_e (q_re (q_bh (q_j (Le.sub0))))
  refine sr ?_
  refine SRun.ck tbok 1 ⟨20, [(18, vs j1)], []⟩ ?_
  obtain ⟨x6, hx6, h⟩ := bind_some h
  refine SRun.ls (x_cat hx6 rfl) ?_
  refine ckn tbok 1 ⟨20, [(2, vs x6)], []⟩ ?_
  refine swp_ret ?_
  obtain rfl := inj h
  exact q_fr (f1 fv)
theorem ents52 : Ents Tryz.prog 52 := ents_of Tryz.func52 (by kernel_rfl) rfl
noncomputable def laws_markCandidateS (aA : (List Candidate)) (aK : Int) : Option (Int × (List Candidate)) :=
  (((forH (fun (i3 : Int) (s3 : Int × (List Candidate)) => (decide (i3 < (s3.2.length : Int)))) (fun (i3 : Int) (s3 : Int × (List Candidate)) => ((laws_markText s3.1).bind fun x7 => ((at' s3.2 i3).bind fun x8 => ((laws_markText (w64 (s3.1 + 1))).bind fun x9 => ((at' (List.set s3.2 (Int.toNat i3) (Candidate.mk x7 x8.Text x8.At)) i3).bind fun x10 => ((at' (List.set (List.set s3.2 (Int.toNat i3) (Candidate.mk x7 x8.Text x8.At)) (Int.toNat i3) (Candidate.mk x10.Code x9 x10.At)) i3).bind fun x11 => ((at' (List.set (List.set (List.set s3.2 (Int.toNat i3) (Candidate.mk x7 x8.Text x8.At)) (Int.toNat i3) (Candidate.mk x10.Code x9 x10.At)) (Int.toNat i3) (Candidate.mk x11.Code x11.Text (Point.mk (w64 ((w64 (s3.1 + 1)) + 1)) x11.At.Y))) i3).bind fun x12 => some ((w64 ((w64 ((w64 ((w64 (s3.1 + 1)) + 1)) + 1)) + 1)), (List.set (List.set (List.set (List.set s3.2 (Int.toNat i3) (Candidate.mk x7 x8.Text x8.At)) (Int.toNat i3) (Candidate.mk x10.Code x9 x10.At)) (Int.toNat i3) (Candidate.mk x11.Code x11.Text (Point.mk (w64 ((w64 (s3.1 + 1)) + 1)) x11.At.Y))) (Int.toNat i3) (Candidate.mk x12.Code x12.Text (Point.mk x12.At.X (w64 ((w64 ((w64 (s3.1 + 1)) + 1)) + 1))))))))))))) (fun (s3 : Int × (List Candidate)) => (s3.1, s3.2)) 0 (aK, aA))).bind fun (j1 : Int × (List Candidate)) => some (j1.1, j1.2))
theorem laws_markCandidateS_run (aA : (List Candidate)) (aK : Int) (r : Int × (List Candidate)) (h : laws_markCandidateS aA aK = some r) : SCall Tryz.prog 22 [.o (oa 74 4 eCandidate aA), .v (vi aK)] ⟨[.v (vi r.1)], [(0, oa 74 4 eCandidate r.2)], false⟩ := by
  refine scall_in Tryz.func22 rfl [(.tmp 4)] rfl (fun r => ⟨[.v (vi r.1)], [(0, oa 74 4 eCandidate r.2)], false⟩) (r := r) ?_
  unfold laws_markCandidateS at h
  refine srk tbok ⟨45, [(0, .own 1000000), (1, vi aK)], [(1000000, oa 74 4 eCandidate aA)]⟩ ?_
  refine swp_seq ?_
  refine srk tbok ⟨45, [(0, .own 1000000), (1, vi aK), (5, vi 0)], [(1000000, oa 74 4 eCandidate aA)]⟩ ?_
  refine swp_seqJ h (fun j1 => ⟨45, [(1, vi j1.1)], [(1000000, oa 74 4 eCandidate j1.2)]⟩) (fun v2 h => ?_) (fun j1 h => ?_)
  refine swp_blk (a := v2) ?_
  refine swp_lpL (r := v2) (s := (0, aK, aA)) _ (fun s3 => ⟨45, [(0, .own 1000000), (1, vi s3.2.1), (5, vi s3.1)], [(1000000, oa 74 4 eCandidate s3.2.2)]⟩) _ (Le.sub0) h (fun s3 v4 h => ?_)
  refine swp_seq ?_
  refine srk tbok ⟨45, [(0, .own 1000000), (1, vi s3.2.1), (5, vi s3.1), (9, vb (decide (s3.1 < (s3.2.2.length : Int))))], [(1000000, oa 74 4 eCandidate s3.2.2)]⟩ ?_
  refine swp_cd h (fun h => ?_) fun h => ?_
  refine swp_skip ?_
  refine nx_n ?_
  refine swp_seq ?_
  refine swp_seqJ h (fun j5 => ⟨45, [(0, .own 1000000), (1, vi j5.1), (5, vi s3.1)], [(1000000, oa 74 4 eCandidate j5.2)]⟩) (fun v6 h => ?_) (fun j5 h => ?_)
  refine swp_blk (a := v6) ?_
  refine sr ?_
  refine SRun.ck tbok 3 ⟨45, [(0, .own 1000000), (1, vi s3.2.1), (5, vi s3.1), (12, .own 1000000), (13, vi s3.1), (14, vi s3.2.1)], [(1000000, oa 74 4 eCandidate s3.2.2)]⟩ ?_
  obtain ⟨x7, hx7, h⟩ := bind_some h
  refine SRun.ls (xc ents52 (laws_markText_run s3.2.1 _ hx7)) ?_
  obtain ⟨x8, hx8, h⟩ := bind_some h
  refine SRun.ls (x_index_own (d := 1000000) (L := s3.2.2) (f := eCandidate) (ti := ti32) (tj := ti74) (e := 74) (e' := 74) (m := 4) (k := .i64) tbok rfl hx8) ?_
  refine SRun.ck tbok 1 ⟨45, [(0, .own 1000000), (1, vi s3.2.1), (5, vi s3.1), (15, vs x7), (17, .eref 1000000 4 (Int.toNat s3.1) 0)], [(1000000, oa 74 4 eCandidate s3.2.2)]⟩ ?_
  refine SRun.estep (x_store_own (d := 1000000) (m := 4) (j := 0) (L := s3.2.2) (f := eCandidate) (x := (Candidate.mk x7 x8.Text x8.At)) (z := x8) (ti := ti9) (e := 74) (ts := [.str x7]) (vs := [vs x7]) (v := vs x7) tbok rfl rfl hx8) ?_
  refine SRun.nx ?_
  refine srk tbok ⟨45, [(0, .own 1000000), (1, vi (w64 (s3.2.1 + 1))), (5, vi s3.1)], [(1000000, oa 74 4 eCandidate (List.set s3.2.2 (Int.toNat s3.1) (Candidate.mk x7 x8.Text x8.At)))]⟩ ?_
  refine sr ?_
  refine SRun.ck tbok 3 ⟨45, [(0, .own 1000000), (1, vi (w64 (s3.2.1 + 1))), (5, vi s3.1), (20, .own 1000000), (21, vi s3.1), (22, vi (w64 (s3.2.1 + 1)))], [(1000000, oa 74 4 eCandidate (List.set s3.2.2 (Int.toNat s3.1) (Candidate.mk x7 x8.Text x8.At)))]⟩ ?_
  obtain ⟨x9, hx9, h⟩ := bind_some h
  refine SRun.ls (xc ents52 (laws_markText_run (w64 (s3.2.1 + 1)) _ hx9)) ?_
  obtain ⟨x10, hx10, h⟩ := bind_some h
  refine SRun.ls (x_index_own (d := 1000000) (L := (List.set s3.2.2 (Int.toNat s3.1) (Candidate.mk x7 x8.Text x8.At))) (f := eCandidate) (ti := ti32) (tj := ti74) (e := 74) (e' := 74) (m := 4) (k := .i64) tbok rfl hx10) ?_
  refine SRun.ck tbok 1 ⟨45, [(0, .own 1000000), (1, vi (w64 (s3.2.1 + 1))), (5, vi s3.1), (23, vs x9), (25, .eref 1000000 4 (Int.toNat s3.1) 1)], [(1000000, oa 74 4 eCandidate (List.set s3.2.2 (Int.toNat s3.1) (Candidate.mk x7 x8.Text x8.At)))]⟩ ?_
  refine SRun.estep (x_store_own (d := 1000000) (m := 4) (j := 1) (L := (List.set s3.2.2 (Int.toNat s3.1) (Candidate.mk x7 x8.Text x8.At))) (f := eCandidate) (x := (Candidate.mk x10.Code x9 x10.At)) (z := x10) (ti := ti9) (e := 74) (ts := [.str x9]) (vs := [vs x9]) (v := vs x9) tbok rfl rfl hx10) ?_
  refine SRun.nx ?_
  refine srk tbok ⟨45, [(0, .own 1000000), (1, vi (w64 ((w64 (s3.2.1 + 1)) + 1))), (5, vi s3.1)], [(1000000, oa 74 4 eCandidate (List.set (List.set s3.2.2 (Int.toNat s3.1) (Candidate.mk x7 x8.Text x8.At)) (Int.toNat s3.1) (Candidate.mk x10.Code x9 x10.At)))]⟩ ?_
  refine sr ?_
  refine SRun.ck tbok 3 ⟨45, [(0, .own 1000000), (1, vi (w64 ((w64 (s3.2.1 + 1)) + 1))), (5, vi s3.1), (28, .own 1000000), (29, vi s3.1), (30, vi (w64 ((w64 (s3.2.1 + 1)) + 1)))], [(1000000, oa 74 4 eCandidate (List.set (List.set s3.2.2 (Int.toNat s3.1) (Candidate.mk x7 x8.Text x8.At)) (Int.toNat s3.1) (Candidate.mk x10.Code x9 x10.At)))]⟩ ?_
  obtain ⟨x11, hx11, h⟩ := bind_some h
  refine SRun.ls (x_index_own (d := 1000000) (L := (List.set (List.set s3.2.2 (Int.toNat s3.1) (Candidate.mk x7 x8.Text x8.At)) (Int.toNat s3.1) (Candidate.mk x10.Code x9 x10.At))) (f := eCandidate) (ti := ti32) (tj := ti74) (e := 74) (e' := 74) (m := 4) (k := .i64) tbok rfl hx11) ?_
  refine SRun.ck tbok 2 ⟨45, [(0, .own 1000000), (1, vi (w64 ((w64 (s3.2.1 + 1)) + 1))), (5, vi s3.1), (30, vi (w64 ((w64 (s3.2.1 + 1)) + 1))), (33, .eref 1000000 4 (Int.toNat s3.1) 2)], [(1000000, oa 74 4 eCandidate (List.set (List.set s3.2.2 (Int.toNat s3.1) (Candidate.mk x7 x8.Text x8.At)) (Int.toNat s3.1) (Candidate.mk x10.Code x9 x10.At)))]⟩ ?_
  refine SRun.estep (x_store_own (d := 1000000) (m := 4) (j := 2) (L := (List.set (List.set s3.2.2 (Int.toNat s3.1) (Candidate.mk x7 x8.Text x8.At)) (Int.toNat s3.1) (Candidate.mk x10.Code x9 x10.At))) (f := eCandidate) (x := (Candidate.mk x11.Code x11.Text (Point.mk (w64 ((w64 (s3.2.1 + 1)) + 1)) x11.At.Y))) (z := x11) (ti := ti2) (e := 74) (ts := [.int .i64 (w64 ((w64 (s3.2.1 + 1)) + 1))]) (vs := [vi (w64 ((w64 (s3.2.1 + 1)) + 1))]) (v := vi (w64 ((w64 (s3.2.1 + 1)) + 1))) tbok rfl rfl hx11) ?_
  refine SRun.nx ?_
  refine srk tbok ⟨45, [(0, .own 1000000), (1, vi (w64 ((w64 ((w64 (s3.2.1 + 1)) + 1)) + 1))), (5, vi s3.1)], [(1000000, oa 74 4 eCandidate (List.set (List.set (List.set s3.2.2 (Int.toNat s3.1) (Candidate.mk x7 x8.Text x8.At)) (Int.toNat s3.1) (Candidate.mk x10.Code x9 x10.At)) (Int.toNat s3.1) (Candidate.mk x11.Code x11.Text (Point.mk (w64 ((w64 (s3.2.1 + 1)) + 1)) x11.At.Y))))]⟩ ?_
  refine sr ?_
  refine SRun.ck tbok 3 ⟨45, [(0, .own 1000000), (1, vi (w64 ((w64 ((w64 (s3.2.1 + 1)) + 1)) + 1))), (5, vi s3.1), (36, .own 1000000), (37, vi s3.1), (38, vi (w64 ((w64 ((w64 (s3.2.1 + 1)) + 1)) + 1)))], [(1000000, oa 74 4 eCandidate (List.set (List.set (List.set s3.2.2 (Int.toNat s3.1) (Candidate.mk x7 x8.Text x8.At)) (Int.toNat s3.1) (Candidate.mk x10.Code x9 x10.At)) (Int.toNat s3.1) (Candidate.mk x11.Code x11.Text (Point.mk (w64 ((w64 (s3.2.1 + 1)) + 1)) x11.At.Y))))]⟩ ?_
  obtain ⟨x12, hx12, h⟩ := bind_some h
  refine SRun.ls (x_index_own (d := 1000000) (L := (List.set (List.set (List.set s3.2.2 (Int.toNat s3.1) (Candidate.mk x7 x8.Text x8.At)) (Int.toNat s3.1) (Candidate.mk x10.Code x9 x10.At)) (Int.toNat s3.1) (Candidate.mk x11.Code x11.Text (Point.mk (w64 ((w64 (s3.2.1 + 1)) + 1)) x11.At.Y)))) (f := eCandidate) (ti := ti32) (tj := ti74) (e := 74) (e' := 74) (m := 4) (k := .i64) tbok rfl hx12) ?_
  refine SRun.ck tbok 2 ⟨45, [(0, .own 1000000), (1, vi (w64 ((w64 ((w64 (s3.2.1 + 1)) + 1)) + 1))), (5, vi s3.1), (38, vi (w64 ((w64 ((w64 (s3.2.1 + 1)) + 1)) + 1))), (41, .eref 1000000 4 (Int.toNat s3.1) 3)], [(1000000, oa 74 4 eCandidate (List.set (List.set (List.set s3.2.2 (Int.toNat s3.1) (Candidate.mk x7 x8.Text x8.At)) (Int.toNat s3.1) (Candidate.mk x10.Code x9 x10.At)) (Int.toNat s3.1) (Candidate.mk x11.Code x11.Text (Point.mk (w64 ((w64 (s3.2.1 + 1)) + 1)) x11.At.Y))))]⟩ ?_
  refine SRun.estep (x_store_own (d := 1000000) (m := 4) (j := 3) (L := (List.set (List.set (List.set s3.2.2 (Int.toNat s3.1) (Candidate.mk x7 x8.Text x8.At)) (Int.toNat s3.1) (Candidate.mk x10.Code x9 x10.At)) (Int.toNat s3.1) (Candidate.mk x11.Code x11.Text (Point.mk (w64 ((w64 (s3.2.1 + 1)) + 1)) x11.At.Y)))) (f := eCandidate) (x := (Candidate.mk x12.Code x12.Text (Point.mk x12.At.X (w64 ((w64 ((w64 (s3.2.1 + 1)) + 1)) + 1))))) (z := x12) (ti := ti2) (e := 74) (ts := [.int .i64 (w64 ((w64 ((w64 (s3.2.1 + 1)) + 1)) + 1))]) (vs := [vi (w64 ((w64 ((w64 (s3.2.1 + 1)) + 1)) + 1))]) (v := vi (w64 ((w64 ((w64 (s3.2.1 + 1)) + 1)) + 1))) tbok rfl rfl hx12) ?_
  refine SRun.nx ?_
  refine swp_reg ?_
  refine SRun.ck tbok 3 ⟨45, [(0, .own 1000000), (1, vi (w64 ((w64 ((w64 ((w64 (s3.2.1 + 1)) + 1)) + 1)) + 1))), (5, vi s3.1)], [(1000000, oa 74 4 eCandidate (List.set (List.set (List.set (List.set s3.2.2 (Int.toNat s3.1) (Candidate.mk x7 x8.Text x8.At)) (Int.toNat s3.1) (Candidate.mk x10.Code x9 x10.At)) (Int.toNat s3.1) (Candidate.mk x11.Code x11.Text (Point.mk (w64 ((w64 (s3.2.1 + 1)) + 1)) x11.At.Y))) (Int.toNat s3.1) (Candidate.mk x12.Code x12.Text (Point.mk x12.At.X (w64 ((w64 ((w64 (s3.2.1 + 1)) + 1)) + 1))))))]⟩ ?_
  refine SRun.nil ?_
  obtain rfl := inj h
  exact q_bn (q_j (Le.sub0))
  refine swp_reg ?_
  refine SRun.ck tbok 3 ⟨45, [(0, .own 1000000), (1, vi j5.1), (5, vi (w64 (s3.1 + 1)))], [(1000000, oa 74 4 eCandidate j5.2)]⟩ ?_
  refine SRun.nil ?_
  obtain rfl := inj h
  exact q_l (Le.sub0)
  refine swp_exit ?_
  obtain rfl := inj h
  exact nx_e (q_re (q_bh (q_j (Le.sub0))))
  refine srk tbok ⟨45, [(4, vi j1.1)], [(1000000, oa 74 4 eCandidate j1.2)]⟩ ?_
  refine swp_ret ?_
  obtain rfl := inj h
  exact q_fr (fin_io (f1 fv) (y := oa 74 4 eCandidate j1.2) (by kernel_rfl) rfl (by kernel_rfl) (by kernel_rfl))
theorem ents22 : Ents Tryz.prog 22 := ents_of Tryz.func22 (by kernel_rfl) rfl
noncomputable def laws_markSiteS (aA : (List Site)) (aK : Int) : Option (Int × (List Site)) :=
  (((forH (fun (i3 : Int) (s3 : Int × (List Site)) => (decide (i3 < (s3.2.length : Int)))) (fun (i3 : Int) (s3 : Int × (List Site)) => ((laws_markText s3.1).bind fun x7 => ((at' s3.2 i3).bind fun x8 => ((at' (List.set s3.2 (Int.toNat i3) (Site.mk x7 x8.At)) i3).bind fun x9 => ((at' (List.set (List.set s3.2 (Int.toNat i3) (Site.mk x7 x8.At)) (Int.toNat i3) (Site.mk x9.Code (Point.mk (w64 (s3.1 + 1)) x9.At.Y))) i3).bind fun x10 => some ((w64 ((w64 ((w64 (s3.1 + 1)) + 1)) + 1)), (List.set (List.set (List.set s3.2 (Int.toNat i3) (Site.mk x7 x8.At)) (Int.toNat i3) (Site.mk x9.Code (Point.mk (w64 (s3.1 + 1)) x9.At.Y))) (Int.toNat i3) (Site.mk x10.Code (Point.mk x10.At.X (w64 ((w64 (s3.1 + 1)) + 1))))))))))) (fun (s3 : Int × (List Site)) => (s3.1, s3.2)) 0 (aK, aA))).bind fun (j1 : Int × (List Site)) => some (j1.1, j1.2))
theorem laws_markSiteS_run (aA : (List Site)) (aK : Int) (r : Int × (List Site)) (h : laws_markSiteS aA aK = some r) : SCall Tryz.prog 23 [.o (oa 78 3 eSite aA), .v (vi aK)] ⟨[.v (vi r.1)], [(0, oa 78 3 eSite r.2)], false⟩ := by
  refine scall_in Tryz.func23 rfl [(.tmp 4)] rfl (fun r => ⟨[.v (vi r.1)], [(0, oa 78 3 eSite r.2)], false⟩) (r := r) ?_
  unfold laws_markSiteS at h
  refine srk tbok ⟨37, [(0, .own 1000000), (1, vi aK)], [(1000000, oa 78 3 eSite aA)]⟩ ?_
  refine swp_seq ?_
  refine srk tbok ⟨37, [(0, .own 1000000), (1, vi aK), (5, vi 0)], [(1000000, oa 78 3 eSite aA)]⟩ ?_
  refine swp_seqJ h (fun j1 => ⟨37, [(1, vi j1.1)], [(1000000, oa 78 3 eSite j1.2)]⟩) (fun v2 h => ?_) (fun j1 h => ?_)
  refine swp_blk (a := v2) ?_
  refine swp_lpL (r := v2) (s := (0, aK, aA)) _ (fun s3 => ⟨37, [(0, .own 1000000), (1, vi s3.2.1), (5, vi s3.1)], [(1000000, oa 78 3 eSite s3.2.2)]⟩) _ (Le.sub0) h (fun s3 v4 h => ?_)
  refine swp_seq ?_
  refine srk tbok ⟨37, [(0, .own 1000000), (1, vi s3.2.1), (5, vi s3.1), (9, vb (decide (s3.1 < (s3.2.2.length : Int))))], [(1000000, oa 78 3 eSite s3.2.2)]⟩ ?_
  refine swp_cd h (fun h => ?_) fun h => ?_
  refine swp_skip ?_
  refine nx_n ?_
  refine swp_seq ?_
  refine swp_seqJ h (fun j5 => ⟨37, [(0, .own 1000000), (1, vi j5.1), (5, vi s3.1)], [(1000000, oa 78 3 eSite j5.2)]⟩) (fun v6 h => ?_) (fun j5 h => ?_)
  refine swp_blk (a := v6) ?_
  refine sr ?_
  refine SRun.ck tbok 3 ⟨37, [(0, .own 1000000), (1, vi s3.2.1), (5, vi s3.1), (12, .own 1000000), (13, vi s3.1), (14, vi s3.2.1)], [(1000000, oa 78 3 eSite s3.2.2)]⟩ ?_
  obtain ⟨x7, hx7, h⟩ := bind_some h
  refine SRun.ls (xc ents52 (laws_markText_run s3.2.1 _ hx7)) ?_
  obtain ⟨x8, hx8, h⟩ := bind_some h
  refine SRun.ls (x_index_own (d := 1000000) (L := s3.2.2) (f := eSite) (ti := ti34) (tj := ti78) (e := 78) (e' := 78) (m := 3) (k := .i64) tbok rfl hx8) ?_
  refine SRun.ck tbok 1 ⟨37, [(0, .own 1000000), (1, vi s3.2.1), (5, vi s3.1), (15, vs x7), (17, .eref 1000000 3 (Int.toNat s3.1) 0)], [(1000000, oa 78 3 eSite s3.2.2)]⟩ ?_
  refine SRun.estep (x_store_own (d := 1000000) (m := 3) (j := 0) (L := s3.2.2) (f := eSite) (x := (Site.mk x7 x8.At)) (z := x8) (ti := ti9) (e := 78) (ts := [.str x7]) (vs := [vs x7]) (v := vs x7) tbok rfl rfl hx8) ?_
  refine SRun.nx ?_
  refine srk tbok ⟨37, [(0, .own 1000000), (1, vi (w64 (s3.2.1 + 1))), (5, vi s3.1)], [(1000000, oa 78 3 eSite (List.set s3.2.2 (Int.toNat s3.1) (Site.mk x7 x8.At)))]⟩ ?_
  refine sr ?_
  refine SRun.ck tbok 3 ⟨37, [(0, .own 1000000), (1, vi (w64 (s3.2.1 + 1))), (5, vi s3.1), (20, .own 1000000), (21, vi s3.1), (22, vi (w64 (s3.2.1 + 1)))], [(1000000, oa 78 3 eSite (List.set s3.2.2 (Int.toNat s3.1) (Site.mk x7 x8.At)))]⟩ ?_
  obtain ⟨x9, hx9, h⟩ := bind_some h
  refine SRun.ls (x_index_own (d := 1000000) (L := (List.set s3.2.2 (Int.toNat s3.1) (Site.mk x7 x8.At))) (f := eSite) (ti := ti34) (tj := ti78) (e := 78) (e' := 78) (m := 3) (k := .i64) tbok rfl hx9) ?_
  refine SRun.ck tbok 2 ⟨37, [(0, .own 1000000), (1, vi (w64 (s3.2.1 + 1))), (5, vi s3.1), (22, vi (w64 (s3.2.1 + 1))), (25, .eref 1000000 3 (Int.toNat s3.1) 1)], [(1000000, oa 78 3 eSite (List.set s3.2.2 (Int.toNat s3.1) (Site.mk x7 x8.At)))]⟩ ?_
  refine SRun.estep (x_store_own (d := 1000000) (m := 3) (j := 1) (L := (List.set s3.2.2 (Int.toNat s3.1) (Site.mk x7 x8.At))) (f := eSite) (x := (Site.mk x9.Code (Point.mk (w64 (s3.2.1 + 1)) x9.At.Y))) (z := x9) (ti := ti2) (e := 78) (ts := [.int .i64 (w64 (s3.2.1 + 1))]) (vs := [vi (w64 (s3.2.1 + 1))]) (v := vi (w64 (s3.2.1 + 1))) tbok rfl rfl hx9) ?_
  refine SRun.nx ?_
  refine srk tbok ⟨37, [(0, .own 1000000), (1, vi (w64 ((w64 (s3.2.1 + 1)) + 1))), (5, vi s3.1)], [(1000000, oa 78 3 eSite (List.set (List.set s3.2.2 (Int.toNat s3.1) (Site.mk x7 x8.At)) (Int.toNat s3.1) (Site.mk x9.Code (Point.mk (w64 (s3.2.1 + 1)) x9.At.Y))))]⟩ ?_
  refine sr ?_
  refine SRun.ck tbok 3 ⟨37, [(0, .own 1000000), (1, vi (w64 ((w64 (s3.2.1 + 1)) + 1))), (5, vi s3.1), (28, .own 1000000), (29, vi s3.1), (30, vi (w64 ((w64 (s3.2.1 + 1)) + 1)))], [(1000000, oa 78 3 eSite (List.set (List.set s3.2.2 (Int.toNat s3.1) (Site.mk x7 x8.At)) (Int.toNat s3.1) (Site.mk x9.Code (Point.mk (w64 (s3.2.1 + 1)) x9.At.Y))))]⟩ ?_
  obtain ⟨x10, hx10, h⟩ := bind_some h
  refine SRun.ls (x_index_own (d := 1000000) (L := (List.set (List.set s3.2.2 (Int.toNat s3.1) (Site.mk x7 x8.At)) (Int.toNat s3.1) (Site.mk x9.Code (Point.mk (w64 (s3.2.1 + 1)) x9.At.Y)))) (f := eSite) (ti := ti34) (tj := ti78) (e := 78) (e' := 78) (m := 3) (k := .i64) tbok rfl hx10) ?_
  refine SRun.ck tbok 2 ⟨37, [(0, .own 1000000), (1, vi (w64 ((w64 (s3.2.1 + 1)) + 1))), (5, vi s3.1), (30, vi (w64 ((w64 (s3.2.1 + 1)) + 1))), (33, .eref 1000000 3 (Int.toNat s3.1) 2)], [(1000000, oa 78 3 eSite (List.set (List.set s3.2.2 (Int.toNat s3.1) (Site.mk x7 x8.At)) (Int.toNat s3.1) (Site.mk x9.Code (Point.mk (w64 (s3.2.1 + 1)) x9.At.Y))))]⟩ ?_
  refine SRun.estep (x_store_own (d := 1000000) (m := 3) (j := 2) (L := (List.set (List.set s3.2.2 (Int.toNat s3.1) (Site.mk x7 x8.At)) (Int.toNat s3.1) (Site.mk x9.Code (Point.mk (w64 (s3.2.1 + 1)) x9.At.Y)))) (f := eSite) (x := (Site.mk x10.Code (Point.mk x10.At.X (w64 ((w64 (s3.2.1 + 1)) + 1))))) (z := x10) (ti := ti2) (e := 78) (ts := [.int .i64 (w64 ((w64 (s3.2.1 + 1)) + 1))]) (vs := [vi (w64 ((w64 (s3.2.1 + 1)) + 1))]) (v := vi (w64 ((w64 (s3.2.1 + 1)) + 1))) tbok rfl rfl hx10) ?_
  refine SRun.nx ?_
  refine swp_reg ?_
  refine SRun.ck tbok 3 ⟨37, [(0, .own 1000000), (1, vi (w64 ((w64 ((w64 (s3.2.1 + 1)) + 1)) + 1))), (5, vi s3.1)], [(1000000, oa 78 3 eSite (List.set (List.set (List.set s3.2.2 (Int.toNat s3.1) (Site.mk x7 x8.At)) (Int.toNat s3.1) (Site.mk x9.Code (Point.mk (w64 (s3.2.1 + 1)) x9.At.Y))) (Int.toNat s3.1) (Site.mk x10.Code (Point.mk x10.At.X (w64 ((w64 (s3.2.1 + 1)) + 1))))))]⟩ ?_
  refine SRun.nil ?_
  obtain rfl := inj h
  exact q_bn (q_j (Le.sub0))
  refine swp_reg ?_
  refine SRun.ck tbok 3 ⟨37, [(0, .own 1000000), (1, vi j5.1), (5, vi (w64 (s3.1 + 1)))], [(1000000, oa 78 3 eSite j5.2)]⟩ ?_
  refine SRun.nil ?_
  obtain rfl := inj h
  exact q_l (Le.sub0)
  refine swp_exit ?_
  obtain rfl := inj h
  exact nx_e (q_re (q_bh (q_j (Le.sub0))))
  refine srk tbok ⟨37, [(4, vi j1.1)], [(1000000, oa 78 3 eSite j1.2)]⟩ ?_
  refine swp_ret ?_
  obtain rfl := inj h
  exact q_fr (fin_io (f1 fv) (y := oa 78 3 eSite j1.2) (by kernel_rfl) rfl (by kernel_rfl) (by kernel_rfl))
theorem ents23 : Ents Tryz.prog 23 := ents_of Tryz.func23 (by kernel_rfl) rfl
noncomputable def laws_markDescriptionS (aA : (List Description)) (aK : Int) : Option (Int × (List Description)) :=
  (((forH (fun (i3 : Int) (s3 : Int × (List Description)) => (decide (i3 < (s3.2.length : Int)))) (fun (i3 : Int) (s3 : Int × (List Description)) => ((at' s3.2 i3).bind fun x7 => ((at' (List.set s3.2 (Int.toNat i3) (Description.mk s3.1 x7.Count x7.Unit x7.Direction x7.A x7.B)) i3).bind fun x8 => ((laws_markText (w64 ((w64 (s3.1 + 1)) + 1))).bind fun x9 => ((at' (List.set (List.set s3.2 (Int.toNat i3) (Description.mk s3.1 x7.Count x7.Unit x7.Direction x7.A x7.B)) (Int.toNat i3) (Description.mk x8.Kind (w64 (s3.1 + 1)) x8.Unit x8.Direction x8.A x8.B)) i3).bind fun x10 => ((at' (List.set (List.set (List.set s3.2 (Int.toNat i3) (Description.mk s3.1 x7.Count x7.Unit x7.Direction x7.A x7.B)) (Int.toNat i3) (Description.mk x8.Kind (w64 (s3.1 + 1)) x8.Unit x8.Direction x8.A x8.B)) (Int.toNat i3) (Description.mk x10.Kind x10.Count x9 x10.Direction x10.A x10.B)) i3).bind fun x11 => ((laws_markText (w64 ((w64 ((w64 ((w64 (s3.1 + 1)) + 1)) + 1)) + 1))).bind fun x12 => ((at' (List.set (List.set (List.set (List.set s3.2 (Int.toNat i3) (Description.mk s3.1 x7.Count x7.Unit x7.Direction x7.A x7.B)) (Int.toNat i3) (Description.mk x8.Kind (w64 (s3.1 + 1)) x8.Unit x8.Direction x8.A x8.B)) (Int.toNat i3) (Description.mk x10.Kind x10.Count x9 x10.Direction x10.A x10.B)) (Int.toNat i3) (Description.mk x11.Kind x11.Count x11.Unit (w64 ((w64 ((w64 (s3.1 + 1)) + 1)) + 1)) x11.A x11.B)) i3).bind fun x13 => ((laws_markText (w64 ((w64 ((w64 ((w64 ((w64 (s3.1 + 1)) + 1)) + 1)) + 1)) + 1))).bind fun x14 => ((at' (List.set (List.set (List.set (List.set (List.set s3.2 (Int.toNat i3) (Description.mk s3.1 x7.Count x7.Unit x7.Direction x7.A x7.B)) (Int.toNat i3) (Description.mk x8.Kind (w64 (s3.1 + 1)) x8.Unit x8.Direction x8.A x8.B)) (Int.toNat i3) (Description.mk x10.Kind x10.Count x9 x10.Direction x10.A x10.B)) (Int.toNat i3) (Description.mk x11.Kind x11.Count x11.Unit (w64 ((w64 ((w64 (s3.1 + 1)) + 1)) + 1)) x11.A x11.B)) (Int.toNat i3) (Description.mk x13.Kind x13.Count x13.Unit x13.Direction x12 x13.B)) i3).bind fun x15 => some ((w64 ((w64 ((w64 ((w64 ((w64 ((w64 (s3.1 + 1)) + 1)) + 1)) + 1)) + 1)) + 1)), (List.set (List.set (List.set (List.set (List.set (List.set s3.2 (Int.toNat i3) (Description.mk s3.1 x7.Count x7.Unit x7.Direction x7.A x7.B)) (Int.toNat i3) (Description.mk x8.Kind (w64 (s3.1 + 1)) x8.Unit x8.Direction x8.A x8.B)) (Int.toNat i3) (Description.mk x10.Kind x10.Count x9 x10.Direction x10.A x10.B)) (Int.toNat i3) (Description.mk x11.Kind x11.Count x11.Unit (w64 ((w64 ((w64 (s3.1 + 1)) + 1)) + 1)) x11.A x11.B)) (Int.toNat i3) (Description.mk x13.Kind x13.Count x13.Unit x13.Direction x12 x13.B)) (Int.toNat i3) (Description.mk x15.Kind x15.Count x15.Unit x15.Direction x15.A x14))))))))))))) (fun (s3 : Int × (List Description)) => (s3.1, s3.2)) 0 (aK, aA))).bind fun (j1 : Int × (List Description)) => some (j1.1, j1.2))
theorem laws_markDescriptionS_run (aA : (List Description)) (aK : Int) (r : Int × (List Description)) (h : laws_markDescriptionS aA aK = some r) : SCall Tryz.prog 24 [.o (oa 80 6 eDescription aA), .v (vi aK)] ⟨[.v (vi r.1)], [(0, oa 80 6 eDescription r.2)], false⟩ := by
  refine scall_in Tryz.func24 rfl [(.tmp 4)] rfl (fun r => ⟨[.v (vi r.1)], [(0, oa 80 6 eDescription r.2)], false⟩) (r := r) ?_
  unfold laws_markDescriptionS at h
  refine srk tbok ⟨58, [(0, .own 1000000), (1, vi aK)], [(1000000, oa 80 6 eDescription aA)]⟩ ?_
  refine swp_seq ?_
  refine srk tbok ⟨58, [(0, .own 1000000), (1, vi aK), (5, vi 0)], [(1000000, oa 80 6 eDescription aA)]⟩ ?_
  refine swp_seqJ h (fun j1 => ⟨58, [(1, vi j1.1)], [(1000000, oa 80 6 eDescription j1.2)]⟩) (fun v2 h => ?_) (fun j1 h => ?_)
  refine swp_blk (a := v2) ?_
  refine swp_lpL (r := v2) (s := (0, aK, aA)) _ (fun s3 => ⟨58, [(0, .own 1000000), (1, vi s3.2.1), (5, vi s3.1)], [(1000000, oa 80 6 eDescription s3.2.2)]⟩) _ (Le.sub0) h (fun s3 v4 h => ?_)
  refine swp_seq ?_
  refine srk tbok ⟨58, [(0, .own 1000000), (1, vi s3.2.1), (5, vi s3.1), (9, vb (decide (s3.1 < (s3.2.2.length : Int))))], [(1000000, oa 80 6 eDescription s3.2.2)]⟩ ?_
  refine swp_cd h (fun h => ?_) fun h => ?_
  refine swp_skip ?_
  refine nx_n ?_
  refine swp_seq ?_
  refine swp_seqJ h (fun j5 => ⟨58, [(0, .own 1000000), (1, vi j5.1), (5, vi s3.1)], [(1000000, oa 80 6 eDescription j5.2)]⟩) (fun v6 h => ?_) (fun j5 h => ?_)
  refine swp_blk (a := v6) ?_
  refine sr ?_
  refine SRun.ck tbok 3 ⟨58, [(0, .own 1000000), (1, vi s3.2.1), (5, vi s3.1), (12, .own 1000000), (13, vi s3.1), (14, vi s3.2.1)], [(1000000, oa 80 6 eDescription s3.2.2)]⟩ ?_
  obtain ⟨x7, hx7, h⟩ := bind_some h
  refine SRun.ls (x_index_own (d := 1000000) (L := s3.2.2) (f := eDescription) (ti := ti36) (tj := ti80) (e := 80) (e' := 80) (m := 6) (k := .i64) tbok rfl hx7) ?_
  refine SRun.ck tbok 1 ⟨58, [(0, .own 1000000), (1, vi s3.2.1), (5, vi s3.1), (14, vi s3.2.1), (16, .eref 1000000 6 (Int.toNat s3.1) 0)], [(1000000, oa 80 6 eDescription s3.2.2)]⟩ ?_
  refine SRun.estep (x_store_own (d := 1000000) (m := 6) (j := 0) (L := s3.2.2) (f := eDescription) (x := (Description.mk s3.2.1 x7.Count x7.Unit x7.Direction x7.A x7.B)) (z := x7) (ti := ti2) (e := 80) (ts := [.int .i64 s3.2.1]) (vs := [vi s3.2.1]) (v := vi s3.2.1) tbok rfl rfl hx7) ?_
  refine SRun.nx ?_
  refine srk tbok ⟨58, [(0, .own 1000000), (1, vi (w64 (s3.2.1 + 1))), (5, vi s3.1)], [(1000000, oa 80 6 eDescription (List.set s3.2.2 (Int.toNat s3.1) (Description.mk s3.2.1 x7.Count x7.Unit x7.Direction x7.A x7.B)))]⟩ ?_
  refine sr ?_
  refine SRun.ck tbok 3 ⟨58, [(0, .own 1000000), (1, vi (w64 (s3.2.1 + 1))), (5, vi s3.1), (19, .own 1000000), (20, vi s3.1), (21, vi (w64 (s3.2.1 + 1)))], [(1000000, oa 80 6 eDescription (List.set s3.2.2 (Int.toNat s3.1) (Description.mk s3.2.1 x7.Count x7.Unit x7.Direction x7.A x7.B)))]⟩ ?_
  obtain ⟨x8, hx8, h⟩ := bind_some h
  refine SRun.ls (x_index_own (d := 1000000) (L := (List.set s3.2.2 (Int.toNat s3.1) (Description.mk s3.2.1 x7.Count x7.Unit x7.Direction x7.A x7.B))) (f := eDescription) (ti := ti36) (tj := ti80) (e := 80) (e' := 80) (m := 6) (k := .i64) tbok rfl hx8) ?_
  refine SRun.ck tbok 1 ⟨58, [(0, .own 1000000), (1, vi (w64 (s3.2.1 + 1))), (5, vi s3.1), (21, vi (w64 (s3.2.1 + 1))), (23, .eref 1000000 6 (Int.toNat s3.1) 1)], [(1000000, oa 80 6 eDescription (List.set s3.2.2 (Int.toNat s3.1) (Description.mk s3.2.1 x7.Count x7.Unit x7.Direction x7.A x7.B)))]⟩ ?_
  refine SRun.estep (x_store_own (d := 1000000) (m := 6) (j := 1) (L := (List.set s3.2.2 (Int.toNat s3.1) (Description.mk s3.2.1 x7.Count x7.Unit x7.Direction x7.A x7.B))) (f := eDescription) (x := (Description.mk x8.Kind (w64 (s3.2.1 + 1)) x8.Unit x8.Direction x8.A x8.B)) (z := x8) (ti := ti2) (e := 80) (ts := [.int .i64 (w64 (s3.2.1 + 1))]) (vs := [vi (w64 (s3.2.1 + 1))]) (v := vi (w64 (s3.2.1 + 1))) tbok rfl rfl hx8) ?_
  refine SRun.nx ?_
  refine srk tbok ⟨58, [(0, .own 1000000), (1, vi (w64 ((w64 (s3.2.1 + 1)) + 1))), (5, vi s3.1)], [(1000000, oa 80 6 eDescription (List.set (List.set s3.2.2 (Int.toNat s3.1) (Description.mk s3.2.1 x7.Count x7.Unit x7.Direction x7.A x7.B)) (Int.toNat s3.1) (Description.mk x8.Kind (w64 (s3.2.1 + 1)) x8.Unit x8.Direction x8.A x8.B)))]⟩ ?_
  refine sr ?_
  refine SRun.ck tbok 3 ⟨58, [(0, .own 1000000), (1, vi (w64 ((w64 (s3.2.1 + 1)) + 1))), (5, vi s3.1), (26, .own 1000000), (27, vi s3.1), (28, vi (w64 ((w64 (s3.2.1 + 1)) + 1)))], [(1000000, oa 80 6 eDescription (List.set (List.set s3.2.2 (Int.toNat s3.1) (Description.mk s3.2.1 x7.Count x7.Unit x7.Direction x7.A x7.B)) (Int.toNat s3.1) (Description.mk x8.Kind (w64 (s3.2.1 + 1)) x8.Unit x8.Direction x8.A x8.B)))]⟩ ?_
  obtain ⟨x9, hx9, h⟩ := bind_some h
  refine SRun.ls (xc ents52 (laws_markText_run (w64 ((w64 (s3.2.1 + 1)) + 1)) _ hx9)) ?_
  obtain ⟨x10, hx10, h⟩ := bind_some h
  refine SRun.ls (x_index_own (d := 1000000) (L := (List.set (List.set s3.2.2 (Int.toNat s3.1) (Description.mk s3.2.1 x7.Count x7.Unit x7.Direction x7.A x7.B)) (Int.toNat s3.1) (Description.mk x8.Kind (w64 (s3.2.1 + 1)) x8.Unit x8.Direction x8.A x8.B))) (f := eDescription) (ti := ti36) (tj := ti80) (e := 80) (e' := 80) (m := 6) (k := .i64) tbok rfl hx10) ?_
  refine SRun.ck tbok 1 ⟨58, [(0, .own 1000000), (1, vi (w64 ((w64 (s3.2.1 + 1)) + 1))), (5, vi s3.1), (29, vs x9), (31, .eref 1000000 6 (Int.toNat s3.1) 2)], [(1000000, oa 80 6 eDescription (List.set (List.set s3.2.2 (Int.toNat s3.1) (Description.mk s3.2.1 x7.Count x7.Unit x7.Direction x7.A x7.B)) (Int.toNat s3.1) (Description.mk x8.Kind (w64 (s3.2.1 + 1)) x8.Unit x8.Direction x8.A x8.B)))]⟩ ?_
  refine SRun.estep (x_store_own (d := 1000000) (m := 6) (j := 2) (L := (List.set (List.set s3.2.2 (Int.toNat s3.1) (Description.mk s3.2.1 x7.Count x7.Unit x7.Direction x7.A x7.B)) (Int.toNat s3.1) (Description.mk x8.Kind (w64 (s3.2.1 + 1)) x8.Unit x8.Direction x8.A x8.B))) (f := eDescription) (x := (Description.mk x10.Kind x10.Count x9 x10.Direction x10.A x10.B)) (z := x10) (ti := ti9) (e := 80) (ts := [.str x9]) (vs := [vs x9]) (v := vs x9) tbok rfl rfl hx10) ?_
  refine SRun.nx ?_
  refine srk tbok ⟨58, [(0, .own 1000000), (1, vi (w64 ((w64 ((w64 (s3.2.1 + 1)) + 1)) + 1))), (5, vi s3.1)], [(1000000, oa 80 6 eDescription (List.set (List.set (List.set s3.2.2 (Int.toNat s3.1) (Description.mk s3.2.1 x7.Count x7.Unit x7.Direction x7.A x7.B)) (Int.toNat s3.1) (Description.mk x8.Kind (w64 (s3.2.1 + 1)) x8.Unit x8.Direction x8.A x8.B)) (Int.toNat s3.1) (Description.mk x10.Kind x10.Count x9 x10.Direction x10.A x10.B)))]⟩ ?_
  refine sr ?_
  refine SRun.ck tbok 3 ⟨58, [(0, .own 1000000), (1, vi (w64 ((w64 ((w64 (s3.2.1 + 1)) + 1)) + 1))), (5, vi s3.1), (34, .own 1000000), (35, vi s3.1), (36, vi (w64 ((w64 ((w64 (s3.2.1 + 1)) + 1)) + 1)))], [(1000000, oa 80 6 eDescription (List.set (List.set (List.set s3.2.2 (Int.toNat s3.1) (Description.mk s3.2.1 x7.Count x7.Unit x7.Direction x7.A x7.B)) (Int.toNat s3.1) (Description.mk x8.Kind (w64 (s3.2.1 + 1)) x8.Unit x8.Direction x8.A x8.B)) (Int.toNat s3.1) (Description.mk x10.Kind x10.Count x9 x10.Direction x10.A x10.B)))]⟩ ?_
  obtain ⟨x11, hx11, h⟩ := bind_some h
  refine SRun.ls (x_index_own (d := 1000000) (L := (List.set (List.set (List.set s3.2.2 (Int.toNat s3.1) (Description.mk s3.2.1 x7.Count x7.Unit x7.Direction x7.A x7.B)) (Int.toNat s3.1) (Description.mk x8.Kind (w64 (s3.2.1 + 1)) x8.Unit x8.Direction x8.A x8.B)) (Int.toNat s3.1) (Description.mk x10.Kind x10.Count x9 x10.Direction x10.A x10.B))) (f := eDescription) (ti := ti36) (tj := ti80) (e := 80) (e' := 80) (m := 6) (k := .i64) tbok rfl hx11) ?_
  refine SRun.ck tbok 1 ⟨58, [(0, .own 1000000), (1, vi (w64 ((w64 ((w64 (s3.2.1 + 1)) + 1)) + 1))), (5, vi s3.1), (36, vi (w64 ((w64 ((w64 (s3.2.1 + 1)) + 1)) + 1))), (38, .eref 1000000 6 (Int.toNat s3.1) 3)], [(1000000, oa 80 6 eDescription (List.set (List.set (List.set s3.2.2 (Int.toNat s3.1) (Description.mk s3.2.1 x7.Count x7.Unit x7.Direction x7.A x7.B)) (Int.toNat s3.1) (Description.mk x8.Kind (w64 (s3.2.1 + 1)) x8.Unit x8.Direction x8.A x8.B)) (Int.toNat s3.1) (Description.mk x10.Kind x10.Count x9 x10.Direction x10.A x10.B)))]⟩ ?_
  refine SRun.estep (x_store_own (d := 1000000) (m := 6) (j := 3) (L := (List.set (List.set (List.set s3.2.2 (Int.toNat s3.1) (Description.mk s3.2.1 x7.Count x7.Unit x7.Direction x7.A x7.B)) (Int.toNat s3.1) (Description.mk x8.Kind (w64 (s3.2.1 + 1)) x8.Unit x8.Direction x8.A x8.B)) (Int.toNat s3.1) (Description.mk x10.Kind x10.Count x9 x10.Direction x10.A x10.B))) (f := eDescription) (x := (Description.mk x11.Kind x11.Count x11.Unit (w64 ((w64 ((w64 (s3.2.1 + 1)) + 1)) + 1)) x11.A x11.B)) (z := x11) (ti := ti2) (e := 80) (ts := [.int .i64 (w64 ((w64 ((w64 (s3.2.1 + 1)) + 1)) + 1))]) (vs := [vi (w64 ((w64 ((w64 (s3.2.1 + 1)) + 1)) + 1))]) (v := vi (w64 ((w64 ((w64 (s3.2.1 + 1)) + 1)) + 1))) tbok rfl rfl hx11) ?_
  refine SRun.nx ?_
  refine srk tbok ⟨58, [(0, .own 1000000), (1, vi (w64 ((w64 ((w64 ((w64 (s3.2.1 + 1)) + 1)) + 1)) + 1))), (5, vi s3.1)], [(1000000, oa 80 6 eDescription (List.set (List.set (List.set (List.set s3.2.2 (Int.toNat s3.1) (Description.mk s3.2.1 x7.Count x7.Unit x7.Direction x7.A x7.B)) (Int.toNat s3.1) (Description.mk x8.Kind (w64 (s3.2.1 + 1)) x8.Unit x8.Direction x8.A x8.B)) (Int.toNat s3.1) (Description.mk x10.Kind x10.Count x9 x10.Direction x10.A x10.B)) (Int.toNat s3.1) (Description.mk x11.Kind x11.Count x11.Unit (w64 ((w64 ((w64 (s3.2.1 + 1)) + 1)) + 1)) x11.A x11.B)))]⟩ ?_
  refine sr ?_
  refine SRun.ck tbok 3 ⟨58, [(0, .own 1000000), (1, vi (w64 ((w64 ((w64 ((w64 (s3.2.1 + 1)) + 1)) + 1)) + 1))), (5, vi s3.1), (41, .own 1000000), (42, vi s3.1), (43, vi (w64 ((w64 ((w64 ((w64 (s3.2.1 + 1)) + 1)) + 1)) + 1)))], [(1000000, oa 80 6 eDescription (List.set (List.set (List.set (List.set s3.2.2 (Int.toNat s3.1) (Description.mk s3.2.1 x7.Count x7.Unit x7.Direction x7.A x7.B)) (Int.toNat s3.1) (Description.mk x8.Kind (w64 (s3.2.1 + 1)) x8.Unit x8.Direction x8.A x8.B)) (Int.toNat s3.1) (Description.mk x10.Kind x10.Count x9 x10.Direction x10.A x10.B)) (Int.toNat s3.1) (Description.mk x11.Kind x11.Count x11.Unit (w64 ((w64 ((w64 (s3.2.1 + 1)) + 1)) + 1)) x11.A x11.B)))]⟩ ?_
  obtain ⟨x12, hx12, h⟩ := bind_some h
  refine SRun.ls (xc ents52 (laws_markText_run (w64 ((w64 ((w64 ((w64 (s3.2.1 + 1)) + 1)) + 1)) + 1)) _ hx12)) ?_
  obtain ⟨x13, hx13, h⟩ := bind_some h
  refine SRun.ls (x_index_own (d := 1000000) (L := (List.set (List.set (List.set (List.set s3.2.2 (Int.toNat s3.1) (Description.mk s3.2.1 x7.Count x7.Unit x7.Direction x7.A x7.B)) (Int.toNat s3.1) (Description.mk x8.Kind (w64 (s3.2.1 + 1)) x8.Unit x8.Direction x8.A x8.B)) (Int.toNat s3.1) (Description.mk x10.Kind x10.Count x9 x10.Direction x10.A x10.B)) (Int.toNat s3.1) (Description.mk x11.Kind x11.Count x11.Unit (w64 ((w64 ((w64 (s3.2.1 + 1)) + 1)) + 1)) x11.A x11.B))) (f := eDescription) (ti := ti36) (tj := ti80) (e := 80) (e' := 80) (m := 6) (k := .i64) tbok rfl hx13) ?_
  refine SRun.ck tbok 1 ⟨58, [(0, .own 1000000), (1, vi (w64 ((w64 ((w64 ((w64 (s3.2.1 + 1)) + 1)) + 1)) + 1))), (5, vi s3.1), (44, vs x12), (46, .eref 1000000 6 (Int.toNat s3.1) 4)], [(1000000, oa 80 6 eDescription (List.set (List.set (List.set (List.set s3.2.2 (Int.toNat s3.1) (Description.mk s3.2.1 x7.Count x7.Unit x7.Direction x7.A x7.B)) (Int.toNat s3.1) (Description.mk x8.Kind (w64 (s3.2.1 + 1)) x8.Unit x8.Direction x8.A x8.B)) (Int.toNat s3.1) (Description.mk x10.Kind x10.Count x9 x10.Direction x10.A x10.B)) (Int.toNat s3.1) (Description.mk x11.Kind x11.Count x11.Unit (w64 ((w64 ((w64 (s3.2.1 + 1)) + 1)) + 1)) x11.A x11.B)))]⟩ ?_
  refine SRun.estep (x_store_own (d := 1000000) (m := 6) (j := 4) (L := (List.set (List.set (List.set (List.set s3.2.2 (Int.toNat s3.1) (Description.mk s3.2.1 x7.Count x7.Unit x7.Direction x7.A x7.B)) (Int.toNat s3.1) (Description.mk x8.Kind (w64 (s3.2.1 + 1)) x8.Unit x8.Direction x8.A x8.B)) (Int.toNat s3.1) (Description.mk x10.Kind x10.Count x9 x10.Direction x10.A x10.B)) (Int.toNat s3.1) (Description.mk x11.Kind x11.Count x11.Unit (w64 ((w64 ((w64 (s3.2.1 + 1)) + 1)) + 1)) x11.A x11.B))) (f := eDescription) (x := (Description.mk x13.Kind x13.Count x13.Unit x13.Direction x12 x13.B)) (z := x13) (ti := ti9) (e := 80) (ts := [.str x12]) (vs := [vs x12]) (v := vs x12) tbok rfl rfl hx13) ?_
  refine SRun.nx ?_
  refine srk tbok ⟨58, [(0, .own 1000000), (1, vi (w64 ((w64 ((w64 ((w64 ((w64 (s3.2.1 + 1)) + 1)) + 1)) + 1)) + 1))), (5, vi s3.1)], [(1000000, oa 80 6 eDescription (List.set (List.set (List.set (List.set (List.set s3.2.2 (Int.toNat s3.1) (Description.mk s3.2.1 x7.Count x7.Unit x7.Direction x7.A x7.B)) (Int.toNat s3.1) (Description.mk x8.Kind (w64 (s3.2.1 + 1)) x8.Unit x8.Direction x8.A x8.B)) (Int.toNat s3.1) (Description.mk x10.Kind x10.Count x9 x10.Direction x10.A x10.B)) (Int.toNat s3.1) (Description.mk x11.Kind x11.Count x11.Unit (w64 ((w64 ((w64 (s3.2.1 + 1)) + 1)) + 1)) x11.A x11.B)) (Int.toNat s3.1) (Description.mk x13.Kind x13.Count x13.Unit x13.Direction x12 x13.B)))]⟩ ?_
  refine sr ?_
  refine SRun.ck tbok 3 ⟨58, [(0, .own 1000000), (1, vi (w64 ((w64 ((w64 ((w64 ((w64 (s3.2.1 + 1)) + 1)) + 1)) + 1)) + 1))), (5, vi s3.1), (49, .own 1000000), (50, vi s3.1), (51, vi (w64 ((w64 ((w64 ((w64 ((w64 (s3.2.1 + 1)) + 1)) + 1)) + 1)) + 1)))], [(1000000, oa 80 6 eDescription (List.set (List.set (List.set (List.set (List.set s3.2.2 (Int.toNat s3.1) (Description.mk s3.2.1 x7.Count x7.Unit x7.Direction x7.A x7.B)) (Int.toNat s3.1) (Description.mk x8.Kind (w64 (s3.2.1 + 1)) x8.Unit x8.Direction x8.A x8.B)) (Int.toNat s3.1) (Description.mk x10.Kind x10.Count x9 x10.Direction x10.A x10.B)) (Int.toNat s3.1) (Description.mk x11.Kind x11.Count x11.Unit (w64 ((w64 ((w64 (s3.2.1 + 1)) + 1)) + 1)) x11.A x11.B)) (Int.toNat s3.1) (Description.mk x13.Kind x13.Count x13.Unit x13.Direction x12 x13.B)))]⟩ ?_
  obtain ⟨x14, hx14, h⟩ := bind_some h
  refine SRun.ls (xc ents52 (laws_markText_run (w64 ((w64 ((w64 ((w64 ((w64 (s3.2.1 + 1)) + 1)) + 1)) + 1)) + 1)) _ hx14)) ?_
  obtain ⟨x15, hx15, h⟩ := bind_some h
  refine SRun.ls (x_index_own (d := 1000000) (L := (List.set (List.set (List.set (List.set (List.set s3.2.2 (Int.toNat s3.1) (Description.mk s3.2.1 x7.Count x7.Unit x7.Direction x7.A x7.B)) (Int.toNat s3.1) (Description.mk x8.Kind (w64 (s3.2.1 + 1)) x8.Unit x8.Direction x8.A x8.B)) (Int.toNat s3.1) (Description.mk x10.Kind x10.Count x9 x10.Direction x10.A x10.B)) (Int.toNat s3.1) (Description.mk x11.Kind x11.Count x11.Unit (w64 ((w64 ((w64 (s3.2.1 + 1)) + 1)) + 1)) x11.A x11.B)) (Int.toNat s3.1) (Description.mk x13.Kind x13.Count x13.Unit x13.Direction x12 x13.B))) (f := eDescription) (ti := ti36) (tj := ti80) (e := 80) (e' := 80) (m := 6) (k := .i64) tbok rfl hx15) ?_
  refine SRun.ck tbok 1 ⟨58, [(0, .own 1000000), (1, vi (w64 ((w64 ((w64 ((w64 ((w64 (s3.2.1 + 1)) + 1)) + 1)) + 1)) + 1))), (5, vi s3.1), (52, vs x14), (54, .eref 1000000 6 (Int.toNat s3.1) 5)], [(1000000, oa 80 6 eDescription (List.set (List.set (List.set (List.set (List.set s3.2.2 (Int.toNat s3.1) (Description.mk s3.2.1 x7.Count x7.Unit x7.Direction x7.A x7.B)) (Int.toNat s3.1) (Description.mk x8.Kind (w64 (s3.2.1 + 1)) x8.Unit x8.Direction x8.A x8.B)) (Int.toNat s3.1) (Description.mk x10.Kind x10.Count x9 x10.Direction x10.A x10.B)) (Int.toNat s3.1) (Description.mk x11.Kind x11.Count x11.Unit (w64 ((w64 ((w64 (s3.2.1 + 1)) + 1)) + 1)) x11.A x11.B)) (Int.toNat s3.1) (Description.mk x13.Kind x13.Count x13.Unit x13.Direction x12 x13.B)))]⟩ ?_
  refine SRun.estep (x_store_own (d := 1000000) (m := 6) (j := 5) (L := (List.set (List.set (List.set (List.set (List.set s3.2.2 (Int.toNat s3.1) (Description.mk s3.2.1 x7.Count x7.Unit x7.Direction x7.A x7.B)) (Int.toNat s3.1) (Description.mk x8.Kind (w64 (s3.2.1 + 1)) x8.Unit x8.Direction x8.A x8.B)) (Int.toNat s3.1) (Description.mk x10.Kind x10.Count x9 x10.Direction x10.A x10.B)) (Int.toNat s3.1) (Description.mk x11.Kind x11.Count x11.Unit (w64 ((w64 ((w64 (s3.2.1 + 1)) + 1)) + 1)) x11.A x11.B)) (Int.toNat s3.1) (Description.mk x13.Kind x13.Count x13.Unit x13.Direction x12 x13.B))) (f := eDescription) (x := (Description.mk x15.Kind x15.Count x15.Unit x15.Direction x15.A x14)) (z := x15) (ti := ti9) (e := 80) (ts := [.str x14]) (vs := [vs x14]) (v := vs x14) tbok rfl rfl hx15) ?_
  refine SRun.nx ?_
  refine swp_reg ?_
  refine SRun.ck tbok 3 ⟨58, [(0, .own 1000000), (1, vi (w64 ((w64 ((w64 ((w64 ((w64 ((w64 (s3.2.1 + 1)) + 1)) + 1)) + 1)) + 1)) + 1))), (5, vi s3.1)], [(1000000, oa 80 6 eDescription (List.set (List.set (List.set (List.set (List.set (List.set s3.2.2 (Int.toNat s3.1) (Description.mk s3.2.1 x7.Count x7.Unit x7.Direction x7.A x7.B)) (Int.toNat s3.1) (Description.mk x8.Kind (w64 (s3.2.1 + 1)) x8.Unit x8.Direction x8.A x8.B)) (Int.toNat s3.1) (Description.mk x10.Kind x10.Count x9 x10.Direction x10.A x10.B)) (Int.toNat s3.1) (Description.mk x11.Kind x11.Count x11.Unit (w64 ((w64 ((w64 (s3.2.1 + 1)) + 1)) + 1)) x11.A x11.B)) (Int.toNat s3.1) (Description.mk x13.Kind x13.Count x13.Unit x13.Direction x12 x13.B)) (Int.toNat s3.1) (Description.mk x15.Kind x15.Count x15.Unit x15.Direction x15.A x14)))]⟩ ?_
  refine SRun.nil ?_
  obtain rfl := inj h
  exact q_bn (q_j (Le.sub0))
  refine swp_reg ?_
  refine SRun.ck tbok 3 ⟨58, [(0, .own 1000000), (1, vi j5.1), (5, vi (w64 (s3.1 + 1)))], [(1000000, oa 80 6 eDescription j5.2)]⟩ ?_
  refine SRun.nil ?_
  obtain rfl := inj h
  exact q_l (Le.sub0)
  refine swp_exit ?_
  obtain rfl := inj h
  exact nx_e (q_re (q_bh (q_j (Le.sub0))))
  refine srk tbok ⟨58, [(4, vi j1.1)], [(1000000, oa 80 6 eDescription j1.2)]⟩ ?_
  refine swp_ret ?_
  obtain rfl := inj h
  exact q_fr (fin_io (f1 fv) (y := oa 80 6 eDescription j1.2) (by kernel_rfl) rfl (by kernel_rfl) (by kernel_rfl))
theorem ents24 : Ents Tryz.prog 24 := ents_of Tryz.func24 (by kernel_rfl) rfl
noncomputable def spec_LostWithout (aList : (List Candidate)) (aText : ByteArray) (aSites : (List Site)) (aDescriptions : (List Description)) : Option ((List Int) × Int) :=
  ((spec_l30Code aList aText aSites aDescriptions).bind fun x1 => (((bif ((x1 == 0) && ((aList.length : Int) == 0)) then some 4 else some x1)).bind fun (j2 : Int) => (bif (j2 != 0) then some (([] : List Int), j2) else ((spec_l30Ranked aList aText aSites aDescriptions).bind fun x4 => ((at' x4 0).bind fun x5 => (((forS (aDescriptions.length : Int) (fun (i8 : Int) (s8 : (List Int)) => ((part' aDescriptions 0 i8).bind fun x12 => ((app' ([] : List Description) x12).bind fun x13 => ((part' aDescriptions (w64 (i8 + 1)) (aDescriptions.length : Int)).bind fun x14 => ((app' x13 x14).bind fun x15 => ((spec_l30Ranked aList aText aSites x15).bind fun x16 => ((at' x16 0).bind fun x17 => (bif (!(x17.Code.toList == x5.Code.toList)) then ((app' s8 ([i8] : List Int)).bind fun x18 => some x18) else some s8)))))))) (fun (s8 : (List Int)) => s8) 0 ([] : List Int))).bind fun (j6 : (List Int)) => some (j6, 0)))))))
theorem spec_LostWithout_run (aList : (List Candidate)) (aText : ByteArray) (aSites : (List Site)) (aDescriptions : (List Description)) (r : (List Int) × Int) (h : spec_LostWithout aList aText aSites aDescriptions = some r) : SCall Tryz.prog 29 [.v (vl eCandidate aList), .v (vs aText), .v (vl eSite aSites), .v (vl eDescription aDescriptions)] ⟨[.own 2 1 r.1.length (r.1.map (eI .i64)), .v (vi r.2)], [], false⟩ := by
  refine scall_in Tryz.func29 rfl [(.tmp 8), (.tmp 9)] rfl (fun r => ⟨[.own 2 1 r.1.length (r.1.map (eI .i64)), .v (vi r.2)], [], false⟩) (r := r) ?_
  unfold spec_LostWithout at h
  refine srk tbok ⟨70, [(0, vl eCandidate aList), (1, vs aText), (2, vl eSite aSites), (3, vl eDescription aDescriptions)], []⟩ ?_
  refine sr ?_
  refine SRun.ck tbok 4 ⟨70, [(0, vl eCandidate aList), (1, vs aText), (2, vl eSite aSites), (3, vl eDescription aDescriptions), (15, vl eCandidate aList), (16, vs aText), (17, vl eSite aSites), (18, vl eDescription aDescriptions)], []⟩ ?_
  obtain ⟨x1, hx1, h⟩ := bind_some h
  refine SRun.ls (xc ents49 (spec_l30Code_run aList aText aSites aDescriptions _ hx1)) ?_
  refine ckn tbok 1 ⟨70, [(0, vl eCandidate aList), (1, vs aText), (2, vl eSite aSites), (3, vl eDescription aDescriptions), (10, vi x1)], []⟩ ?_
  refine swp_seq ?_
  refine swp_seq ?_
  refine swp_regP ⟨70, [(0, vl eCandidate aList), (1, vs aText), (2, vl eSite aSites), (3, vl eDescription aDescriptions), (10, vi x1), (26, vb ((x1 == 0) && ((aList.length : Int) == 0)))], []⟩ ?_ ?_
  refine SRun.ck tbok 3 ⟨70, [(0, vl eCandidate aList), (1, vs aText), (2, vl eSite aSites), (3, vl eDescription aDescriptions), (10, vi x1), (22, vb (x1 == 0))], []⟩ ?_
  generalize (x1 == 0) = bb
  cases bb
  refine SRun.ck tbok 4 ⟨70, [(0, vl eCandidate aList), (1, vs aText), (2, vl eSite aSites), (3, vl eDescription aDescriptions), (10, vi x1), (26, vb false)], []⟩ ?_
  exact SRun.nil (Le.sub0)
  refine SRun.ck tbok 4 ⟨70, [(0, vl eCandidate aList), (1, vs aText), (2, vl eSite aSites), (3, vl eDescription aDescriptions), (10, vi x1), (26, vb ((aList.length : Int) == 0))], []⟩ ?_
  exact SRun.nil (Le.sub0)
  refine swp_seqJ h (fun j2 => ⟨70, [(0, vl eCandidate aList), (1, vs aText), (2, vl eSite aSites), (3, vl eDescription aDescriptions), (10, vi j2)], []⟩) (fun v3 h => ?_) (fun j2 h => ?_)
  refine swp_cd h (fun h => ?_) fun h => ?_
  refine swp_reg ?_
  refine SRun.ck tbok 1 ⟨70, [(0, vl eCandidate aList), (1, vs aText), (2, vl eSite aSites), (3, vl eDescription aDescriptions), (10, vi 4)], []⟩ ?_
  refine SRun.nil ?_
  obtain rfl := inj h
  exact q_j (Le.sub0)
  refine swp_skip ?_
  obtain rfl := inj h
  exact q_j (Le.sub0)
  refine swp_seq ?_
  refine srk tbok ⟨70, [(0, vl eCandidate aList), (1, vs aText), (2, vl eSite aSites), (3, vl eDescription aDescriptions), (10, vi j2), (28, vb (j2 != 0))], []⟩ ?_
  refine swp_cd h (fun h => ?_) fun h => ?_
  refine srk tbok ⟨70, [(8, .own 8), (9, vi j2)], [(8, oa 2 1 (eI .i64) ([] : List Int))]⟩ ?_
  refine swp_ret ?_
  obtain rfl := inj h
  exact nx_r (q_fr (f2 (fo (eI_flat .i64)) fv))
  refine swp_skip ?_
  refine nx_n ?_
  refine sr ?_
  refine SRun.ck tbok 4 ⟨70, [(0, vl eCandidate aList), (1, vs aText), (2, vl eSite aSites), (3, vl eDescription aDescriptions), (30, vl eCandidate aList), (31, vs aText), (32, vl eSite aSites), (33, vl eDescription aDescriptions)], []⟩ ?_
  obtain ⟨x4, hx4, h⟩ := bind_some h
  refine SRun.ls (xc ents50 (spec_l30Ranked_run aList aText aSites aDescriptions _ hx4)) ?_
  obtain ⟨x5, hx5, h⟩ := bind_some h
  refine SRun.ls (x_index_own (d := 34) (L := x4) (f := eAnswer) (ti := ti43) (tj := ti29) (e := 29) (e' := 29) (m := 3) (k := .i64) tbok rfl hx5) ?_
  refine SRun.ck tbok 1 ⟨70, [(0, vl eCandidate aList), (1, vs aText), (2, vl eSite aSites), (3, vl eDescription aDescriptions), (36, .eref 34 3 (Int.toNat 0) 0)], [(34, oa 29 3 eAnswer x4)]⟩ ?_
  refine SRun.ls (x_load_own (d := 34) (m := 3) (j := 0) (L := x4) (f := eAnswer) (ti := ti9) (e := 29) (v := vs x5.Code) tbok rfl hx5) ?_
  refine ckn tbok 1 ⟨70, [(0, vl eCandidate aList), (1, vs aText), (2, vl eSite aSites), (3, vl eDescription aDescriptions), (11, vs x5.Code)], []⟩ ?_
  refine srk tbok ⟨70, [(0, vl eCandidate aList), (1, vs aText), (2, vl eSite aSites), (3, vl eDescription aDescriptions), (11, vs x5.Code), (12, .own 38)], [(38, oa 2 1 (eI .i64) ([] : List Int))]⟩ ?_
  refine swp_seq ?_
  refine srk tbok ⟨70, [(0, vl eCandidate aList), (1, vs aText), (2, vl eSite aSites), (3, vl eDescription aDescriptions), (11, vs x5.Code), (12, .own 38), (13, vi 0)], [(38, oa 2 1 (eI .i64) ([] : List Int))]⟩ ?_
  refine swp_seqJ h (fun j6 => ⟨70, [(12, .own 12)], [(12, oa 2 1 (eI .i64) j6)]⟩) (fun v7 h => ?_) (fun j6 h => ?_)
  refine swp_blk (a := v7) ?_
  refine swp_lpL (r := v7) (s := (0, ([] : List Int))) _ (fun s8 => ⟨70, [(0, vl eCandidate aList), (1, vs aText), (2, vl eSite aSites), (3, vl eDescription aDescriptions), (11, vs x5.Code), (12, .own 12), (13, vi s8.1)], [(12, oa 2 1 (eI .i64) s8.2)]⟩) _ ((Le.sub' ([(0, vl eCandidate aList), (1, vs aText), (2, vl eSite aSites), (3, vl eDescription aDescriptions), (11, vs x5.Code), (12, .own 38), (13, vi 0)] : List (Nat × SV)) ([(38, oa 2 1 (eI .i64) ([] : List Int))] : List (Nat × SO)) (by kernel_rfl) (by kernel_rfl)).trans ((Le.ren' (d := 38) (e := 12) (by kernel_rfl) (by kernel_rfl) (by kernel_rfl)).trans (Le.sub0))) h (fun s8 v9 h => ?_)
  refine swp_seq ?_
  refine srk tbok ⟨70, [(0, vl eCandidate aList), (1, vs aText), (2, vl eSite aSites), (3, vl eDescription aDescriptions), (11, vs x5.Code), (12, .own 12), (13, vi s8.1), (42, vb (decide (s8.1 < (aDescriptions.length : Int))))], [(12, oa 2 1 (eI .i64) s8.2)]⟩ ?_
  refine swp_cd h (fun h => ?_) fun h => ?_
  refine swp_skip ?_
  refine nx_n ?_
  refine swp_seq ?_
  refine swp_seqJ h (fun j10 => ⟨70, [(0, vl eCandidate aList), (1, vs aText), (2, vl eSite aSites), (3, vl eDescription aDescriptions), (11, vs x5.Code), (12, .own 12), (13, vi s8.1)], [(12, oa 2 1 (eI .i64) j10)]⟩) (fun v11 h => ?_) (fun j10 h => ?_)
  refine swp_blk (a := v11) ?_
  refine swp_seq ?_
  obtain ⟨x12, hx12, h⟩ := bind_some h
  obtain ⟨x13, hx13, h⟩ := bind_some h
  obtain ⟨x14, hx14, h⟩ := bind_some h
  obtain ⟨x15, hx15, h⟩ := bind_some h
  refine swp_dr mixed ?_
  refine DGo.enum (σE := ⟨70, [(0, vl eCandidate aList), (1, vs aText), (2, vl eSite aSites), (3, vl eDescription aDescriptions), (11, vs x5.Code), (12, .own 12), (13, vi s8.1), (14, .own 54)], [(12, oa 2 1 (eI .i64) s8.2), (54, oa 80 6 eDescription x15)]⟩) (n := 11) (L0 := #[false, false, false, false, false, false, false, false, false, false, false]) (by kernel_rfl) (by kernel_rfl) (fun K hk => ?_) ?_
  refine DE.share (fuel := 0) (L := #[true, true, true, true, true, true, true, true, true, true, true]) (σ := ⟨70, [(0, vl eCandidate aList), (1, vs aText), (2, vl eSite aSites), (3, vl eDescription aDescriptions), (11, vs x5.Code), (12, .own 12), (13, vi s8.1), (14, .own 54)], [(12, oa 2 1 (eI .i64) s8.2), (54, oa 80 6 eDescription x15)]⟩) ?_ (fun d20 => ?_)
  exact DE.done (by kernel_rfl) hk
  refine DE.share (fuel := 1) (L := #[true, true, true, true, true, true, true, true, true, true, false]) (σ := ⟨70, [(0, vl eCandidate aList), (1, vs aText), (2, vl eSite aSites), (3, vl eDescription aDescriptions), (11, vs x5.Code), (12, .own 12), (13, vi s8.1), (54, .own 54)], [(12, oa 2 1 (eI .i64) s8.2), (54, oa 80 6 eDescription x15)]⟩) ?_ (fun d19 => ?_)
  exact DE.take (i := 10) (L' := #[true, true, true, true, true, true, true, true, true, true, true]) rfl (.inr rfl) rfl (by kernel_rfl) (by kernel_rfl) (by kernel_rfl) (EStep.le (EStep.ofN2 tbok (σ' := ⟨70, [(14, .own 54), (0, vl eCandidate aList), (1, vs aText), (2, vl eSite aSites), (3, vl eDescription aDescriptions), (11, vs x5.Code), (12, .own 12), (13, vi s8.1), (54, .own 54)], [(12, oa 2 1 (eI .i64) s8.2), (54, oa 80 6 eDescription x15)]⟩) (by kernel_rfl)) Le.sub0) (by kernel_rfl) d20
  refine DE.share (fuel := 2) (L := #[true, true, true, true, true, true, true, true, true, false, false]) (σ := ⟨70, [(0, vl eCandidate aList), (1, vs aText), (2, vl eSite aSites), (3, vl eDescription aDescriptions), (11, vs x5.Code), (12, .own 12), (13, vi s8.1), (49, .own 49), (53, vl eDescription x14)], [(12, oa 2 1 (eI .i64) s8.2), (49, oa 80 6 eDescription x13)]⟩) ?_ (fun d18 => ?_)
  exact DE.all [9] (by kernel_rfl) (by simp) (List.forall_mem_cons.2 ⟨DEs.mk (i := 9) (L' := #[true, true, true, true, true, true, true, true, true, true, false]) rfl (EStep.le (x_append (f := eDescription) (t := 36) (ti := ti36) (tj := ti80) (zs := [.int .i64 0, .int .i64 0, .string (ByteArray.mk #[]), .int .i64 0, .string (ByteArray.mk #[]), .string (ByteArray.mk #[])]) (e := 80) (m := 6) (d := 49) (xv := vl eDescription x14) hx15 tbok rfl rfl rfl rfl (src_e (fun _ => rfl))) Le.sub0) (by kernel_rfl) d19, (fun _ h => absurd h List.not_mem_nil)⟩)
  refine DE.share (fuel := 3) (L := #[true, true, true, true, false, true, true, true, true, false, false]) (σ := ⟨70, [(0, vl eCandidate aList), (1, vs aText), (2, vl eSite aSites), (3, vl eDescription aDescriptions), (11, vs x5.Code), (12, .own 12), (13, vi s8.1), (45, .own 45), (48, vl eDescription x12), (53, vl eDescription x14)], [(12, oa 2 1 (eI .i64) s8.2), (45, oa 80 6 eDescription ([] : List Description))]⟩) ?_ (fun d17 => ?_)
  exact DE.all [4] (by kernel_rfl) (by simp) (List.forall_mem_cons.2 ⟨DEs.mk (i := 4) (L' := #[true, true, true, true, true, true, true, true, true, false, false]) rfl (EStep.le (x_append (f := eDescription) (t := 36) (ti := ti36) (tj := ti80) (zs := [.int .i64 0, .int .i64 0, .string (ByteArray.mk #[]), .int .i64 0, .string (ByteArray.mk #[]), .string (ByteArray.mk #[])]) (e := 80) (m := 6) (d := 45) (xv := vl eDescription x12) hx13 tbok rfl rfl rfl rfl (src_e (fun _ => rfl))) Le.sub0) (by kernel_rfl) d18, (fun _ h => absurd h List.not_mem_nil)⟩)
  refine DE.share (fuel := 3) (L := #[true, true, true, true, true, true, true, true, false, false, false]) (σ := ⟨70, [(0, vl eCandidate aList), (1, vs aText), (2, vl eSite aSites), (3, vl eDescription aDescriptions), (11, vs x5.Code), (12, .own 12), (13, vi s8.1), (49, .own 49), (50, vl eDescription aDescriptions), (52, vi (w64 (s8.1 + 1)))], [(12, oa 2 1 (eI .i64) s8.2), (49, oa 80 6 eDescription x13)]⟩) ?_ (fun d16 => ?_)
  exact DE.all [8] (by kernel_rfl) (by simp) (List.forall_mem_cons.2 ⟨DEs.mk (i := 8) (L' := #[true, true, true, true, true, true, true, true, true, false, false]) rfl (EStep.le (EStep.ofL (x_slice (m := 6) (f := eDescription) (ti := ti36) (tj := ti80) (e := 80) hx14 (fun _ => rfl) tbok rfl) (by kernel_rfl)) Le.sub0) (by kernel_rfl) d18, (fun _ h => absurd h List.not_mem_nil)⟩)
  refine DE.share (fuel := 4) (L := #[false, true, true, true, false, true, true, true, true, false, false]) (σ := ⟨70, [(0, vl eCandidate aList), (1, vs aText), (2, vl eSite aSites), (3, vl eDescription aDescriptions), (11, vs x5.Code), (12, .own 12), (13, vi s8.1), (48, vl eDescription x12), (53, vl eDescription x14)], [(12, oa 2 1 (eI .i64) s8.2)]⟩) ?_ (fun d15 => ?_)
  exact DE.all [0] (by kernel_rfl) (by simp) (List.forall_mem_cons.2 ⟨DEs.mk (i := 0) (L' := #[true, true, true, true, false, true, true, true, true, false, false]) rfl (EStep.le (EStep.ofN2 tbok (σ' := ⟨70, [(45, .own 45), (0, vl eCandidate aList), (1, vs aText), (2, vl eSite aSites), (3, vl eDescription aDescriptions), (11, vs x5.Code), (12, .own 12), (13, vi s8.1), (48, vl eDescription x12), (53, vl eDescription x14)], [(45, oa 80 6 eDescription ([] : List Description)), (12, oa 2 1 (eI .i64) s8.2)]⟩) (by kernel_rfl)) Le.sub0) (by kernel_rfl) d17, (fun _ h => absurd h List.not_mem_nil)⟩)
  refine DE.share (fuel := 4) (L := #[true, true, true, false, false, true, true, true, true, false, false]) (σ := ⟨70, [(0, vl eCandidate aList), (1, vs aText), (2, vl eSite aSites), (3, vl eDescription aDescriptions), (11, vs x5.Code), (12, .own 12), (13, vi s8.1), (45, .own 45), (46, vl eDescription aDescriptions), (47, vi s8.1), (53, vl eDescription x14)], [(12, oa 2 1 (eI .i64) s8.2), (45, oa 80 6 eDescription ([] : List Description))]⟩) ?_ (fun d14 => ?_)
  exact DE.all [3] (by kernel_rfl) (by simp) (List.forall_mem_cons.2 ⟨DEs.mk (i := 3) (L' := #[true, true, true, true, false, true, true, true, true, false, false]) rfl (EStep.le (EStep.ofL (x_slice (m := 6) (f := eDescription) (ti := ti36) (tj := ti80) (e := 80) hx12 (fun _ => rfl) tbok rfl) (by kernel_rfl)) Le.sub0) (by kernel_rfl) d17, (fun _ h => absurd h List.not_mem_nil)⟩)
  refine DE.share (fuel := 4) (L := #[true, true, true, true, false, true, true, true, false, false, false]) (σ := ⟨70, [(0, vl eCandidate aList), (1, vs aText), (2, vl eSite aSites), (3, vl eDescription aDescriptions), (11, vs x5.Code), (12, .own 12), (13, vi s8.1), (45, .own 45), (48, vl eDescription x12), (50, vl eDescription aDescriptions), (52, vi (w64 (s8.1 + 1)))], [(12, oa 2 1 (eI .i64) s8.2), (45, oa 80 6 eDescription ([] : List Description))]⟩) ?_ (fun d13 => ?_)
  exact DE.all [4, 8] (by kernel_rfl) (by simp) (List.forall_mem_cons.2 ⟨DEs.mk (i := 4) (L' := #[true, true, true, true, true, true, true, true, false, false, false]) rfl (EStep.le (x_append (f := eDescription) (t := 36) (ti := ti36) (tj := ti80) (zs := [.int .i64 0, .int .i64 0, .string (ByteArray.mk #[]), .int .i64 0, .string (ByteArray.mk #[]), .string (ByteArray.mk #[])]) (e := 80) (m := 6) (d := 45) (xv := vl eDescription x12) hx13 tbok rfl rfl rfl rfl (src_e (fun _ => rfl))) Le.sub0) (by kernel_rfl) d16, (List.forall_mem_cons.2 ⟨DEs.mk (i := 8) (L' := #[true, true, true, true, false, true, true, true, true, false, false]) rfl (EStep.le (EStep.ofL (x_slice (m := 6) (f := eDescription) (ti := ti36) (tj := ti80) (e := 80) hx14 (fun _ => rfl) tbok rfl) (by kernel_rfl)) Le.sub0) (by kernel_rfl) d17, (fun _ h => absurd h List.not_mem_nil)⟩)⟩)
  refine DE.share (fuel := 4) (L := #[true, true, true, true, true, true, true, false, false, false, false]) (σ := ⟨70, [(0, vl eCandidate aList), (1, vs aText), (2, vl eSite aSites), (3, vl eDescription aDescriptions), (11, vs x5.Code), (12, .own 12), (13, vi s8.1), (49, .own 49), (50, vl eDescription aDescriptions), (51, vi s8.1)], [(12, oa 2 1 (eI .i64) s8.2), (49, oa 80 6 eDescription x13)]⟩) ?_ (fun d12 => ?_)
  exact DE.all [7] (by kernel_rfl) (by simp) (List.forall_mem_cons.2 ⟨DEs.mk (i := 7) (L' := #[true, true, true, true, true, true, true, true, false, false, false]) rfl (EStep.le (EStep.ofN2 tbok (σ' := ⟨70, [(52, vi (w64 (s8.1 + 1))), (0, vl eCandidate aList), (1, vs aText), (2, vl eSite aSites), (3, vl eDescription aDescriptions), (11, vs x5.Code), (12, .own 12), (13, vi s8.1), (49, .own 49), (50, vl eDescription aDescriptions), (51, vi s8.1)], [(12, oa 2 1 (eI .i64) s8.2), (49, oa 80 6 eDescription x13)]⟩) (by kernel_rfl)) Le.sub0) (by kernel_rfl) d16, (fun _ h => absurd h List.not_mem_nil)⟩)
  refine DE.share (fuel := 5) (L := #[false, true, true, false, false, true, true, true, true, false, false]) (σ := ⟨70, [(0, vl eCandidate aList), (1, vs aText), (2, vl eSite aSites), (3, vl eDescription aDescriptions), (11, vs x5.Code), (12, .own 12), (13, vi s8.1), (46, vl eDescription aDescriptions), (47, vi s8.1), (53, vl eDescription x14)], [(12, oa 2 1 (eI .i64) s8.2)]⟩) ?_ (fun d11 => ?_)
  exact DE.all [0, 3] (by kernel_rfl) (by simp) (List.forall_mem_cons.2 ⟨DEs.mk (i := 0) (L' := #[true, true, true, false, false, true, true, true, true, false, false]) rfl (EStep.le (EStep.ofN2 tbok (σ' := ⟨70, [(45, .own 45), (0, vl eCandidate aList), (1, vs aText), (2, vl eSite aSites), (3, vl eDescription aDescriptions), (11, vs x5.Code), (12, .own 12), (13, vi s8.1), (46, vl eDescription aDescriptions), (47, vi s8.1), (53, vl eDescription x14)], [(45, oa 80 6 eDescription ([] : List Description)), (12, oa 2 1 (eI .i64) s8.2)]⟩) (by kernel_rfl)) Le.sub0) (by kernel_rfl) d14, (List.forall_mem_cons.2 ⟨DEs.mk (i := 3) (L' := #[false, true, true, true, false, true, true, true, true, false, false]) rfl (EStep.le (EStep.ofL (x_slice (m := 6) (f := eDescription) (ti := ti36) (tj := ti80) (e := 80) hx12 (fun _ => rfl) tbok rfl) (by kernel_rfl)) Le.sub0) (by kernel_rfl) d15, (fun _ h => absurd h List.not_mem_nil)⟩)⟩)
  refine DE.share (fuel := 5) (L := #[false, true, true, true, false, true, true, true, false, false, false]) (σ := ⟨70, [(0, vl eCandidate aList), (1, vs aText), (2, vl eSite aSites), (3, vl eDescription aDescriptions), (11, vs x5.Code), (12, .own 12), (13, vi s8.1), (48, vl eDescription x12), (50, vl eDescription aDescriptions), (52, vi (w64 (s8.1 + 1)))], [(12, oa 2 1 (eI .i64) s8.2)]⟩) ?_ (fun d10 => ?_)
  exact DE.all [0, 8] (by kernel_rfl) (by simp) (List.forall_mem_cons.2 ⟨DEs.mk (i := 0) (L' := #[true, true, true, true, false, true, true, true, false, false, false]) rfl (EStep.le (EStep.ofN2 tbok (σ' := ⟨70, [(45, .own 45), (0, vl eCandidate aList), (1, vs aText), (2, vl eSite aSites), (3, vl eDescription aDescriptions), (11, vs x5.Code), (12, .own 12), (13, vi s8.1), (48, vl eDescription x12), (50, vl eDescription aDescriptions), (52, vi (w64 (s8.1 + 1)))], [(45, oa 80 6 eDescription ([] : List Description)), (12, oa 2 1 (eI .i64) s8.2)]⟩) (by kernel_rfl)) Le.sub0) (by kernel_rfl) d13, (List.forall_mem_cons.2 ⟨DEs.mk (i := 8) (L' := #[false, true, true, true, false, true, true, true, true, false, false]) rfl (EStep.le (EStep.ofL (x_slice (m := 6) (f := eDescription) (ti := ti36) (tj := ti80) (e := 80) hx14 (fun _ => rfl) tbok rfl) (by kernel_rfl)) Le.sub0) (by kernel_rfl) d15, (fun _ h => absurd h List.not_mem_nil)⟩)⟩)
  refine DE.share (fuel := 5) (L := #[true, true, true, false, false, true, true, true, false, false, false]) (σ := ⟨70, [(0, vl eCandidate aList), (1, vs aText), (2, vl eSite aSites), (3, vl eDescription aDescriptions), (11, vs x5.Code), (12, .own 12), (13, vi s8.1), (45, .own 45), (46, vl eDescription aDescriptions), (47, vi s8.1), (50, vl eDescription aDescriptions), (52, vi (w64 (s8.1 + 1)))], [(12, oa 2 1 (eI .i64) s8.2), (45, oa 80 6 eDescription ([] : List Description))]⟩) ?_ (fun d9 => ?_)
  exact DE.all [3, 8] (by kernel_rfl) (by simp) (List.forall_mem_cons.2 ⟨DEs.mk (i := 3) (L' := #[true, true, true, true, false, true, true, true, false, false, false]) rfl (EStep.le (EStep.ofL (x_slice (m := 6) (f := eDescription) (ti := ti36) (tj := ti80) (e := 80) hx12 (fun _ => rfl) tbok rfl) (by kernel_rfl)) Le.sub0) (by kernel_rfl) d13, (List.forall_mem_cons.2 ⟨DEs.mk (i := 8) (L' := #[true, true, true, false, false, true, true, true, true, false, false]) rfl (EStep.le (EStep.ofL (x_slice (m := 6) (f := eDescription) (ti := ti36) (tj := ti80) (e := 80) hx14 (fun _ => rfl) tbok rfl) (by kernel_rfl)) Le.sub0) (by kernel_rfl) d14, (fun _ h => absurd h List.not_mem_nil)⟩)⟩)
  refine DE.share (fuel := 5) (L := #[true, true, true, true, false, true, true, false, false, false, false]) (σ := ⟨70, [(0, vl eCandidate aList), (1, vs aText), (2, vl eSite aSites), (3, vl eDescription aDescriptions), (11, vs x5.Code), (12, .own 12), (13, vi s8.1), (45, .own 45), (48, vl eDescription x12), (50, vl eDescription aDescriptions), (51, vi s8.1)], [(12, oa 2 1 (eI .i64) s8.2), (45, oa 80 6 eDescription ([] : List Description))]⟩) ?_ (fun d8 => ?_)
  exact DE.all [4, 7] (by kernel_rfl) (by simp) (List.forall_mem_cons.2 ⟨DEs.mk (i := 4) (L' := #[true, true, true, true, true, true, true, false, false, false, false]) rfl (EStep.le (x_append (f := eDescription) (t := 36) (ti := ti36) (tj := ti80) (zs := [.int .i64 0, .int .i64 0, .string (ByteArray.mk #[]), .int .i64 0, .string (ByteArray.mk #[]), .string (ByteArray.mk #[])]) (e := 80) (m := 6) (d := 45) (xv := vl eDescription x12) hx13 tbok rfl rfl rfl rfl (src_e (fun _ => rfl))) Le.sub0) (by kernel_rfl) d12, (List.forall_mem_cons.2 ⟨DEs.mk (i := 7) (L' := #[true, true, true, true, false, true, true, true, false, false, false]) rfl (EStep.le (EStep.ofN2 tbok (σ' := ⟨70, [(52, vi (w64 (s8.1 + 1))), (0, vl eCandidate aList), (1, vs aText), (2, vl eSite aSites), (3, vl eDescription aDescriptions), (11, vs x5.Code), (12, .own 12), (13, vi s8.1), (45, .own 45), (48, vl eDescription x12), (50, vl eDescription aDescriptions), (51, vi s8.1)], [(12, oa 2 1 (eI .i64) s8.2), (45, oa 80 6 eDescription ([] : List Description))]⟩) (by kernel_rfl)) Le.sub0) (by kernel_rfl) d13, (fun _ h => absurd h List.not_mem_nil)⟩)⟩)
  refine DE.share (fuel := 6) (L := #[false, true, true, false, false, true, true, true, false, false, false]) (σ := ⟨70, [(0, vl eCandidate aList), (1, vs aText), (2, vl eSite aSites), (3, vl eDescription aDescriptions), (11, vs x5.Code), (12, .own 12), (13, vi s8.1), (46, vl eDescription aDescriptions), (47, vi s8.1), (50, vl eDescription aDescriptions), (52, vi (w64 (s8.1 + 1)))], [(12, oa 2 1 (eI .i64) s8.2)]⟩) ?_ (fun d7 => ?_)
  exact DE.all [0, 3, 8] (by kernel_rfl) (by simp) (List.forall_mem_cons.2 ⟨DEs.mk (i := 0) (L' := #[true, true, true, false, false, true, true, true, false, false, false]) rfl (EStep.le (EStep.ofN2 tbok (σ' := ⟨70, [(45, .own 45), (0, vl eCandidate aList), (1, vs aText), (2, vl eSite aSites), (3, vl eDescription aDescriptions), (11, vs x5.Code), (12, .own 12), (13, vi s8.1), (46, vl eDescription aDescriptions), (47, vi s8.1), (50, vl eDescription aDescriptions), (52, vi (w64 (s8.1 + 1)))], [(45, oa 80 6 eDescription ([] : List Description)), (12, oa 2 1 (eI .i64) s8.2)]⟩) (by kernel_rfl)) Le.sub0) (by kernel_rfl) d9, (List.forall_mem_cons.2 ⟨DEs.mk (i := 3) (L' := #[false, true, true, true, false, true, true, true, false, false, false]) rfl (EStep.le (EStep.ofL (x_slice (m := 6) (f := eDescription) (ti := ti36) (tj := ti80) (e := 80) hx12 (fun _ => rfl) tbok rfl) (by kernel_rfl)) Le.sub0) (by kernel_rfl) d10, (List.forall_mem_cons.2 ⟨DEs.mk (i := 8) (L' := #[false, true, true, false, false, true, true, true, true, false, false]) rfl (EStep.le (EStep.ofL (x_slice (m := 6) (f := eDescription) (ti := ti36) (tj := ti80) (e := 80) hx14 (fun _ => rfl) tbok rfl) (by kernel_rfl)) Le.sub0) (by kernel_rfl) d11, (fun _ h => absurd h List.not_mem_nil)⟩)⟩)⟩)
  refine DE.share (fuel := 6) (L := #[false, true, true, true, false, true, true, false, false, false, false]) (σ := ⟨70, [(0, vl eCandidate aList), (1, vs aText), (2, vl eSite aSites), (3, vl eDescription aDescriptions), (11, vs x5.Code), (12, .own 12), (13, vi s8.1), (48, vl eDescription x12), (50, vl eDescription aDescriptions), (51, vi s8.1)], [(12, oa 2 1 (eI .i64) s8.2)]⟩) ?_ (fun d6 => ?_)
  exact DE.all [0, 7] (by kernel_rfl) (by simp) (List.forall_mem_cons.2 ⟨DEs.mk (i := 0) (L' := #[true, true, true, true, false, true, true, false, false, false, false]) rfl (EStep.le (EStep.ofN2 tbok (σ' := ⟨70, [(45, .own 45), (0, vl eCandidate aList), (1, vs aText), (2, vl eSite aSites), (3, vl eDescription aDescriptions), (11, vs x5.Code), (12, .own 12), (13, vi s8.1), (48, vl eDescription x12), (50, vl eDescription aDescriptions), (51, vi s8.1)], [(45, oa 80 6 eDescription ([] : List Description)), (12, oa 2 1 (eI .i64) s8.2)]⟩) (by kernel_rfl)) Le.sub0) (by kernel_rfl) d8, (List.forall_mem_cons.2 ⟨DEs.mk (i := 7) (L' := #[false, true, true, true, false, true, true, true, false, false, false]) rfl (EStep.le (EStep.ofN2 tbok (σ' := ⟨70, [(52, vi (w64 (s8.1 + 1))), (0, vl eCandidate aList), (1, vs aText), (2, vl eSite aSites), (3, vl eDescription aDescriptions), (11, vs x5.Code), (12, .own 12), (13, vi s8.1), (48, vl eDescription x12), (50, vl eDescription aDescriptions), (51, vi s8.1)], [(12, oa 2 1 (eI .i64) s8.2)]⟩) (by kernel_rfl)) Le.sub0) (by kernel_rfl) d10, (fun _ h => absurd h List.not_mem_nil)⟩)⟩)
  refine DE.share (fuel := 6) (L := #[true, true, true, false, false, true, true, false, false, false, false]) (σ := ⟨70, [(0, vl eCandidate aList), (1, vs aText), (2, vl eSite aSites), (3, vl eDescription aDescriptions), (11, vs x5.Code), (12, .own 12), (13, vi s8.1), (45, .own 45), (46, vl eDescription aDescriptions), (47, vi s8.1), (50, vl eDescription aDescriptions), (51, vi s8.1)], [(12, oa 2 1 (eI .i64) s8.2), (45, oa 80 6 eDescription ([] : List Description))]⟩) ?_ (fun d5 => ?_)
  exact DE.all [3, 7] (by kernel_rfl) (by simp) (List.forall_mem_cons.2 ⟨DEs.mk (i := 3) (L' := #[true, true, true, true, false, true, true, false, false, false, false]) rfl (EStep.le (EStep.ofL (x_slice (m := 6) (f := eDescription) (ti := ti36) (tj := ti80) (e := 80) hx12 (fun _ => rfl) tbok rfl) (by kernel_rfl)) Le.sub0) (by kernel_rfl) d8, (List.forall_mem_cons.2 ⟨DEs.mk (i := 7) (L' := #[true, true, true, false, false, true, true, true, false, false, false]) rfl (EStep.le (EStep.ofN2 tbok (σ' := ⟨70, [(52, vi (w64 (s8.1 + 1))), (0, vl eCandidate aList), (1, vs aText), (2, vl eSite aSites), (3, vl eDescription aDescriptions), (11, vs x5.Code), (12, .own 12), (13, vi s8.1), (45, .own 45), (46, vl eDescription aDescriptions), (47, vi s8.1), (50, vl eDescription aDescriptions), (51, vi s8.1)], [(12, oa 2 1 (eI .i64) s8.2), (45, oa 80 6 eDescription ([] : List Description))]⟩) (by kernel_rfl)) Le.sub0) (by kernel_rfl) d9, (fun _ h => absurd h List.not_mem_nil)⟩)⟩)
  refine DE.share (fuel := 7) (L := #[false, true, true, false, false, true, true, false, false, false, false]) (σ := ⟨70, [(0, vl eCandidate aList), (1, vs aText), (2, vl eSite aSites), (3, vl eDescription aDescriptions), (11, vs x5.Code), (12, .own 12), (13, vi s8.1), (46, vl eDescription aDescriptions), (47, vi s8.1), (50, vl eDescription aDescriptions), (51, vi s8.1)], [(12, oa 2 1 (eI .i64) s8.2)]⟩) ?_ (fun d4 => ?_)
  exact DE.all [0, 3, 7] (by kernel_rfl) (by simp) (List.forall_mem_cons.2 ⟨DEs.mk (i := 0) (L' := #[true, true, true, false, false, true, true, false, false, false, false]) rfl (EStep.le (EStep.ofN2 tbok (σ' := ⟨70, [(45, .own 45), (0, vl eCandidate aList), (1, vs aText), (2, vl eSite aSites), (3, vl eDescription aDescriptions), (11, vs x5.Code), (12, .own 12), (13, vi s8.1), (46, vl eDescription aDescriptions), (47, vi s8.1), (50, vl eDescription aDescriptions), (51, vi s8.1)], [(45, oa 80 6 eDescription ([] : List Description)), (12, oa 2 1 (eI .i64) s8.2)]⟩) (by kernel_rfl)) Le.sub0) (by kernel_rfl) d5, (List.forall_mem_cons.2 ⟨DEs.mk (i := 3) (L' := #[false, true, true, true, false, true, true, false, false, false, false]) rfl (EStep.le (EStep.ofL (x_slice (m := 6) (f := eDescription) (ti := ti36) (tj := ti80) (e := 80) hx12 (fun _ => rfl) tbok rfl) (by kernel_rfl)) Le.sub0) (by kernel_rfl) d6, (List.forall_mem_cons.2 ⟨DEs.mk (i := 7) (L' := #[false, true, true, false, false, true, true, true, false, false, false]) rfl (EStep.le (EStep.ofN2 tbok (σ' := ⟨70, [(52, vi (w64 (s8.1 + 1))), (0, vl eCandidate aList), (1, vs aText), (2, vl eSite aSites), (3, vl eDescription aDescriptions), (11, vs x5.Code), (12, .own 12), (13, vi s8.1), (46, vl eDescription aDescriptions), (47, vi s8.1), (50, vl eDescription aDescriptions), (51, vi s8.1)], [(12, oa 2 1 (eI .i64) s8.2)]⟩) (by kernel_rfl)) Le.sub0) (by kernel_rfl) d7, (fun _ h => absurd h List.not_mem_nil)⟩)⟩)⟩)
  refine DE.share (fuel := 8) (L := #[false, true, true, false, false, true, false, false, false, false, false]) (σ := ⟨70, [(0, vl eCandidate aList), (1, vs aText), (2, vl eSite aSites), (3, vl eDescription aDescriptions), (11, vs x5.Code), (12, .own 12), (13, vi s8.1), (46, vl eDescription aDescriptions), (47, vi s8.1), (50, vl eDescription aDescriptions)], [(12, oa 2 1 (eI .i64) s8.2)]⟩) ?_ (fun d3 => ?_)
  exact DE.take (i := 6) (L' := #[false, true, true, false, false, true, true, false, false, false, false]) rfl (.inl rfl) rfl (by kernel_rfl) (by kernel_rfl) (by kernel_rfl) (EStep.le (EStep.ofN2 tbok (σ' := ⟨70, [(51, vi s8.1), (0, vl eCandidate aList), (1, vs aText), (2, vl eSite aSites), (3, vl eDescription aDescriptions), (11, vs x5.Code), (12, .own 12), (13, vi s8.1), (46, vl eDescription aDescriptions), (47, vi s8.1), (50, vl eDescription aDescriptions)], [(12, oa 2 1 (eI .i64) s8.2)]⟩) (by kernel_rfl)) Le.sub0) (by kernel_rfl) d4
  refine DE.share (fuel := 9) (L := #[false, true, true, false, false, false, false, false, false, false, false]) (σ := ⟨70, [(0, vl eCandidate aList), (1, vs aText), (2, vl eSite aSites), (3, vl eDescription aDescriptions), (11, vs x5.Code), (12, .own 12), (13, vi s8.1), (46, vl eDescription aDescriptions), (47, vi s8.1)], [(12, oa 2 1 (eI .i64) s8.2)]⟩) ?_ (fun d2 => ?_)
  exact DE.take (i := 5) (L' := #[false, true, true, false, false, true, false, false, false, false, false]) rfl (.inl rfl) rfl (by kernel_rfl) (by kernel_rfl) (by kernel_rfl) (EStep.le (EStep.ofN2 tbok (σ' := ⟨70, [(50, vl eDescription aDescriptions), (0, vl eCandidate aList), (1, vs aText), (2, vl eSite aSites), (3, vl eDescription aDescriptions), (11, vs x5.Code), (12, .own 12), (13, vi s8.1), (46, vl eDescription aDescriptions), (47, vi s8.1)], [(12, oa 2 1 (eI .i64) s8.2)]⟩) (by kernel_rfl)) Le.sub0) (by kernel_rfl) d3
  refine DE.share (fuel := 10) (L := #[false, true, false, false, false, false, false, false, false, false, false]) (σ := ⟨70, [(0, vl eCandidate aList), (1, vs aText), (2, vl eSite aSites), (3, vl eDescription aDescriptions), (11, vs x5.Code), (12, .own 12), (13, vi s8.1), (46, vl eDescription aDescriptions)], [(12, oa 2 1 (eI .i64) s8.2)]⟩) ?_ (fun d1 => ?_)
  exact DE.take (i := 2) (L' := #[false, true, true, false, false, false, false, false, false, false, false]) rfl (.inl rfl) rfl (by kernel_rfl) (by kernel_rfl) (by kernel_rfl) (EStep.le (EStep.ofN2 tbok (σ' := ⟨70, [(47, vi s8.1), (0, vl eCandidate aList), (1, vs aText), (2, vl eSite aSites), (3, vl eDescription aDescriptions), (11, vs x5.Code), (12, .own 12), (13, vi s8.1), (46, vl eDescription aDescriptions)], [(12, oa 2 1 (eI .i64) s8.2)]⟩) (by kernel_rfl)) Le.sub0) (by kernel_rfl) d2
  exact DE.take (i := 1) (L' := #[false, true, false, false, false, false, false, false, false, false, false]) rfl (.inl rfl) rfl (by kernel_rfl) (by kernel_rfl) (by kernel_rfl) (EStep.le (EStep.ofN2 tbok (σ' := ⟨70, [(46, vl eDescription aDescriptions), (0, vl eCandidate aList), (1, vs aText), (2, vl eSite aSites), (3, vl eDescription aDescriptions), (11, vs x5.Code), (12, .own 12), (13, vi s8.1), (42, vb (decide (s8.1 < (aDescriptions.length : Int))))], [(12, oa 2 1 (eI .i64) s8.2)]⟩) (by kernel_rfl)) Le.sub0) (by kernel_rfl) d1
  refine nx_n ?_
  refine sr ?_
  refine SRun.ck tbok 4 ⟨70, [(0, vl eCandidate aList), (1, vs aText), (2, vl eSite aSites), (3, vl eDescription aDescriptions), (11, vs x5.Code), (12, .own 12), (13, vi s8.1), (55, vl eCandidate aList), (56, vs aText), (57, vl eSite aSites), (58, .own 54)], [(12, oa 2 1 (eI .i64) s8.2), (54, oa 80 6 eDescription x15)]⟩ ?_
  obtain ⟨x16, hx16, h⟩ := bind_some h
  refine SRun.ls (xc ents50 (spec_l30Ranked_run aList aText aSites x15 _ hx16)) ?_
  obtain ⟨x17, hx17, h⟩ := bind_some h
  refine SRun.ls (x_index_own (d := 59) (L := x16) (f := eAnswer) (ti := ti43) (tj := ti29) (e := 29) (e' := 29) (m := 3) (k := .i64) tbok rfl hx17) ?_
  refine SRun.ck tbok 1 ⟨70, [(0, vl eCandidate aList), (1, vs aText), (2, vl eSite aSites), (3, vl eDescription aDescriptions), (11, vs x5.Code), (12, .own 12), (13, vi s8.1), (61, .eref 59 3 (Int.toNat 0) 0)], [(12, oa 2 1 (eI .i64) s8.2), (59, oa 29 3 eAnswer x16)]⟩ ?_
  refine SRun.ls (x_load_own (d := 59) (m := 3) (j := 0) (L := x16) (f := eAnswer) (ti := ti9) (e := 29) (v := vs x17.Code) tbok rfl hx17) ?_
  refine ckn tbok 2 ⟨70, [(0, vl eCandidate aList), (1, vs aText), (2, vl eSite aSites), (3, vl eDescription aDescriptions), (11, vs x5.Code), (12, .own 12), (13, vi s8.1), (64, vb (!(x17.Code.toList == x5.Code.toList)))], [(12, oa 2 1 (eI .i64) s8.2)]⟩ ?_
  refine swp_cd h (fun h => ?_) fun h => ?_
  refine swp_reg ?_
  refine SRun.ck tbok 3 ⟨70, [(0, vl eCandidate aList), (1, vs aText), (2, vl eSite aSites), (3, vl eDescription aDescriptions), (11, vs x5.Code), (13, vi s8.1), (65, .own 12), (67, .own 67)], [(12, oa 2 1 (eI .i64) s8.2), (67, oa 2 1 (eI .i64) ([s8.1] : List Int))]⟩ ?_
  obtain ⟨x18, hx18, h⟩ := bind_some h
  refine SRun.estep (x_append (f := (eI .i64)) (t := 54) (ti := ti54) (tj := ti2) (zs := [.int .i64 0]) (e := 2) (m := 1) (d := 12) (xv := .own 67) hx18 tbok rfl rfl rfl rfl (x_src_o (e := 2))) ?_
  refine SRun.ck tbok 1 ⟨70, [(0, vl eCandidate aList), (1, vs aText), (2, vl eSite aSites), (3, vl eDescription aDescriptions), (11, vs x5.Code), (12, .own 68), (13, vi s8.1)], [(68, oa 2 1 (eI .i64) x18)]⟩ ?_
  refine SRun.nil ?_
  obtain rfl := inj h
  exact q_bn (q_j ((Le.sub' ([(0, vl eCandidate aList), (1, vs aText), (2, vl eSite aSites), (3, vl eDescription aDescriptions), (11, vs x5.Code), (12, .own 68), (13, vi s8.1)] : List (Nat × SV)) ([(68, oa 2 1 (eI .i64) x18)] : List (Nat × SO)) (by kernel_rfl) (by kernel_rfl)).trans ((Le.ren' (d := 68) (e := 12) (by kernel_rfl) (by kernel_rfl) (by kernel_rfl)).trans (Le.sub0))))
  refine swp_skip ?_
  obtain rfl := inj h
  exact q_bn (q_j (Le.sub0))
  refine swp_reg ?_
  refine SRun.ck tbok 3 ⟨70, [(0, vl eCandidate aList), (1, vs aText), (2, vl eSite aSites), (3, vl eDescription aDescriptions), (11, vs x5.Code), (12, .own 12), (13, vi (w64 (s8.1 + 1)))], [(12, oa 2 1 (eI .i64) j10)]⟩ ?_
  refine SRun.nil ?_
  obtain rfl := inj h
  exact q_l (Le.sub0)
  refine swp_exit ?_
  obtain rfl := inj h
  exact nx_e (q_re (q_bh (q_j (Le.sub0))))
  refine srk tbok ⟨70, [(8, .own 12), (9, vi 0)], [(12, oa 2 1 (eI .i64) j6)]⟩ ?_
  refine swp_ret ?_
  obtain rfl := inj h
  exact q_fr (f2 (fo (eI_flat .i64)) fv)
theorem ents29 : Ents Tryz.prog 29 := ents_of Tryz.func29 (by kernel_rfl) rfl
noncomputable def slices_Concat_Description (aSlices : (List (List Description))) : Option ((List Description)) :=
  (((forS (aSlices.length : Int) (fun (i3 : Int) (s3 : Int) => ((at' aSlices i3).bind fun x7 => (bif (decide ((w64 (s3 + (x7.length : Int))) < 0)) then none else some (w64 (s3 + (x7.length : Int)))))) (fun (s3 : Int) => s3) 0 0)).bind fun (j1 : Int) => ((grow' j1).bind fun _ => (((forS (aSlices.length : Int) (fun (i11 : Int) (s11 : (List Description)) => ((at' aSlices i11).bind fun x15 => ((app' s11 x15).bind fun x16 => some x16))) (fun (s11 : (List Description)) => s11) 0 ([] : List Description))).bind fun (j9 : (List Description)) => some j9)))
theorem slices_Concat_Description_run (aSlices : (List (List Description))) (r : (List Description)) (h : slices_Concat_Description aSlices = some r) : SCall Tryz.prog 55 [.v (vl (eL eDescription) aSlices)] ⟨[.own 80 6 r.length (r.map eDescription)], [], false⟩ := by
  refine scall_in Tryz.func55 rfl [(.tmp 2)] rfl (fun r => ⟨[.own 80 6 r.length (r.map eDescription)], [], false⟩) (r := r) ?_
  unfold slices_Concat_Description at h
  refine srk tbok ⟨36, [(0, vl (eL eDescription) aSlices)], []⟩ ?_
  refine srk tbok ⟨36, [(0, vl (eL eDescription) aSlices), (3, vi 0)], []⟩ ?_
  refine swp_seq ?_
  refine srk tbok ⟨36, [(0, vl (eL eDescription) aSlices), (3, vi 0), (9, vl (eL eDescription) aSlices), (10, vi (aSlices.length : Int)), (11, vi 0)], []⟩ ?_
  refine swp_seqJ h (fun j1 => ⟨36, [(0, vl (eL eDescription) aSlices), (3, vi j1)], []⟩) (fun v2 h => ?_) (fun j1 h => ?_)
  refine swp_blk (a := v2) ?_
  refine swp_lpL (r := v2) (s := (0, 0)) _ (fun s3 => ⟨36, [(0, vl (eL eDescription) aSlices), (3, vi s3.2), (9, vl (eL eDescription) aSlices), (10, vi (aSlices.length : Int)), (11, vi s3.1)], []⟩) _ (Le.sub0) h (fun s3 v4 h => ?_)
  refine srk tbok ⟨36, [(0, vl (eL eDescription) aSlices), (3, vi s3.2), (9, vl (eL eDescription) aSlices), (10, vi (aSlices.length : Int)), (11, vi s3.1), (12, vb (decide (s3.1 < (aSlices.length : Int))))], []⟩ ?_
  refine swp_seq ?_
  refine swp_cd h (fun h => ?_) fun h => ?_
  refine swp_skip ?_
  refine nx_n ?_
  refine swp_seq ?_
  refine swp_seqJ h (fun j5 => ⟨36, [(0, vl (eL eDescription) aSlices), (3, vi j5), (9, vl (eL eDescription) aSlices), (10, vi (aSlices.length : Int)), (11, vi s3.1)], []⟩) (fun v6 h => ?_) (fun j5 h => ?_)
  refine swp_blk (a := v6) ?_
  refine sr ?_
  obtain ⟨x7, hx7, h⟩ := bind_some h
  refine SRun.ls (x_index (L := aSlices) (f := (eL eDescription)) (ti := ti112) (tj := ti36) (e := 36) (k := .i64) tbok rfl hx7) ?_
  refine ckn tbok 2 ⟨36, [(0, vl (eL eDescription) aSlices), (3, vi s3.2), (5, vl eDescription x7), (9, vl (eL eDescription) aSlices), (10, vi (aSlices.length : Int)), (11, vi s3.1)], []⟩ ?_
  refine srk tbok ⟨36, [(0, vl (eL eDescription) aSlices), (3, vi (w64 (s3.2 + (x7.length : Int)))), (9, vl (eL eDescription) aSlices), (10, vi (aSlices.length : Int)), (11, vi s3.1)], []⟩ ?_
  refine srk tbok ⟨36, [(0, vl (eL eDescription) aSlices), (3, vi (w64 (s3.2 + (x7.length : Int)))), (9, vl (eL eDescription) aSlices), (10, vi (aSlices.length : Int)), (11, vi s3.1), (20, vb (decide ((w64 (s3.2 + (x7.length : Int))) < 0)))], []⟩ ?_
  refine swp_cd h (fun h => ?_) fun h => ?_
  refine swp_reg ?_
  exact dead h
  refine swp_skip ?_
  obtain rfl := inj h
  exact q_bn (q_j (Le.sub0))
  refine swp_reg ?_
  refine SRun.ck tbok 2 ⟨36, [(0, vl (eL eDescription) aSlices), (3, vi j5), (9, vl (eL eDescription) aSlices), (10, vi (aSlices.length : Int)), (11, vi (w64 (s3.1 + 1)))], []⟩ ?_
  refine SRun.nil ?_
  obtain rfl := inj h
  exact q_l (Le.sub0)
  refine swp_exit ?_
  obtain rfl := inj h
  exact nx_e (q_re (q_bh (q_j (Le.sub0))))
  refine sr ?_
  refine SRun.ck tbok 1 ⟨36, [(0, vl (eL eDescription) aSlices), (23, vi j1)], []⟩ ?_
  obtain ⟨x8, hx8, h⟩ := bind_some h
  refine SRun.ls (lstep_callV nil0 (f := 76) (caps := []) (xs := [.tr (.sl 0 []), vi j1]) (ys := [.tr (.sl 0 []), vi j1]) (res := ⟨[.own 80 6 ([] : List Description).length (([] : List Description).map eDescription)], [], true⟩) (x := .own 24) (y := some (oa 80 6 eDescription ([] : List Description))) rfl (by kernel_rfl) (by kernel_rfl) (by kernel_rfl) (by kernel_rfl) (by kernel_rfl) ents76 (grow_nil eDescription Tryz.growDescription 76 80 rfl rfl _ _ 6 rfl rfl (by kernel_rfl) (by kernel_rfl) (by kernel_rfl) (by decide) j1 _ hx8 ([] : List Description) rfl) (nil0_of rfl) rfl (fun _ => rfl) (by kernel_rfl)) ?_
  refine ckn tbok 1 ⟨36, [(0, vl (eL eDescription) aSlices), (6, .own 24)], [(24, oa 80 6 eDescription ([] : List Description))]⟩ ?_
  refine swp_seq ?_
  refine srk tbok ⟨36, [(6, .own 24), (25, vl (eL eDescription) aSlices), (26, vi (aSlices.length : Int)), (27, vi 0)], [(24, oa 80 6 eDescription ([] : List Description))]⟩ ?_
  refine swp_seqJ h (fun j9 => ⟨36, [(6, .own 6)], [(6, oa 80 6 eDescription j9)]⟩) (fun v10 h => ?_) (fun j9 h => ?_)
  refine swp_blk (a := v10) ?_
  refine swp_lpL (r := v10) (s := (0, ([] : List Description))) _ (fun s11 => ⟨36, [(6, .own 6), (25, vl (eL eDescription) aSlices), (26, vi (aSlices.length : Int)), (27, vi s11.1)], [(6, oa 80 6 eDescription s11.2)]⟩) _ ((Le.sub' ([(6, .own 24), (25, vl (eL eDescription) aSlices), (26, vi (aSlices.length : Int)), (27, vi 0)] : List (Nat × SV)) ([(24, oa 80 6 eDescription ([] : List Description))] : List (Nat × SO)) (by kernel_rfl) (by kernel_rfl)).trans ((Le.ren' (d := 24) (e := 6) (by kernel_rfl) (by kernel_rfl) (by kernel_rfl)).trans (Le.sub0))) h (fun s11 v12 h => ?_)
  refine srk tbok ⟨36, [(6, .own 6), (25, vl (eL eDescription) aSlices), (26, vi (aSlices.length : Int)), (27, vi s11.1), (28, vb (decide (s11.1 < (aSlices.length : Int))))], [(6, oa 80 6 eDescription s11.2)]⟩ ?_
  refine swp_seq ?_
  refine swp_cd h (fun h => ?_) fun h => ?_
  refine swp_skip ?_
  refine nx_n ?_
  refine swp_seq ?_
  refine swp_seqJ h (fun j13 => ⟨36, [(6, .own 6), (25, vl (eL eDescription) aSlices), (26, vi (aSlices.length : Int)), (27, vi s11.1)], [(6, oa 80 6 eDescription j13)]⟩) (fun v14 h => ?_) (fun j13 h => ?_)
  refine swp_blk (a := v14) ?_
  refine sr ?_
  obtain ⟨x15, hx15, h⟩ := bind_some h
  refine SRun.ls (x_index (L := aSlices) (f := (eL eDescription)) (ti := ti112) (tj := ti36) (e := 36) (k := .i64) tbok rfl hx15) ?_
  refine ckn tbok 2 ⟨36, [(6, .own 6), (8, vl eDescription x15), (25, vl (eL eDescription) aSlices), (26, vi (aSlices.length : Int)), (27, vi s11.1)], [(6, oa 80 6 eDescription s11.2)]⟩ ?_
  refine swp_reg ?_
  refine SRun.ck tbok 2 ⟨36, [(25, vl (eL eDescription) aSlices), (26, vi (aSlices.length : Int)), (27, vi s11.1), (31, .own 6), (32, vl eDescription x15)], [(6, oa 80 6 eDescription s11.2)]⟩ ?_
  obtain ⟨x16, hx16, h⟩ := bind_some h
  refine SRun.estep (x_append (f := eDescription) (t := 36) (ti := ti36) (tj := ti80) (zs := [.int .i64 0, .int .i64 0, .string (ByteArray.mk #[]), .int .i64 0, .string (ByteArray.mk #[]), .string (ByteArray.mk #[])]) (e := 80) (m := 6) (d := 6) (xv := vl eDescription x15) hx16 tbok rfl rfl rfl rfl (src_e (fun _ => rfl))) ?_
  refine SRun.ck tbok 1 ⟨36, [(6, .own 33), (25, vl (eL eDescription) aSlices), (26, vi (aSlices.length : Int)), (27, vi s11.1)], [(33, oa 80 6 eDescription x16)]⟩ ?_
  refine SRun.nil ?_
  obtain rfl := inj h
  exact q_bn (q_j ((Le.sub' ([(6, .own 33), (25, vl (eL eDescription) aSlices), (26, vi (aSlices.length : Int)), (27, vi s11.1)] : List (Nat × SV)) ([(33, oa 80 6 eDescription x16)] : List (Nat × SO)) (by kernel_rfl) (by kernel_rfl)).trans ((Le.ren' (d := 33) (e := 6) (by kernel_rfl) (by kernel_rfl) (by kernel_rfl)).trans (Le.sub0))))
  refine swp_reg ?_
  refine SRun.ck tbok 2 ⟨36, [(6, .own 6), (25, vl (eL eDescription) aSlices), (26, vi (aSlices.length : Int)), (27, vi (w64 (s11.1 + 1)))], [(6, oa 80 6 eDescription j13)]⟩ ?_
  refine SRun.nil ?_
  obtain rfl := inj h
  exact q_l (Le.sub0)
  refine swp_exit ?_
  obtain rfl := inj h
  exact nx_e (q_re (q_bh (q_j (Le.sub0))))
  refine srk tbok ⟨36, [(2, .own 6)], [(6, oa 80 6 eDescription j9)]⟩ ?_
  refine swp_ret ?_
  obtain rfl := inj h
  exact q_fr (f1 (fo eDescription_flat))
theorem ents55 : Ents Tryz.prog 55 := ents_of Tryz.func55 (by kernel_rfl) rfl
noncomputable def impl_LostWithout (aList : (List Candidate)) (aText : ByteArray) (aSites : (List Site)) (aDescriptions : (List Description)) : Option ((List Int) × Int) :=
  ((impl_question_code (question.mk aText aSites aDescriptions) aList).bind fun x1 => (((bif (x1 != 0) then some (.inr (([] : List Int), x1)) else (bif ((aList.length : Int) == 0) then some (.inr (([] : List Int), 4)) else some (.inl ())))).bind (Sum.elim (fun (_ : Unit) => ((impl_question_answers (question.mk aText aSites aDescriptions) aList).bind fun x4 => ((at' x4 0).bind fun x5 => (((forS (aDescriptions.length : Int) (fun (i8 : Int) (s8 : question × (List Int)) => ((part' aDescriptions 0 i8).bind fun x12 => ((part' aDescriptions (w64 (i8 + 1)) (aDescriptions.length : Int)).bind fun x13 => ((slices_Concat_Description ([x12, x13] : List (List Description))).bind fun x14 => ((impl_question_answers (question.mk s8.1.text s8.1.sites x14) aList).bind fun x15 => ((at' x15 0).bind fun x16 => (bif (!(x16.Code.toList == x5.Code.toList)) then ((app' s8.2 ([i8] : List Int)).bind fun x17 => some ((question.mk s8.1.text s8.1.sites x14), x17)) else some ((question.mk s8.1.text s8.1.sites x14), s8.2)))))))) (fun (s8 : question × (List Int)) => s8.2) 0 ((question.mk aText aSites aDescriptions), ([] : List Int)))).bind fun (j6 : (List Int)) => some (j6, 0))))) some)))
theorem impl_LostWithout_run (aList : (List Candidate)) (aText : ByteArray) (aSites : (List Site)) (aDescriptions : (List Description)) (r : (List Int) × Int) (h : impl_LostWithout aList aText aSites aDescriptions = some r) : SCall Tryz.prog 30 [.v (vl eCandidate aList), .v (vs aText), .v (vl eSite aSites), .v (vl eDescription aDescriptions)] ⟨[.own 2 1 r.1.length (r.1.map (eI .i64)), .v (vi r.2)], [], false⟩ := by
  refine scall_in Tryz.func30 rfl [(.tmp 8), (.tmp 9)] rfl (fun r => ⟨[.own 2 1 r.1.length (r.1.map (eI .i64)), .v (vi r.2)], [], false⟩) (r := r) ?_
  unfold impl_LostWithout at h
  refine srk tbok ⟨65, [(0, vl eCandidate aList), (1, vs aText), (2, vl eSite aSites), (3, vl eDescription aDescriptions)], []⟩ ?_
  refine sr ?_
  refine SRun.ck tbok 3 ⟨65, [(0, vl eCandidate aList), (3, vl eDescription aDescriptions), (15, vs aText), (16, vl eSite aSites), (17, vl eDescription aDescriptions)], []⟩ ?_
  refine SRun.ls (x_lstep_build (v := .agg [vs aText, vl eSite aSites, vl eDescription aDescriptions]) tbok rfl) ?_
  refine ckn tbok 2 ⟨65, [(0, vl eCandidate aList), (3, vl eDescription aDescriptions), (10, .ref 10 0)], [(10, .box [vs aText, vl eSite aSites, vl eDescription aDescriptions])]⟩ ?_
  refine sr ?_
  refine SRun.ck tbok 2 ⟨65, [(0, vl eCandidate aList), (3, vl eDescription aDescriptions), (10, .ref 10 0), (19, .agg [vs aText, vl eSite aSites, vl eDescription aDescriptions]), (20, vl eCandidate aList)], [(10, .box [vs aText, vl eSite aSites, vl eDescription aDescriptions])]⟩ ?_
  obtain ⟨x1, hx1, h⟩ := bind_some h
  refine SRun.ls (xc ents43 (impl_question_code_run (question.mk aText aSites aDescriptions) aList _ hx1)) ?_
  refine ckn tbok 1 ⟨65, [(0, vl eCandidate aList), (3, vl eDescription aDescriptions), (10, .ref 10 0), (11, vi x1)], [(10, .box [vs aText, vl eSite aSites, vl eDescription aDescriptions])]⟩ ?_
  refine swp_seq ?_
  refine swp_seqE (r := r) h (fun j2 => ⟨65, [(0, vl eCandidate aList), (3, vl eDescription aDescriptions), (10, .ref 10 0)], [(10, .box [vs aText, vl eSite aSites, vl eDescription aDescriptions])]⟩) (fun v3 h => ?_) (fun j2 h => ?_)
  refine swp_blk (a := v3) ?_
  refine srk tbok ⟨65, [(0, vl eCandidate aList), (3, vl eDescription aDescriptions), (10, .ref 10 0), (11, vi x1), (22, vb (x1 != 0))], [(10, .box [vs aText, vl eSite aSites, vl eDescription aDescriptions])]⟩ ?_
  refine swp_cd h (fun h => ?_) fun h => ?_
  refine srk tbok ⟨65, [(8, .own 8), (9, vi x1)], [(8, oa 2 1 (eI .i64) ([] : List Int))]⟩ ?_
  refine swp_ret ?_
  obtain rfl := inj h
  exact q_br (q_rr (q_fr (f2 (fo (eI_flat .i64)) fv)))
  refine srk tbok ⟨65, [(0, vl eCandidate aList), (3, vl eDescription aDescriptions), (10, .ref 10 0), (26, vb ((aList.length : Int) == 0))], [(10, .box [vs aText, vl eSite aSites, vl eDescription aDescriptions])]⟩ ?_
  refine swp_cd h (fun h => ?_) fun h => ?_
  refine srk tbok ⟨65, [(8, .own 8), (9, vi 4)], [(8, oa 2 1 (eI .i64) ([] : List Int))]⟩ ?_
  refine swp_ret ?_
  obtain rfl := inj h
  exact q_br (q_rr (q_fr (f2 (fo (eI_flat .i64)) fv)))
  refine swp_skip ?_
  obtain rfl := inj h
  exact q_bn (q_l (Le.sub0))
  refine sr ?_
  refine SRun.ck tbok 2 ⟨65, [(0, vl eCandidate aList), (3, vl eDescription aDescriptions), (10, .ref 10 0), (30, .agg [vs aText, vl eSite aSites, vl eDescription aDescriptions]), (31, vl eCandidate aList)], [(10, .box [vs aText, vl eSite aSites, vl eDescription aDescriptions])]⟩ ?_
  obtain ⟨x4, hx4, h⟩ := bind_some h
  refine SRun.ls (xc ents51 (impl_question_answers_run (question.mk aText aSites aDescriptions) aList _ hx4)) ?_
  obtain ⟨x5, hx5, h⟩ := bind_some h
  refine SRun.ls (x_index_own (d := 32) (L := x4) (f := eAnswer) (ti := ti43) (tj := ti29) (e := 29) (e' := 29) (m := 3) (k := .i64) tbok rfl hx5) ?_
  refine SRun.ck tbok 1 ⟨65, [(0, vl eCandidate aList), (3, vl eDescription aDescriptions), (10, .ref 10 0), (34, .eref 32 3 (Int.toNat 0) 0)], [(10, .box [vs aText, vl eSite aSites, vl eDescription aDescriptions]), (32, oa 29 3 eAnswer x4)]⟩ ?_
  refine SRun.ls (x_load_own (d := 32) (m := 3) (j := 0) (L := x4) (f := eAnswer) (ti := ti9) (e := 29) (v := vs x5.Code) tbok rfl hx5) ?_
  refine ckn tbok 1 ⟨65, [(0, vl eCandidate aList), (3, vl eDescription aDescriptions), (10, .ref 10 0), (12, vs x5.Code)], [(10, .box [vs aText, vl eSite aSites, vl eDescription aDescriptions])]⟩ ?_
  refine srk tbok ⟨65, [(0, vl eCandidate aList), (3, vl eDescription aDescriptions), (10, .ref 10 0), (12, vs x5.Code), (13, .own 13)], [(10, .box [vs aText, vl eSite aSites, vl eDescription aDescriptions]), (13, oa 2 1 (eI .i64) ([] : List Int))]⟩ ?_
  refine swp_seq ?_
  refine srk tbok ⟨65, [(0, vl eCandidate aList), (3, vl eDescription aDescriptions), (10, .ref 10 0), (12, vs x5.Code), (13, .own 13), (37, vi (aDescriptions.length : Int)), (38, vi 0)], [(10, .box [vs aText, vl eSite aSites, vl eDescription aDescriptions]), (13, oa 2 1 (eI .i64) ([] : List Int))]⟩ ?_
  refine swp_seqJ h (fun j6 => ⟨65, [(13, .own 13)], [(13, oa 2 1 (eI .i64) j6)]⟩) (fun v7 h => ?_) (fun j6 h => ?_)
  refine swp_blk (a := v7) ?_
  refine swp_lpL (r := v7) (s := (0, (question.mk aText aSites aDescriptions), ([] : List Int))) _ (fun s8 => ⟨65, [(0, vl eCandidate aList), (3, vl eDescription aDescriptions), (10, .ref 10 0), (12, vs x5.Code), (13, .own 13), (37, vi (aDescriptions.length : Int)), (38, vi s8.1)], [(10, .box (tc equestion s8.2.1)), (13, oa 2 1 (eI .i64) s8.2.2)]⟩) _ (Le.sub0) h (fun s8 v9 h => ?_)
  refine srk tbok ⟨65, [(0, vl eCandidate aList), (3, vl eDescription aDescriptions), (10, .ref 10 0), (12, vs x5.Code), (13, .own 13), (37, vi (aDescriptions.length : Int)), (38, vi s8.1), (39, vb (decide (s8.1 < (aDescriptions.length : Int))))], [(10, .box (tc equestion s8.2.1)), (13, oa 2 1 (eI .i64) s8.2.2)]⟩ ?_
  refine swp_seq ?_
  refine swp_cd h (fun h => ?_) fun h => ?_
  refine swp_skip ?_
  refine nx_n ?_
  refine swp_seq ?_
  refine swp_seqJ h (fun j10 => ⟨65, [(0, vl eCandidate aList), (3, vl eDescription aDescriptions), (10, .ref 10 0), (12, vs x5.Code), (13, .own 13), (37, vi (aDescriptions.length : Int)), (38, vi s8.1)], [(10, .box (tc equestion j10.1)), (13, oa 2 1 (eI .i64) j10.2)]⟩) (fun v11 h => ?_) (fun j10 h => ?_)
  refine swp_blk (a := v11) ?_
  refine srk tbok ⟨65, [(0, vl eCandidate aList), (3, vl eDescription aDescriptions), (10, .ref 10 0), (12, vs x5.Code), (13, .own 13), (14, vi s8.1), (37, vi (aDescriptions.length : Int)), (38, vi s8.1)], [(10, .box (tc equestion s8.2.1)), (13, oa 2 1 (eI .i64) s8.2.2)]⟩ ?_
  refine swp_seq ?_
  refine swp_dr mixed ?_
  refine DGo.ck tbok false 2 ⟨65, [(0, vl eCandidate aList), (3, vl eDescription aDescriptions), (10, .ref 10 0), (12, vs x5.Code), (13, .own 13), (14, vi s8.1), (37, vi (aDescriptions.length : Int)), (38, vi s8.1), (41, vl eDescription aDescriptions), (42, vi s8.1)], [(10, .box (tc equestion s8.2.1)), (13, oa 2 1 (eI .i64) s8.2.2)]⟩ ?_
  obtain ⟨x12, hx12, h⟩ := bind_some h
  refine DGo.step (x_slice (m := 6) (f := eDescription) (ti := ti36) (tj := ti80) (e := 80) hx12 (fun _ => rfl) tbok rfl) ?_
  refine DGo.ck tbok false 3 ⟨65, [(0, vl eCandidate aList), (3, vl eDescription aDescriptions), (10, .ref 10 0), (12, vs x5.Code), (13, .own 13), (14, vi s8.1), (37, vi (aDescriptions.length : Int)), (38, vi s8.1), (43, vl eDescription x12), (44, vl eDescription aDescriptions), (46, vi (w64 (s8.1 + 1)))], [(10, .box (tc equestion s8.2.1)), (13, oa 2 1 (eI .i64) s8.2.2)]⟩ ?_
  obtain ⟨x13, hx13, h⟩ := bind_some h
  refine DGo.step (x_slice (m := 6) (f := eDescription) (ti := ti36) (tj := ti80) (e := 80) hx13 (fun _ => rfl) tbok rfl) ?_
  refine DGo.ck tbok false 1 ⟨65, [(0, vl eCandidate aList), (3, vl eDescription aDescriptions), (10, .ref 10 0), (12, vs x5.Code), (13, .own 13), (14, vi s8.1), (37, vi (aDescriptions.length : Int)), (38, vi s8.1), (48, .own 48)], [(10, .box (tc equestion s8.2.1)), (13, oa 2 1 (eI .i64) s8.2.2), (48, oa 36 1 (eL eDescription) ([x12, x13] : List (List Description)))]⟩ ?_
  obtain ⟨x14, hx14, h⟩ := bind_some h
  refine DGo.stepW false [48] (xc ents55 (slices_Concat_Description_run ([x12, x13] : List (List Description)) _ hx14)) ?_
  refine DGo.ck tbok false 1 ⟨65, [(0, vl eCandidate aList), (3, vl eDescription aDescriptions), (10, .ref 10 0), (12, vs x5.Code), (13, .own 13), (14, vi s8.1), (37, vi (aDescriptions.length : Int)), (38, vi s8.1), (49, .own 49), (50, .ref 10 2)], [(10, .box (tc equestion s8.2.1)), (13, oa 2 1 (eI .i64) s8.2.2), (49, oa 80 6 eDescription x14)]⟩ ?_
  refine DGo.seq (by kernel_rfl) (by kernel_rfl) ?_
  refine ckn tbok 1 ⟨65, [(0, vl eCandidate aList), (3, vl eDescription aDescriptions), (10, .ref 10 0), (12, vs x5.Code), (13, .own 13), (14, vi s8.1), (37, vi (aDescriptions.length : Int)), (38, vi s8.1)], [(10, .box [vs s8.2.1.text, vl eSite s8.2.1.sites, .own 49]), (13, oa 2 1 (eI .i64) s8.2.2), (49, oa 80 6 eDescription x14)]⟩ ?_
  refine sr ?_
  refine SRun.ck tbok 2 ⟨65, [(0, vl eCandidate aList), (3, vl eDescription aDescriptions), (10, .ref 10 0), (12, vs x5.Code), (13, .own 13), (14, vi s8.1), (37, vi (aDescriptions.length : Int)), (38, vi s8.1), (51, .agg [vs s8.2.1.text, vl eSite s8.2.1.sites, .own 49]), (52, vl eCandidate aList)], [(10, .box [vs s8.2.1.text, vl eSite s8.2.1.sites, .own 49]), (13, oa 2 1 (eI .i64) s8.2.2), (49, oa 80 6 eDescription x14)]⟩ ?_
  obtain ⟨x15, hx15, h⟩ := bind_some h
  refine SRun.ls (xc ents51 (impl_question_answers_run (question.mk s8.2.1.text s8.2.1.sites x14) aList _ hx15)) ?_
  obtain ⟨x16, hx16, h⟩ := bind_some h
  refine SRun.ls (x_index_own (d := 53) (L := x15) (f := eAnswer) (ti := ti43) (tj := ti29) (e := 29) (e' := 29) (m := 3) (k := .i64) tbok rfl hx16) ?_
  refine SRun.ck tbok 1 ⟨65, [(0, vl eCandidate aList), (3, vl eDescription aDescriptions), (10, .ref 10 0), (12, vs x5.Code), (13, .own 13), (14, vi s8.1), (37, vi (aDescriptions.length : Int)), (38, vi s8.1), (55, .eref 53 3 (Int.toNat 0) 0)], [(10, .box [vs s8.2.1.text, vl eSite s8.2.1.sites, .own 49]), (13, oa 2 1 (eI .i64) s8.2.2), (49, oa 80 6 eDescription x14), (53, oa 29 3 eAnswer x15)]⟩ ?_
  refine SRun.ls (x_load_own (d := 53) (m := 3) (j := 0) (L := x15) (f := eAnswer) (ti := ti9) (e := 29) (v := vs x16.Code) tbok rfl hx16) ?_
  refine ckn tbok 2 ⟨65, [(0, vl eCandidate aList), (3, vl eDescription aDescriptions), (10, .ref 10 0), (12, vs x5.Code), (13, .own 13), (14, vi s8.1), (37, vi (aDescriptions.length : Int)), (38, vi s8.1), (58, vb (!(x16.Code.toList == x5.Code.toList)))], [(10, .box [vs s8.2.1.text, vl eSite s8.2.1.sites, .own 49]), (13, oa 2 1 (eI .i64) s8.2.2), (49, oa 80 6 eDescription x14)]⟩ ?_
  refine swp_cd h (fun h => ?_) fun h => ?_
  refine swp_reg ?_
  refine SRun.ck tbok 3 ⟨65, [(0, vl eCandidate aList), (3, vl eDescription aDescriptions), (10, .ref 10 0), (12, vs x5.Code), (37, vi (aDescriptions.length : Int)), (38, vi s8.1), (59, .own 13), (61, .own 61)], [(10, .box [vs s8.2.1.text, vl eSite s8.2.1.sites, .own 49]), (13, oa 2 1 (eI .i64) s8.2.2), (49, oa 80 6 eDescription x14), (61, oa 2 1 (eI .i64) ([s8.1] : List Int))]⟩ ?_
  obtain ⟨x17, hx17, h⟩ := bind_some h
  refine SRun.estep (x_append (f := (eI .i64)) (t := 54) (ti := ti54) (tj := ti2) (zs := [.int .i64 0]) (e := 2) (m := 1) (d := 13) (xv := .own 61) hx17 tbok rfl rfl rfl rfl (x_src_o (e := 2))) ?_
  refine SRun.ck tbok 1 ⟨65, [(0, vl eCandidate aList), (3, vl eDescription aDescriptions), (10, .ref 10 0), (12, vs x5.Code), (13, .own 62), (37, vi (aDescriptions.length : Int)), (38, vi s8.1)], [(10, .box [vs s8.2.1.text, vl eSite s8.2.1.sites, .own 49]), (49, oa 80 6 eDescription x14), (62, oa 2 1 (eI .i64) x17)]⟩ ?_
  refine SRun.nil ?_
  obtain rfl := inj h
  exact q_bn (q_j ((Le.frz' (d := 49) (e := 80) (m := 6) (n := x14.length) (es := x14.map eDescription) (by kernel_rfl) (by kernel_rfl)).trans ((Le.sub' ([(0, vl eCandidate aList), (3, vl eDescription aDescriptions), (10, .ref 10 0), (12, vs x5.Code), (13, .own 62), (37, vi (aDescriptions.length : Int)), (38, vi s8.1)] : List (Nat × SV)) ([(10, .box [vs s8.2.1.text, vl eSite s8.2.1.sites, vl eDescription x14]), (62, oa 2 1 (eI .i64) x17)] : List (Nat × SO)) (by kernel_rfl) (by kernel_rfl)).trans ((Le.ren' (d := 62) (e := 13) (by kernel_rfl) (by kernel_rfl) (by kernel_rfl)).trans (Le.sub0)))))
  refine swp_skip ?_
  obtain rfl := inj h
  exact q_bn (q_j ((Le.frz' (d := 49) (e := 80) (m := 6) (n := x14.length) (es := x14.map eDescription) (by kernel_rfl) (by kernel_rfl)).trans (Le.sub0)))
  refine swp_reg ?_
  refine SRun.ck tbok 2 ⟨65, [(0, vl eCandidate aList), (3, vl eDescription aDescriptions), (10, .ref 10 0), (12, vs x5.Code), (13, .own 13), (37, vi (aDescriptions.length : Int)), (38, vi (w64 (s8.1 + 1)))], [(10, .box (tc equestion j10.1)), (13, oa 2 1 (eI .i64) j10.2)]⟩ ?_
  refine SRun.nil ?_
  obtain rfl := inj h
  exact q_l (Le.sub0)
  refine swp_exit ?_
  obtain rfl := inj h
  exact nx_e (q_re (q_bh (q_j (Le.sub0))))
  refine srk tbok ⟨65, [(8, .own 13), (9, vi 0)], [(13, oa 2 1 (eI .i64) j6)]⟩ ?_
  refine swp_ret ?_
  obtain rfl := inj h
  exact q_fr (f2 (fo (eI_flat .i64)) fv)
theorem ents30 : Ents Tryz.prog 30 := ents_of Tryz.func30 (by kernel_rfl) rfl
noncomputable def laws_eqInt64S (aA : (List Int)) (aB : (List Int)) : Option (Bool) :=
  (bif ((aA.length : Int) != (aB.length : Int)) then some false else (((forN (aA.length : Int) (fun (i3 : Int) (_ : Unit) => ((at' aA i3).bind fun x7 => ((at' aB i3).bind fun x8 => (bif (x7 != x8) then some (.inr (.inr false)) else some (.inl ()))))) (fun (_ : Unit) => .inl ()) 0 ())).bind (Sum.elim (fun (_ : Unit) => some true) some)))
theorem laws_eqInt64S_run (aA : (List Int)) (aB : (List Int)) (r : Bool) (h : laws_eqInt64S aA aB = some r) : SCall Tryz.prog 31 [.v (vl (eI .i64) aA), .v (vl (eI .i64) aB)] ⟨[.v (vb r)], [], false⟩ := by
  refine scall_in Tryz.func31 rfl [(.tmp 4)] rfl (fun r => ⟨[.v (vb r)], [], false⟩) (r := r) ?_
  unfold laws_eqInt64S at h
  refine srk tbok ⟨26, [(0, vl (eI .i64) aA), (1, vl (eI .i64) aB)], []⟩ ?_
  refine swp_seq ?_
  refine srk tbok ⟨26, [(0, vl (eI .i64) aA), (1, vl (eI .i64) aB), (10, vb ((aA.length : Int) != (aB.length : Int)))], []⟩ ?_
  refine swp_cd h (fun h => ?_) fun h => ?_
  refine srk tbok ⟨26, [(4, vb false)], []⟩ ?_
  refine swp_ret ?_
  obtain rfl := inj h
  exact nx_r (q_fr (f1 fv))
  refine swp_skip ?_
  refine nx_n ?_
  refine swp_seq ?_
  refine srk tbok ⟨26, [(0, vl (eI .i64) aA), (1, vl (eI .i64) aB), (5, vi 0)], []⟩ ?_
  refine swp_seqE (r := r) h (fun j1 => ⟨26, [], []⟩) (fun v2 h => ?_) (fun j1 h => ?_)
  refine swp_blk (a := v2) ?_
  refine swp_lpL (r := v2) (s := (0, ())) _ (fun s3 => ⟨26, [(0, vl (eI .i64) aA), (1, vl (eI .i64) aB), (5, vi s3.1)], []⟩) _ (Le.sub0) h (fun s3 v4 h => ?_)
  refine swp_seq ?_
  refine srk tbok ⟨26, [(0, vl (eI .i64) aA), (1, vl (eI .i64) aB), (5, vi s3.1), (14, vb (decide (s3.1 < (aA.length : Int))))], []⟩ ?_
  refine swp_cd h (fun h => ?_) fun h => ?_
  refine swp_skip ?_
  refine nx_n ?_
  refine swp_seq ?_
  refine swp_seqL (r := v4) h (fun j5 => ⟨26, [(0, vl (eI .i64) aA), (1, vl (eI .i64) aB), (5, vi s3.1)], []⟩) (fun v6 h => ?_) (fun j5 h => ?_)
  refine swp_blk (a := v6) ?_
  refine swp_seq ?_
  refine swp_dr mixed ?_
  refine DGo.ck tbok false 2 ⟨26, [(0, vl (eI .i64) aA), (1, vl (eI .i64) aB), (5, vi s3.1), (17, vl (eI .i64) aA), (18, vi s3.1)], []⟩ ?_
  obtain ⟨x7, hx7, h⟩ := bind_some h
  refine DGo.step (x_index (L := aA) (f := (eI .i64)) (ti := ti54) (tj := ti2) (e := 2) (k := .i64) tbok rfl hx7) ?_
  refine DGo.ck tbok false 3 ⟨26, [(0, vl (eI .i64) aA), (1, vl (eI .i64) aB), (5, vi s3.1), (20, vi x7), (21, vl (eI .i64) aB), (22, vi s3.1)], []⟩ ?_
  obtain ⟨x8, hx8, h⟩ := bind_some h
  refine DGo.step (x_index (L := aB) (f := (eI .i64)) (ti := ti54) (tj := ti2) (e := 2) (k := .i64) tbok rfl hx8) ?_
  refine DGo.ck tbok false 2 ⟨26, [(0, vl (eI .i64) aA), (1, vl (eI .i64) aB), (5, vi s3.1), (25, vb (x7 != x8))], []⟩ ?_
  refine DGo.nx ?_
  refine swp_cd h (fun h => ?_) fun h => ?_
  refine srk tbok ⟨26, [(4, vb false)], []⟩ ?_
  refine swp_ret ?_
  obtain rfl := inj h
  exact q_br (q_rr (q_rr (q_br (q_rr (q_fr (f1 fv))))))
  refine swp_skip ?_
  obtain rfl := inj h
  exact q_bn (q_l (Le.sub0))
  refine swp_reg ?_
  refine SRun.ck tbok 3 ⟨26, [(0, vl (eI .i64) aA), (1, vl (eI .i64) aB), (5, vi (w64 (s3.1 + 1)))], []⟩ ?_
  refine SRun.nil ?_
  obtain rfl := inj h
  exact q_l (Le.sub0)
  refine swp_exit ?_
  obtain rfl := inj h
  exact nx_e (q_re (q_bh (q_l (Le.sub0))))
  refine srk tbok ⟨26, [(4, vb true)], []⟩ ?_
  refine swp_ret ?_
  obtain rfl := inj h
  exact q_fr (f1 fv)
theorem ents31 : Ents Tryz.prog 31 := ents_of Tryz.func31 (by kernel_rfl) rfl
noncomputable def laws_markInt64S (aA : (List Int)) (aK : Int) : Option (Int × (List Int)) :=
  (((forH (fun (i3 : Int) (s3 : Int × (List Int)) => (decide (i3 < (s3.2.length : Int)))) (fun (i3 : Int) (s3 : Int × (List Int)) => ((at' s3.2 i3).bind fun _ => some ((w64 (s3.1 + 1)), (List.set s3.2 (Int.toNat i3) s3.1)))) (fun (s3 : Int × (List Int)) => (s3.1, s3.2)) 0 (aK, aA))).bind fun (j1 : Int × (List Int)) => some (j1.1, j1.2))
theorem laws_markInt64S_run (aA : (List Int)) (aK : Int) (r : Int × (List Int)) (h : laws_markInt64S aA aK = some r) : SCall Tryz.prog 32 [.o (oa 2 1 (eI .i64) aA), .v (vi aK)] ⟨[.v (vi r.1)], [(0, oa 2 1 (eI .i64) r.2)], false⟩ := by
  refine scall_in Tryz.func32 rfl [(.tmp 4)] rfl (fun r => ⟨[.v (vi r.1)], [(0, oa 2 1 (eI .i64) r.2)], false⟩) (r := r) ?_
  unfold laws_markInt64S at h
  refine srk tbok ⟨19, [(0, .own 1000000), (1, vi aK)], [(1000000, oa 2 1 (eI .i64) aA)]⟩ ?_
  refine swp_seq ?_
  refine srk tbok ⟨19, [(0, .own 1000000), (1, vi aK), (5, vi 0)], [(1000000, oa 2 1 (eI .i64) aA)]⟩ ?_
  refine swp_seqJ h (fun j1 => ⟨19, [(1, vi j1.1)], [(1000000, oa 2 1 (eI .i64) j1.2)]⟩) (fun v2 h => ?_) (fun j1 h => ?_)
  refine swp_blk (a := v2) ?_
  refine swp_lpL (r := v2) (s := (0, aK, aA)) _ (fun s3 => ⟨19, [(0, .own 1000000), (1, vi s3.2.1), (5, vi s3.1)], [(1000000, oa 2 1 (eI .i64) s3.2.2)]⟩) _ (Le.sub0) h (fun s3 v4 h => ?_)
  refine swp_seq ?_
  refine srk tbok ⟨19, [(0, .own 1000000), (1, vi s3.2.1), (5, vi s3.1), (9, vb (decide (s3.1 < (s3.2.2.length : Int))))], [(1000000, oa 2 1 (eI .i64) s3.2.2)]⟩ ?_
  refine swp_cd h (fun h => ?_) fun h => ?_
  refine swp_skip ?_
  refine nx_n ?_
  refine swp_seq ?_
  refine swp_seqJ h (fun j5 => ⟨19, [(0, .own 1000000), (1, vi j5.1), (5, vi s3.1)], [(1000000, oa 2 1 (eI .i64) j5.2)]⟩) (fun v6 h => ?_) (fun j5 h => ?_)
  refine swp_blk (a := v6) ?_
  refine sr ?_
  refine SRun.ck tbok 3 ⟨19, [(0, .own 1000000), (1, vi s3.2.1), (5, vi s3.1), (12, .own 1000000), (13, vi s3.1), (14, vi s3.2.1)], [(1000000, oa 2 1 (eI .i64) s3.2.2)]⟩ ?_
  obtain ⟨x7, hx7, h⟩ := bind_some h
  refine SRun.ls (x_index_own (d := 1000000) (L := s3.2.2) (f := (eI .i64)) (ti := ti54) (tj := ti2) (e := 2) (e' := 2) (m := 1) (k := .i64) tbok rfl hx7) ?_
  refine SRun.estep (x_store_own (d := 1000000) (m := 1) (j := 0) (L := s3.2.2) (f := (eI .i64)) (x := s3.2.1) (z := x7) (ti := ti2) (e := 2) (ts := [.int .i64 s3.2.1]) (vs := [vi s3.2.1]) (v := vi s3.2.1) tbok rfl rfl hx7) ?_
  refine SRun.nx ?_
  refine swp_reg ?_
  refine SRun.ck tbok 3 ⟨19, [(0, .own 1000000), (1, vi (w64 (s3.2.1 + 1))), (5, vi s3.1)], [(1000000, oa 2 1 (eI .i64) (List.set s3.2.2 (Int.toNat s3.1) s3.2.1))]⟩ ?_
  refine SRun.nil ?_
  obtain rfl := inj h
  exact q_bn (q_j (Le.sub0))
  refine swp_reg ?_
  refine SRun.ck tbok 3 ⟨19, [(0, .own 1000000), (1, vi j5.1), (5, vi (w64 (s3.1 + 1)))], [(1000000, oa 2 1 (eI .i64) j5.2)]⟩ ?_
  refine SRun.nil ?_
  obtain rfl := inj h
  exact q_l (Le.sub0)
  refine swp_exit ?_
  obtain rfl := inj h
  exact nx_e (q_re (q_bh (q_j (Le.sub0))))
  refine srk tbok ⟨19, [(4, vi j1.1)], [(1000000, oa 2 1 (eI .i64) j1.2)]⟩ ?_
  refine swp_ret ?_
  obtain rfl := inj h
  exact q_fr (fin_io (f1 fv) (y := oa 2 1 (eI .i64) j1.2) (by kernel_rfl) rfl (by kernel_rfl) (by kernel_rfl))
theorem ents32 : Ents Tryz.prog 32 := ents_of Tryz.func32 (by kernel_rfl) rfl
noncomputable def laws_heldInt64S (aA : (List Int)) (aK : Int) : Option (Int) :=
  (((forN (aA.length : Int) (fun (i3 : Int) (s3 : Int) => ((at' aA i3).bind fun x7 => (bif (x7 != s3) then some (.inr (.inr (-1))) else some (.inl (w64 (s3 + 1)))))) (fun (s3 : Int) => .inl s3) 0 aK)).bind (Sum.elim (fun (j1 : Int) => some j1) some))
theorem laws_heldInt64S_run (aA : (List Int)) (aK : Int) (r : Int) (h : laws_heldInt64S aA aK = some r) : SCall Tryz.prog 33 [.v (vl (eI .i64) aA), .v (vi aK)] ⟨[.v (vi r)], [], false⟩ := by
  refine scall_in Tryz.func33 rfl [(.tmp 4)] rfl (fun r => ⟨[.v (vi r)], [], false⟩) (r := r) ?_
  unfold laws_heldInt64S at h
  refine srk tbok ⟨21, [(0, vl (eI .i64) aA), (1, vi aK)], []⟩ ?_
  refine swp_seq ?_
  refine srk tbok ⟨21, [(0, vl (eI .i64) aA), (1, vi aK), (5, vi 0)], []⟩ ?_
  refine swp_seqE (r := r) h (fun j1 => ⟨21, [(1, vi j1)], []⟩) (fun v2 h => ?_) (fun j1 h => ?_)
  refine swp_blk (a := v2) ?_
  refine swp_lpL (r := v2) (s := (0, aK)) _ (fun s3 => ⟨21, [(0, vl (eI .i64) aA), (1, vi s3.2), (5, vi s3.1)], []⟩) _ (Le.sub0) h (fun s3 v4 h => ?_)
  refine swp_seq ?_
  refine srk tbok ⟨21, [(0, vl (eI .i64) aA), (1, vi s3.2), (5, vi s3.1), (9, vb (decide (s3.1 < (aA.length : Int))))], []⟩ ?_
  refine swp_cd h (fun h => ?_) fun h => ?_
  refine swp_skip ?_
  refine nx_n ?_
  refine swp_seq ?_
  refine swp_seqL (r := v4) h (fun j5 => ⟨21, [(0, vl (eI .i64) aA), (1, vi j5), (5, vi s3.1)], []⟩) (fun v6 h => ?_) (fun j5 h => ?_)
  refine swp_blk (a := v6) ?_
  refine swp_seq ?_
  refine sr ?_
  refine SRun.ck tbok 2 ⟨21, [(0, vl (eI .i64) aA), (1, vi s3.2), (5, vi s3.1), (12, vl (eI .i64) aA), (13, vi s3.1)], []⟩ ?_
  obtain ⟨x7, hx7, h⟩ := bind_some h
  refine SRun.ls (x_index (L := aA) (f := (eI .i64)) (ti := ti54) (tj := ti2) (e := 2) (k := .i64) tbok rfl hx7) ?_
  refine ckn tbok 3 ⟨21, [(0, vl (eI .i64) aA), (1, vi s3.2), (5, vi s3.1), (17, vb (x7 != s3.2))], []⟩ ?_
  refine swp_cd h (fun h => ?_) fun h => ?_
  refine srk tbok ⟨21, [(4, vi (-1))], []⟩ ?_
  refine swp_ret ?_
  obtain rfl := inj h
  exact nx_r (q_br (q_rr (q_rr (q_br (q_rr (q_fr (f1 fv)))))))
  refine swp_skip ?_
  refine nx_n ?_
  refine swp_reg ?_
  refine SRun.ck tbok 3 ⟨21, [(0, vl (eI .i64) aA), (1, vi (w64 (s3.2 + 1))), (5, vi s3.1)], []⟩ ?_
  refine SRun.nil ?_
  obtain rfl := inj h
  exact q_bn (q_l (Le.sub0))
  refine swp_reg ?_
  refine SRun.ck tbok 3 ⟨21, [(0, vl (eI .i64) aA), (1, vi j5), (5, vi (w64 (s3.1 + 1)))], []⟩ ?_
  refine SRun.nil ?_
  obtain rfl := inj h
  exact q_l (Le.sub0)
  refine swp_exit ?_
  obtain rfl := inj h
  exact nx_e (q_re (q_bh (q_l (Le.sub0))))
  refine srk tbok ⟨21, [(4, vi j1)], []⟩ ?_
  refine swp_ret ?_
  obtain rfl := inj h
  exact q_fr (f1 fv)
theorem ents33 : Ents Tryz.prog 33 := ents_of Tryz.func33 (by kernel_rfl) rfl
noncomputable def laws_FnExactLostWithout (aAList : (List Candidate)) (aAText : ByteArray) (aASites : (List Site)) (aADescriptions : (List Description)) : Option (Bool) :=
  (bif (decide ((aAText.size : Int) > 1048576)) then some true else ((laws_szCandidateS aAList 1048576).bind fun x1 => (bif (decide (x1 < 0)) then some true else ((laws_szSiteS aASites x1).bind fun x2 => (bif (decide (x2 < 0)) then some true else ((laws_szDescriptionS aADescriptions x2).bind fun x3 => (bif (decide (x3 < 0)) then some true else ((laws_toCandidateS aAList).bind fun x4 => ((laws_toSiteS aASites).bind fun x5 => ((laws_toDescriptionS aADescriptions).bind fun x6 => ((spec_LostWithout x4 aAText x5 x6).bind fun x7 => ((laws_toCandidateS aAList).bind fun x8 => ((laws_toSiteS aASites).bind fun x9 => ((laws_toDescriptionS aADescriptions).bind fun x10 => ((impl_LostWithout x8 aAText x9 x10).bind fun x11 => ((((laws_eqInt64S x11.1 x7.1).bind fun x12 => (bif (!x12) then some true else some (x11.2 != x7.2)))).bind fun (j13 : Bool) => (bif j13 then some false else ((laws_toCandidateS aAList).bind fun x15 => ((laws_eqCandidateS x8 x15).bind fun x16 => (bif (!x16) then some false else ((laws_toSiteS aASites).bind fun x17 => ((laws_eqSiteS x9 x17).bind fun x18 => (bif (!x18) then some false else ((laws_toDescriptionS aADescriptions).bind fun x19 => ((laws_eqDescriptionS x10 x19).bind fun x20 => (bif (!x20) then some false else ((laws_markCandidateS x8 1).bind fun x21 => ((laws_markSiteS x9 x21.1).bind fun x22 => ((laws_markDescriptionS x10 x22.1).bind fun x23 => (((bif (decide (x23.1 < 0)) then some true else ((laws_eqInt64S x11.1 x7.1).bind fun x24 => (bif (!x24) then some true else some (x11.2 != x7.2))))).bind fun (j25 : Bool) => (bif j25 then some false else ((laws_markInt64S x11.1 1).bind fun x27 => ((laws_heldInt64S x27.2 1).bind fun x28 => (bif (decide (x28 < 0)) then some false else (bif (x28 != x27.1) then some false else ((laws_toCandidateS aAList).bind fun x29 => ((laws_toSiteS aASites).bind fun x30 => ((laws_toDescriptionS aADescriptions).bind fun x31 => ((impl_LostWithout x29 aAText x30 x31).bind fun x32 => ((((laws_eqInt64S x32.1 x7.1).bind fun x33 => (bif (!x33) then some true else some (x32.2 != x7.2)))).bind fun (j34 : Bool) => (bif j34 then some false else ((laws_heldInt64S x27.2 1).bind fun x36 => (bif (decide (x36 < 0)) then some false else (bif (x36 != x27.1) then some false else some true))))))))))))))))))))))))))))))))))))))))))))
theorem laws_FnExactLostWithout_run (aAList : (List Candidate)) (aAText : ByteArray) (aASites : (List Site)) (aADescriptions : (List Description)) (r : Bool) (h : laws_FnExactLostWithout aAList aAText aASites aADescriptions = some r) : SCall Tryz.prog 6 [.v (vl eCandidate aAList), .v (vs aAText), .v (vl eSite aASites), .v (vl eDescription aADescriptions)] ⟨[.v (vb r)], [], false⟩ := by
  refine scall_in Tryz.func6 rfl [(.tmp 8)] rfl (fun r => ⟨[.v (vb r)], [], false⟩) (r := r) ?_
  unfold laws_FnExactLostWithout at h
  refine srk tbok ⟨150, [(0, vl eCandidate aAList), (1, vs aAText), (2, vl eSite aASites), (3, vl eDescription aADescriptions)], []⟩ ?_
  refine swp_seq ?_
  refine srk tbok ⟨150, [(0, vl eCandidate aAList), (1, vs aAText), (2, vl eSite aASites), (3, vl eDescription aADescriptions), (24, vb (decide ((aAText.size : Int) > 1048576)))], []⟩ ?_
  refine swp_cd h (fun h => ?_) fun h => ?_
  refine srk tbok ⟨150, [(8, vb true)], []⟩ ?_
  refine swp_ret ?_
  obtain rfl := inj h
  exact nx_r (q_fr (f1 fv))
  refine swp_skip ?_
  refine nx_n ?_
  refine srk tbok ⟨150, [(0, vl eCandidate aAList), (1, vs aAText), (2, vl eSite aASites), (3, vl eDescription aADescriptions), (9, vi 1048576)], []⟩ ?_
  refine sr ?_
  refine SRun.ck tbok 2 ⟨150, [(0, vl eCandidate aAList), (1, vs aAText), (2, vl eSite aASites), (3, vl eDescription aADescriptions), (25, vl eCandidate aAList), (26, vi 1048576)], []⟩ ?_
  obtain ⟨x1, hx1, h⟩ := bind_some h
  refine SRun.ls (xc ents7 (laws_szCandidateS_run aAList 1048576 _ hx1)) ?_
  refine ckn tbok 1 ⟨150, [(0, vl eCandidate aAList), (1, vs aAText), (2, vl eSite aASites), (3, vl eDescription aADescriptions), (9, vi x1)], []⟩ ?_
  refine swp_seq ?_
  refine srk tbok ⟨150, [(0, vl eCandidate aAList), (1, vs aAText), (2, vl eSite aASites), (3, vl eDescription aADescriptions), (9, vi x1), (29, vb (decide (x1 < 0)))], []⟩ ?_
  refine swp_cd h (fun h => ?_) fun h => ?_
  refine srk tbok ⟨150, [(8, vb true)], []⟩ ?_
  refine swp_ret ?_
  obtain rfl := inj h
  exact nx_r (q_fr (f1 fv))
  refine swp_skip ?_
  refine nx_n ?_
  refine sr ?_
  refine SRun.ck tbok 2 ⟨150, [(0, vl eCandidate aAList), (1, vs aAText), (2, vl eSite aASites), (3, vl eDescription aADescriptions), (30, vl eSite aASites), (31, vi x1)], []⟩ ?_
  obtain ⟨x2, hx2, h⟩ := bind_some h
  refine SRun.ls (xc ents8 (laws_szSiteS_run aASites x1 _ hx2)) ?_
  refine ckn tbok 1 ⟨150, [(0, vl eCandidate aAList), (1, vs aAText), (2, vl eSite aASites), (3, vl eDescription aADescriptions), (9, vi x2)], []⟩ ?_
  refine swp_seq ?_
  refine srk tbok ⟨150, [(0, vl eCandidate aAList), (1, vs aAText), (2, vl eSite aASites), (3, vl eDescription aADescriptions), (9, vi x2), (34, vb (decide (x2 < 0)))], []⟩ ?_
  refine swp_cd h (fun h => ?_) fun h => ?_
  refine srk tbok ⟨150, [(8, vb true)], []⟩ ?_
  refine swp_ret ?_
  obtain rfl := inj h
  exact nx_r (q_fr (f1 fv))
  refine swp_skip ?_
  refine nx_n ?_
  refine sr ?_
  refine SRun.ck tbok 2 ⟨150, [(0, vl eCandidate aAList), (1, vs aAText), (2, vl eSite aASites), (3, vl eDescription aADescriptions), (35, vl eDescription aADescriptions), (36, vi x2)], []⟩ ?_
  obtain ⟨x3, hx3, h⟩ := bind_some h
  refine SRun.ls (xc ents9 (laws_szDescriptionS_run aADescriptions x2 _ hx3)) ?_
  refine ckn tbok 1 ⟨150, [(0, vl eCandidate aAList), (1, vs aAText), (2, vl eSite aASites), (3, vl eDescription aADescriptions), (9, vi x3)], []⟩ ?_
  refine swp_seq ?_
  refine srk tbok ⟨150, [(0, vl eCandidate aAList), (1, vs aAText), (2, vl eSite aASites), (3, vl eDescription aADescriptions), (39, vb (decide (x3 < 0)))], []⟩ ?_
  refine swp_cd h (fun h => ?_) fun h => ?_
  refine srk tbok ⟨150, [(8, vb true)], []⟩ ?_
  refine swp_ret ?_
  obtain rfl := inj h
  exact nx_r (q_fr (f1 fv))
  refine swp_skip ?_
  refine nx_n ?_
  refine sr ?_
  refine SRun.ck tbok 1 ⟨150, [(0, vl eCandidate aAList), (1, vs aAText), (2, vl eSite aASites), (3, vl eDescription aADescriptions), (41, vl eCandidate aAList)], []⟩ ?_
  obtain ⟨x4, hx4, h⟩ := bind_some h
  refine SRun.ls (xc ents11 (laws_toCandidateS_run aAList _ hx4)) ?_
  refine SRun.ck tbok 2 ⟨150, [(0, vl eCandidate aAList), (1, vs aAText), (2, vl eSite aASites), (3, vl eDescription aADescriptions), (42, .own 42), (43, vs aAText), (44, vl eSite aASites)], [(42, oa 74 4 eCandidate x4)]⟩ ?_
  obtain ⟨x5, hx5, h⟩ := bind_some h
  refine SRun.ls (xc ents12 (laws_toSiteS_run aASites _ hx5)) ?_
  refine SRun.ck tbok 1 ⟨150, [(0, vl eCandidate aAList), (1, vs aAText), (2, vl eSite aASites), (3, vl eDescription aADescriptions), (42, .own 42), (43, vs aAText), (45, .own 45), (46, vl eDescription aADescriptions)], [(42, oa 74 4 eCandidate x4), (45, oa 78 3 eSite x5)]⟩ ?_
  obtain ⟨x6, hx6, h⟩ := bind_some h
  refine SRun.ls (xc ents13 (laws_toDescriptionS_run aADescriptions _ hx6)) ?_
  obtain ⟨x7, hx7, h⟩ := bind_some h
  refine SRun.ls (xc ents29 (spec_LostWithout_run x4 aAText x5 x6 _ hx7)) ?_
  refine ckn tbok 5 ⟨150, [(0, vl eCandidate aAList), (1, vs aAText), (2, vl eSite aASites), (3, vl eDescription aADescriptions), (10, .own 48), (11, vi x7.2)], [(48, oa 2 1 (eI .i64) x7.1)]⟩ ?_
  refine sr ?_
  refine SRun.ck tbok 1 ⟨150, [(0, vl eCandidate aAList), (1, vs aAText), (2, vl eSite aASites), (3, vl eDescription aADescriptions), (10, .own 48), (11, vi x7.2), (51, vl eCandidate aAList)], [(48, oa 2 1 (eI .i64) x7.1)]⟩ ?_
  obtain ⟨x8, hx8, h⟩ := bind_some h
  refine SRun.ls (xc ents11 (laws_toCandidateS_run aAList _ hx8)) ?_
  refine ckn tbok 1 ⟨150, [(0, vl eCandidate aAList), (1, vs aAText), (2, vl eSite aASites), (3, vl eDescription aADescriptions), (10, .own 48), (11, vi x7.2), (12, .own 52)], [(48, oa 2 1 (eI .i64) x7.1), (52, oa 74 4 eCandidate x8)]⟩ ?_
  refine sr ?_
  refine SRun.ck tbok 1 ⟨150, [(0, vl eCandidate aAList), (1, vs aAText), (2, vl eSite aASites), (3, vl eDescription aADescriptions), (10, .own 48), (11, vi x7.2), (12, .own 52), (53, vl eSite aASites)], [(48, oa 2 1 (eI .i64) x7.1), (52, oa 74 4 eCandidate x8)]⟩ ?_
  obtain ⟨x9, hx9, h⟩ := bind_some h
  refine SRun.ls (xc ents12 (laws_toSiteS_run aASites _ hx9)) ?_
  refine ckn tbok 1 ⟨150, [(0, vl eCandidate aAList), (1, vs aAText), (2, vl eSite aASites), (3, vl eDescription aADescriptions), (10, .own 48), (11, vi x7.2), (12, .own 52), (13, .own 54)], [(48, oa 2 1 (eI .i64) x7.1), (52, oa 74 4 eCandidate x8), (54, oa 78 3 eSite x9)]⟩ ?_
  refine sr ?_
  refine SRun.ck tbok 1 ⟨150, [(0, vl eCandidate aAList), (1, vs aAText), (2, vl eSite aASites), (3, vl eDescription aADescriptions), (10, .own 48), (11, vi x7.2), (12, .own 52), (13, .own 54), (55, vl eDescription aADescriptions)], [(48, oa 2 1 (eI .i64) x7.1), (52, oa 74 4 eCandidate x8), (54, oa 78 3 eSite x9)]⟩ ?_
  obtain ⟨x10, hx10, h⟩ := bind_some h
  refine SRun.ls (xc ents13 (laws_toDescriptionS_run aADescriptions _ hx10)) ?_
  refine ckn tbok 1 ⟨150, [(0, vl eCandidate aAList), (1, vs aAText), (2, vl eSite aASites), (3, vl eDescription aADescriptions), (10, .own 48), (11, vi x7.2), (12, .own 52), (13, .own 54), (14, .own 56)], [(48, oa 2 1 (eI .i64) x7.1), (52, oa 74 4 eCandidate x8), (54, oa 78 3 eSite x9), (56, oa 80 6 eDescription x10)]⟩ ?_
  refine sr ?_
  refine SRun.ck tbok 4 ⟨150, [(0, vl eCandidate aAList), (1, vs aAText), (2, vl eSite aASites), (3, vl eDescription aADescriptions), (10, .own 48), (11, vi x7.2), (12, .own 52), (13, .own 54), (14, .own 56), (58, .own 52), (59, vs aAText), (60, .own 54), (61, .own 56)], [(48, oa 2 1 (eI .i64) x7.1), (52, oa 74 4 eCandidate x8), (54, oa 78 3 eSite x9), (56, oa 80 6 eDescription x10)]⟩ ?_
  obtain ⟨x11, hx11, h⟩ := bind_some h
  refine SRun.ls (xc ents30 (impl_LostWithout_run x8 aAText x9 x10 _ hx11)) ?_
  refine ckn tbok 5 ⟨150, [(0, vl eCandidate aAList), (1, vs aAText), (2, vl eSite aASites), (3, vl eDescription aADescriptions), (10, .own 48), (11, vi x7.2), (12, .own 52), (13, .own 54), (14, .own 56), (15, .own 62), (16, vi x11.2)], [(48, oa 2 1 (eI .i64) x7.1), (52, oa 74 4 eCandidate x8), (54, oa 78 3 eSite x9), (56, oa 80 6 eDescription x10), (62, oa 2 1 (eI .i64) x11.1)]⟩ ?_
  refine swp_seq ?_
  refine swp_seq ?_
  refine swp_regJ h (fun j13 => ⟨150, [(0, vl eCandidate aAList), (1, vs aAText), (2, vl eSite aASites), (3, vl eDescription aADescriptions), (10, .own 10), (11, vi x7.2), (12, .own 12), (13, .own 13), (14, .own 14), (15, .own 15), (16, vi x11.2), (73, vb j13)], [(10, oa 2 1 (eI .i64) x7.1), (12, oa 74 4 eCandidate x8), (13, oa 78 3 eSite x9), (14, oa 80 6 eDescription x10), (15, oa 2 1 (eI .i64) x11.1)]⟩) (fun v14 h => ?_) (fun j13 h => ?_)
  refine SRun.ck tbok 2 ⟨150, [(0, vl eCandidate aAList), (1, vs aAText), (2, vl eSite aASites), (3, vl eDescription aADescriptions), (10, .own 48), (11, vi x7.2), (12, .own 52), (13, .own 54), (14, .own 56), (15, .own 62), (16, vi x11.2), (65, .own 62), (66, .own 48)], [(48, oa 2 1 (eI .i64) x7.1), (52, oa 74 4 eCandidate x8), (54, oa 78 3 eSite x9), (56, oa 80 6 eDescription x10), (62, oa 2 1 (eI .i64) x11.1)]⟩ ?_
  obtain ⟨x12, hx12, h⟩ := bind_some h
  refine SRun.ls (xc ents31 (laws_eqInt64S_run x11.1 x7.1 _ hx12)) ?_
  refine SRun.ck tbok 2 ⟨150, [(0, vl eCandidate aAList), (1, vs aAText), (2, vl eSite aASites), (3, vl eDescription aADescriptions), (10, .own 48), (11, vi x7.2), (12, .own 52), (13, .own 54), (14, .own 56), (15, .own 62), (16, vi x11.2), (69, vb (!x12))], [(48, oa 2 1 (eI .i64) x7.1), (52, oa 74 4 eCandidate x8), (54, oa 78 3 eSite x9), (56, oa 80 6 eDescription x10), (62, oa 2 1 (eI .i64) x11.1)]⟩ ?_
  refine SRun.cu [(69, fun b => b)] h (fun h => ?_) fun h => ?_
  refine SRun.ck tbok 4 ⟨150, [(0, vl eCandidate aAList), (1, vs aAText), (2, vl eSite aASites), (3, vl eDescription aADescriptions), (10, .own 48), (11, vi x7.2), (12, .own 52), (13, .own 54), (14, .own 56), (15, .own 62), (16, vi x11.2), (73, vb true)], [(48, oa 2 1 (eI .i64) x7.1), (52, oa 74 4 eCandidate x8), (54, oa 78 3 eSite x9), (56, oa 80 6 eDescription x10), (62, oa 2 1 (eI .i64) x11.1)]⟩ ?_
  refine SRun.nil ?_
  obtain rfl := inj h
  exact (Le.sub' ([(0, vl eCandidate aAList), (1, vs aAText), (2, vl eSite aASites), (3, vl eDescription aADescriptions), (10, .own 48), (11, vi x7.2), (12, .own 52), (13, .own 54), (14, .own 56), (15, .own 62), (16, vi x11.2), (73, vb true)] : List (Nat × SV)) ([(48, oa 2 1 (eI .i64) x7.1), (52, oa 74 4 eCandidate x8), (54, oa 78 3 eSite x9), (56, oa 80 6 eDescription x10), (62, oa 2 1 (eI .i64) x11.1)] : List (Nat × SO)) (by kernel_rfl) (by kernel_rfl)).trans ((Le.ren' (d := 48) (e := 10) (by kernel_rfl) (by kernel_rfl) (by kernel_rfl)).trans ((Le.ren' (d := 52) (e := 12) (by kernel_rfl) (by kernel_rfl) (by kernel_rfl)).trans ((Le.ren' (d := 54) (e := 13) (by kernel_rfl) (by kernel_rfl) (by kernel_rfl)).trans ((Le.ren' (d := 56) (e := 14) (by kernel_rfl) (by kernel_rfl) (by kernel_rfl)).trans ((Le.ren' (d := 62) (e := 15) (by kernel_rfl) (by kernel_rfl) (by kernel_rfl)).trans (Le.sub0))))))
  refine SRun.ck tbok 4 ⟨150, [(0, vl eCandidate aAList), (1, vs aAText), (2, vl eSite aASites), (3, vl eDescription aADescriptions), (10, .own 48), (11, vi x7.2), (12, .own 52), (13, .own 54), (14, .own 56), (15, .own 62), (16, vi x11.2), (73, vb (x11.2 != x7.2))], [(48, oa 2 1 (eI .i64) x7.1), (52, oa 74 4 eCandidate x8), (54, oa 78 3 eSite x9), (56, oa 80 6 eDescription x10), (62, oa 2 1 (eI .i64) x11.1)]⟩ ?_
  refine SRun.nil ?_
  obtain rfl := inj h
  exact (Le.sub' ([(0, vl eCandidate aAList), (1, vs aAText), (2, vl eSite aASites), (3, vl eDescription aADescriptions), (10, .own 48), (11, vi x7.2), (12, .own 52), (13, .own 54), (14, .own 56), (15, .own 62), (16, vi x11.2), (73, vb (x11.2 != x7.2))] : List (Nat × SV)) ([(48, oa 2 1 (eI .i64) x7.1), (52, oa 74 4 eCandidate x8), (54, oa 78 3 eSite x9), (56, oa 80 6 eDescription x10), (62, oa 2 1 (eI .i64) x11.1)] : List (Nat × SO)) (by kernel_rfl) (by kernel_rfl)).trans ((Le.ren' (d := 48) (e := 10) (by kernel_rfl) (by kernel_rfl) (by kernel_rfl)).trans ((Le.ren' (d := 52) (e := 12) (by kernel_rfl) (by kernel_rfl) (by kernel_rfl)).trans ((Le.ren' (d := 54) (e := 13) (by kernel_rfl) (by kernel_rfl) (by kernel_rfl)).trans ((Le.ren' (d := 56) (e := 14) (by kernel_rfl) (by kernel_rfl) (by kernel_rfl)).trans ((Le.ren' (d := 62) (e := 15) (by kernel_rfl) (by kernel_rfl) (by kernel_rfl)).trans (Le.sub0))))))
  refine swp_cd h (fun h => ?_) fun h => ?_
  refine srk tbok ⟨150, [(8, vb false)], []⟩ ?_
  refine swp_ret ?_
  obtain rfl := inj h
  exact nx_r (q_fr (f1 fv))
  refine swp_skip ?_
  refine nx_n ?_
  refine swp_seq ?_
  refine sr ?_
  refine SRun.ck tbok 2 ⟨150, [(0, vl eCandidate aAList), (1, vs aAText), (2, vl eSite aASites), (3, vl eDescription aADescriptions), (10, .own 10), (11, vi x7.2), (12, .own 12), (13, .own 13), (14, .own 14), (15, .own 15), (16, vi x11.2), (74, .own 12), (75, vl eCandidate aAList)], [(10, oa 2 1 (eI .i64) x7.1), (12, oa 74 4 eCandidate x8), (13, oa 78 3 eSite x9), (14, oa 80 6 eDescription x10), (15, oa 2 1 (eI .i64) x11.1)]⟩ ?_
  obtain ⟨x15, hx15, h⟩ := bind_some h
  refine SRun.ls (xc ents11 (laws_toCandidateS_run aAList _ hx15)) ?_
  obtain ⟨x16, hx16, h⟩ := bind_some h
  refine SRun.ls (xc ents16 (laws_eqCandidateS_run x8 x15 _ hx16)) ?_
  refine ckn tbok 1 ⟨150, [(0, vl eCandidate aAList), (1, vs aAText), (2, vl eSite aASites), (3, vl eDescription aADescriptions), (10, .own 10), (11, vi x7.2), (12, .own 12), (13, .own 13), (14, .own 14), (15, .own 15), (16, vi x11.2), (78, vb (!x16))], [(10, oa 2 1 (eI .i64) x7.1), (12, oa 74 4 eCandidate x8), (13, oa 78 3 eSite x9), (14, oa 80 6 eDescription x10), (15, oa 2 1 (eI .i64) x11.1)]⟩ ?_
  refine swp_cd h (fun h => ?_) fun h => ?_
  refine srk tbok ⟨150, [(8, vb false)], []⟩ ?_
  refine swp_ret ?_
  obtain rfl := inj h
  exact nx_r (q_fr (f1 fv))
  refine swp_skip ?_
  refine nx_n ?_
  refine swp_seq ?_
  refine sr ?_
  refine SRun.ck tbok 2 ⟨150, [(0, vl eCandidate aAList), (1, vs aAText), (2, vl eSite aASites), (3, vl eDescription aADescriptions), (10, .own 10), (11, vi x7.2), (12, .own 12), (13, .own 13), (14, .own 14), (15, .own 15), (16, vi x11.2), (79, .own 13), (80, vl eSite aASites)], [(10, oa 2 1 (eI .i64) x7.1), (12, oa 74 4 eCandidate x8), (13, oa 78 3 eSite x9), (14, oa 80 6 eDescription x10), (15, oa 2 1 (eI .i64) x11.1)]⟩ ?_
  obtain ⟨x17, hx17, h⟩ := bind_some h
  refine SRun.ls (xc ents12 (laws_toSiteS_run aASites _ hx17)) ?_
  obtain ⟨x18, hx18, h⟩ := bind_some h
  refine SRun.ls (xc ents17 (laws_eqSiteS_run x9 x17 _ hx18)) ?_
  refine ckn tbok 1 ⟨150, [(0, vl eCandidate aAList), (1, vs aAText), (2, vl eSite aASites), (3, vl eDescription aADescriptions), (10, .own 10), (11, vi x7.2), (12, .own 12), (13, .own 13), (14, .own 14), (15, .own 15), (16, vi x11.2), (83, vb (!x18))], [(10, oa 2 1 (eI .i64) x7.1), (12, oa 74 4 eCandidate x8), (13, oa 78 3 eSite x9), (14, oa 80 6 eDescription x10), (15, oa 2 1 (eI .i64) x11.1)]⟩ ?_
  refine swp_cd h (fun h => ?_) fun h => ?_
  refine srk tbok ⟨150, [(8, vb false)], []⟩ ?_
  refine swp_ret ?_
  obtain rfl := inj h
  exact nx_r (q_fr (f1 fv))
  refine swp_skip ?_
  refine nx_n ?_
  refine swp_seq ?_
  refine sr ?_
  refine SRun.ck tbok 2 ⟨150, [(0, vl eCandidate aAList), (1, vs aAText), (2, vl eSite aASites), (3, vl eDescription aADescriptions), (10, .own 10), (11, vi x7.2), (12, .own 12), (13, .own 13), (14, .own 14), (15, .own 15), (16, vi x11.2), (84, .own 14), (85, vl eDescription aADescriptions)], [(10, oa 2 1 (eI .i64) x7.1), (12, oa 74 4 eCandidate x8), (13, oa 78 3 eSite x9), (14, oa 80 6 eDescription x10), (15, oa 2 1 (eI .i64) x11.1)]⟩ ?_
  obtain ⟨x19, hx19, h⟩ := bind_some h
  refine SRun.ls (xc ents13 (laws_toDescriptionS_run aADescriptions _ hx19)) ?_
  obtain ⟨x20, hx20, h⟩ := bind_some h
  refine SRun.ls (xc ents18 (laws_eqDescriptionS_run x10 x19 _ hx20)) ?_
  refine ckn tbok 1 ⟨150, [(0, vl eCandidate aAList), (1, vs aAText), (2, vl eSite aASites), (3, vl eDescription aADescriptions), (10, .own 10), (11, vi x7.2), (12, .own 12), (13, .own 13), (14, .own 14), (15, .own 15), (16, vi x11.2), (88, vb (!x20))], [(10, oa 2 1 (eI .i64) x7.1), (12, oa 74 4 eCandidate x8), (13, oa 78 3 eSite x9), (14, oa 80 6 eDescription x10), (15, oa 2 1 (eI .i64) x11.1)]⟩ ?_
  refine swp_cd h (fun h => ?_) fun h => ?_
  refine srk tbok ⟨150, [(8, vb false)], []⟩ ?_
  refine swp_ret ?_
  obtain rfl := inj h
  exact nx_r (q_fr (f1 fv))
  refine swp_skip ?_
  refine nx_n ?_
  refine srk tbok ⟨150, [(0, vl eCandidate aAList), (1, vs aAText), (2, vl eSite aASites), (3, vl eDescription aADescriptions), (10, .own 10), (11, vi x7.2), (12, .own 12), (13, .own 13), (14, .own 14), (15, .own 15), (16, vi x11.2), (17, vi 1)], [(10, oa 2 1 (eI .i64) x7.1), (12, oa 74 4 eCandidate x8), (13, oa 78 3 eSite x9), (14, oa 80 6 eDescription x10), (15, oa 2 1 (eI .i64) x11.1)]⟩ ?_
  refine sr ?_
  refine SRun.ck tbok 2 ⟨150, [(0, vl eCandidate aAList), (1, vs aAText), (2, vl eSite aASites), (3, vl eDescription aADescriptions), (10, .own 10), (11, vi x7.2), (13, .own 13), (14, .own 14), (15, .own 15), (16, vi x11.2), (89, .own 12), (90, vi 1)], [(10, oa 2 1 (eI .i64) x7.1), (12, oa 74 4 eCandidate x8), (13, oa 78 3 eSite x9), (14, oa 80 6 eDescription x10), (15, oa 2 1 (eI .i64) x11.1)]⟩ ?_
  obtain ⟨x21, hx21, h⟩ := bind_some h
  refine SRun.estep (xe ents22 (laws_markCandidateS_run x8 1 _ hx21)) ?_
  refine ckn tbok 1 ⟨150, [(0, vl eCandidate aAList), (1, vs aAText), (2, vl eSite aASites), (3, vl eDescription aADescriptions), (10, .own 10), (11, vi x7.2), (13, .own 13), (14, .own 14), (15, .own 15), (16, vi x11.2), (17, vi x21.1)], [(10, oa 2 1 (eI .i64) x7.1), (13, oa 78 3 eSite x9), (14, oa 80 6 eDescription x10), (15, oa 2 1 (eI .i64) x11.1)]⟩ ?_
  refine sr ?_
  refine SRun.ck tbok 2 ⟨150, [(0, vl eCandidate aAList), (1, vs aAText), (2, vl eSite aASites), (3, vl eDescription aADescriptions), (10, .own 10), (11, vi x7.2), (14, .own 14), (15, .own 15), (16, vi x11.2), (92, .own 13), (93, vi x21.1)], [(10, oa 2 1 (eI .i64) x7.1), (13, oa 78 3 eSite x9), (14, oa 80 6 eDescription x10), (15, oa 2 1 (eI .i64) x11.1)]⟩ ?_
  obtain ⟨x22, hx22, h⟩ := bind_some h
  refine SRun.estep (xe ents23 (laws_markSiteS_run x9 x21.1 _ hx22)) ?_
  refine ckn tbok 1 ⟨150, [(0, vl eCandidate aAList), (1, vs aAText), (2, vl eSite aASites), (3, vl eDescription aADescriptions), (10, .own 10), (11, vi x7.2), (14, .own 14), (15, .own 15), (16, vi x11.2), (17, vi x22.1)], [(10, oa 2 1 (eI .i64) x7.1), (14, oa 80 6 eDescription x10), (15, oa 2 1 (eI .i64) x11.1)]⟩ ?_
  refine sr ?_
  refine SRun.ck tbok 2 ⟨150, [(0, vl eCandidate aAList), (1, vs aAText), (2, vl eSite aASites), (3, vl eDescription aADescriptions), (10, .own 10), (11, vi x7.2), (15, .own 15), (16, vi x11.2), (95, .own 14), (96, vi x22.1)], [(10, oa 2 1 (eI .i64) x7.1), (14, oa 80 6 eDescription x10), (15, oa 2 1 (eI .i64) x11.1)]⟩ ?_
  obtain ⟨x23, hx23, h⟩ := bind_some h
  refine SRun.estep (xe ents24 (laws_markDescriptionS_run x10 x22.1 _ hx23)) ?_
  refine ckn tbok 1 ⟨150, [(0, vl eCandidate aAList), (1, vs aAText), (2, vl eSite aASites), (3, vl eDescription aADescriptions), (10, .own 10), (11, vi x7.2), (15, .own 15), (16, vi x11.2), (17, vi x23.1)], [(10, oa 2 1 (eI .i64) x7.1), (15, oa 2 1 (eI .i64) x11.1)]⟩ ?_
  refine swp_seq ?_
  refine swp_seq ?_
  refine swp_regJ h (fun j25 => ⟨150, [(0, vl eCandidate aAList), (1, vs aAText), (2, vl eSite aASites), (3, vl eDescription aADescriptions), (10, .own 10), (11, vi x7.2), (15, .own 15), (110, vb j25)], [(10, oa 2 1 (eI .i64) x7.1), (15, oa 2 1 (eI .i64) x11.1)]⟩) (fun v26 h => ?_) (fun j25 h => ?_)
  refine SRun.ck tbok 3 ⟨150, [(0, vl eCandidate aAList), (1, vs aAText), (2, vl eSite aASites), (3, vl eDescription aADescriptions), (10, .own 10), (11, vi x7.2), (15, .own 15), (16, vi x11.2), (100, vb (decide (x23.1 < 0)))], [(10, oa 2 1 (eI .i64) x7.1), (15, oa 2 1 (eI .i64) x11.1)]⟩ ?_
  refine SRun.cu [(100, fun b => b)] h (fun h => ?_) fun h => ?_
  refine SRun.ck tbok 10 ⟨150, [(0, vl eCandidate aAList), (1, vs aAText), (2, vl eSite aASites), (3, vl eDescription aADescriptions), (10, .own 10), (11, vi x7.2), (15, .own 15), (110, vb true)], [(10, oa 2 1 (eI .i64) x7.1), (15, oa 2 1 (eI .i64) x11.1)]⟩ ?_
  refine SRun.nil ?_
  obtain rfl := inj h
  exact Le.sub0
  refine SRun.ck tbok 2 ⟨150, [(0, vl eCandidate aAList), (1, vs aAText), (2, vl eSite aASites), (3, vl eDescription aADescriptions), (10, .own 10), (11, vi x7.2), (15, .own 15), (16, vi x11.2), (100, vb false), (101, .own 15), (102, .own 10)], [(10, oa 2 1 (eI .i64) x7.1), (15, oa 2 1 (eI .i64) x11.1)]⟩ ?_
  obtain ⟨x24, hx24, h⟩ := bind_some h
  refine SRun.ls (xc ents31 (laws_eqInt64S_run x11.1 x7.1 _ hx24)) ?_
  refine SRun.ck tbok 3 ⟨150, [(0, vl eCandidate aAList), (1, vs aAText), (2, vl eSite aASites), (3, vl eDescription aADescriptions), (10, .own 10), (11, vi x7.2), (15, .own 15), (16, vi x11.2), (106, vb (!x24))], [(10, oa 2 1 (eI .i64) x7.1), (15, oa 2 1 (eI .i64) x11.1)]⟩ ?_
  refine SRun.cu [(106, fun b => b)] h (fun h => ?_) fun h => ?_
  refine SRun.ck tbok 4 ⟨150, [(0, vl eCandidate aAList), (1, vs aAText), (2, vl eSite aASites), (3, vl eDescription aADescriptions), (10, .own 10), (11, vi x7.2), (15, .own 15), (110, vb true)], [(10, oa 2 1 (eI .i64) x7.1), (15, oa 2 1 (eI .i64) x11.1)]⟩ ?_
  refine SRun.nil ?_
  obtain rfl := inj h
  exact Le.sub0
  refine SRun.ck tbok 4 ⟨150, [(0, vl eCandidate aAList), (1, vs aAText), (2, vl eSite aASites), (3, vl eDescription aADescriptions), (10, .own 10), (11, vi x7.2), (15, .own 15), (110, vb (x11.2 != x7.2))], [(10, oa 2 1 (eI .i64) x7.1), (15, oa 2 1 (eI .i64) x11.1)]⟩ ?_
  refine SRun.nil ?_
  obtain rfl := inj h
  exact Le.sub0
  refine swp_cd h (fun h => ?_) fun h => ?_
  refine srk tbok ⟨150, [(8, vb false)], []⟩ ?_
  refine swp_ret ?_
  obtain rfl := inj h
  exact nx_r (q_fr (f1 fv))
  refine swp_skip ?_
  refine nx_n ?_
  refine srk tbok ⟨150, [(0, vl eCandidate aAList), (1, vs aAText), (2, vl eSite aASites), (3, vl eDescription aADescriptions), (10, .own 10), (11, vi x7.2), (15, .own 15), (18, vi 1)], [(10, oa 2 1 (eI .i64) x7.1), (15, oa 2 1 (eI .i64) x11.1)]⟩ ?_
  refine sr ?_
  refine SRun.ck tbok 2 ⟨150, [(0, vl eCandidate aAList), (1, vs aAText), (2, vl eSite aASites), (3, vl eDescription aADescriptions), (10, .own 10), (11, vi x7.2), (15, .own 15), (111, .own 15), (112, vi 1)], [(10, oa 2 1 (eI .i64) x7.1), (15, oa 2 1 (eI .i64) x11.1)]⟩ ?_
  obtain ⟨x27, hx27, h⟩ := bind_some h
  refine SRun.estep (xe ents32 (laws_markInt64S_run x11.1 1 _ hx27)) ?_
  refine ckn tbok 1 ⟨150, [(0, vl eCandidate aAList), (1, vs aAText), (2, vl eSite aASites), (3, vl eDescription aADescriptions), (10, .own 10), (11, vi x7.2), (15, .own 15), (18, vi x27.1)], [(10, oa 2 1 (eI .i64) x7.1), (15, oa 2 1 (eI .i64) x27.2)]⟩ ?_
  refine srk tbok ⟨150, [(0, vl eCandidate aAList), (1, vs aAText), (2, vl eSite aASites), (3, vl eDescription aADescriptions), (10, .own 10), (11, vi x7.2), (15, .own 15), (18, vi x27.1), (19, vi 1)], [(10, oa 2 1 (eI .i64) x7.1), (15, oa 2 1 (eI .i64) x27.2)]⟩ ?_
  refine sr ?_
  refine SRun.ck tbok 2 ⟨150, [(0, vl eCandidate aAList), (1, vs aAText), (2, vl eSite aASites), (3, vl eDescription aADescriptions), (10, .own 10), (11, vi x7.2), (15, .own 15), (18, vi x27.1), (114, .own 15), (115, vi 1)], [(10, oa 2 1 (eI .i64) x7.1), (15, oa 2 1 (eI .i64) x27.2)]⟩ ?_
  obtain ⟨x28, hx28, h⟩ := bind_some h
  refine SRun.ls (xc ents33 (laws_heldInt64S_run x27.2 1 _ hx28)) ?_
  refine ckn tbok 1 ⟨150, [(0, vl eCandidate aAList), (1, vs aAText), (2, vl eSite aASites), (3, vl eDescription aADescriptions), (10, .own 10), (11, vi x7.2), (15, .own 15), (18, vi x27.1), (19, vi x28)], [(10, oa 2 1 (eI .i64) x7.1), (15, oa 2 1 (eI .i64) x27.2)]⟩ ?_
  refine swp_seq ?_
  refine srk tbok ⟨150, [(0, vl eCandidate aAList), (1, vs aAText), (2, vl eSite aASites), (3, vl eDescription aADescriptions), (10, .own 10), (11, vi x7.2), (15, .own 15), (18, vi x27.1), (19, vi x28), (118, vb (decide (x28 < 0)))], [(10, oa 2 1 (eI .i64) x7.1), (15, oa 2 1 (eI .i64) x27.2)]⟩ ?_
  refine swp_cd h (fun h => ?_) fun h => ?_
  refine srk tbok ⟨150, [(8, vb false)], []⟩ ?_
  refine swp_ret ?_
  obtain rfl := inj h
  exact nx_r (q_fr (f1 fv))
  refine swp_skip ?_
  refine nx_n ?_
  refine swp_seq ?_
  refine srk tbok ⟨150, [(0, vl eCandidate aAList), (1, vs aAText), (2, vl eSite aASites), (3, vl eDescription aADescriptions), (10, .own 10), (11, vi x7.2), (15, .own 15), (18, vi x27.1), (121, vb (x28 != x27.1))], [(10, oa 2 1 (eI .i64) x7.1), (15, oa 2 1 (eI .i64) x27.2)]⟩ ?_
  refine swp_cd h (fun h => ?_) fun h => ?_
  refine srk tbok ⟨150, [(8, vb false)], []⟩ ?_
  refine swp_ret ?_
  obtain rfl := inj h
  exact nx_r (q_fr (f1 fv))
  refine swp_skip ?_
  refine nx_n ?_
  refine sr ?_
  refine SRun.ck tbok 1 ⟨150, [(1, vs aAText), (2, vl eSite aASites), (3, vl eDescription aADescriptions), (10, .own 10), (11, vi x7.2), (15, .own 15), (18, vi x27.1), (123, vl eCandidate aAList)], [(10, oa 2 1 (eI .i64) x7.1), (15, oa 2 1 (eI .i64) x27.2)]⟩ ?_
  obtain ⟨x29, hx29, h⟩ := bind_some h
  refine SRun.ls (xc ents11 (laws_toCandidateS_run aAList _ hx29)) ?_
  refine SRun.ck tbok 2 ⟨150, [(3, vl eDescription aADescriptions), (10, .own 10), (11, vi x7.2), (15, .own 15), (18, vi x27.1), (124, .own 124), (125, vs aAText), (126, vl eSite aASites)], [(10, oa 2 1 (eI .i64) x7.1), (15, oa 2 1 (eI .i64) x27.2), (124, oa 74 4 eCandidate x29)]⟩ ?_
  obtain ⟨x30, hx30, h⟩ := bind_some h
  refine SRun.ls (xc ents12 (laws_toSiteS_run aASites _ hx30)) ?_
  refine SRun.ck tbok 1 ⟨150, [(10, .own 10), (11, vi x7.2), (15, .own 15), (18, vi x27.1), (124, .own 124), (125, vs aAText), (127, .own 127), (128, vl eDescription aADescriptions)], [(10, oa 2 1 (eI .i64) x7.1), (15, oa 2 1 (eI .i64) x27.2), (124, oa 74 4 eCandidate x29), (127, oa 78 3 eSite x30)]⟩ ?_
  obtain ⟨x31, hx31, h⟩ := bind_some h
  refine SRun.ls (xc ents13 (laws_toDescriptionS_run aADescriptions _ hx31)) ?_
  obtain ⟨x32, hx32, h⟩ := bind_some h
  refine SRun.ls (xc ents30 (impl_LostWithout_run x29 aAText x30 x31 _ hx32)) ?_
  refine ckn tbok 5 ⟨150, [(10, .own 10), (11, vi x7.2), (15, .own 15), (18, vi x27.1), (20, .own 130), (21, vi x32.2)], [(10, oa 2 1 (eI .i64) x7.1), (15, oa 2 1 (eI .i64) x27.2), (130, oa 2 1 (eI .i64) x32.1)]⟩ ?_
  refine swp_seq ?_
  refine swp_seq ?_
  refine swp_regJ h (fun j34 => ⟨150, [(15, .own 15), (18, vi x27.1), (141, vb j34)], [(15, oa 2 1 (eI .i64) x27.2)]⟩) (fun v35 h => ?_) (fun j34 h => ?_)
  refine SRun.ck tbok 2 ⟨150, [(11, vi x7.2), (15, .own 15), (18, vi x27.1), (21, vi x32.2), (133, .own 130), (134, .own 10)], [(10, oa 2 1 (eI .i64) x7.1), (15, oa 2 1 (eI .i64) x27.2), (130, oa 2 1 (eI .i64) x32.1)]⟩ ?_
  obtain ⟨x33, hx33, h⟩ := bind_some h
  refine SRun.ls (xc ents31 (laws_eqInt64S_run x32.1 x7.1 _ hx33)) ?_
  refine SRun.ck tbok 2 ⟨150, [(11, vi x7.2), (15, .own 15), (18, vi x27.1), (21, vi x32.2), (137, vb (!x33))], [(15, oa 2 1 (eI .i64) x27.2)]⟩ ?_
  refine SRun.cu [(137, fun b => b)] h (fun h => ?_) fun h => ?_
  refine SRun.ck tbok 4 ⟨150, [(15, .own 15), (18, vi x27.1), (141, vb true)], [(15, oa 2 1 (eI .i64) x27.2)]⟩ ?_
  refine SRun.nil ?_
  obtain rfl := inj h
  exact Le.sub0
  refine SRun.ck tbok 4 ⟨150, [(15, .own 15), (18, vi x27.1), (141, vb (x32.2 != x7.2))], [(15, oa 2 1 (eI .i64) x27.2)]⟩ ?_
  refine SRun.nil ?_
  obtain rfl := inj h
  exact Le.sub0
  refine swp_cd h (fun h => ?_) fun h => ?_
  refine srk tbok ⟨150, [(8, vb false)], []⟩ ?_
  refine swp_ret ?_
  obtain rfl := inj h
  exact nx_r (q_fr (f1 fv))
  refine swp_skip ?_
  refine nx_n ?_
  refine srk tbok ⟨150, [(15, .own 15), (18, vi x27.1), (19, vi 1)], [(15, oa 2 1 (eI .i64) x27.2)]⟩ ?_
  refine sr ?_
  refine SRun.ck tbok 2 ⟨150, [(18, vi x27.1), (142, .own 15), (143, vi 1)], [(15, oa 2 1 (eI .i64) x27.2)]⟩ ?_
  obtain ⟨x36, hx36, h⟩ := bind_some h
  refine SRun.ls (xc ents33 (laws_heldInt64S_run x27.2 1 _ hx36)) ?_
  refine ckn tbok 1 ⟨150, [(18, vi x27.1), (19, vi x36)], []⟩ ?_
  refine swp_seq ?_
  refine srk tbok ⟨150, [(18, vi x27.1), (19, vi x36), (146, vb (decide (x36 < 0)))], []⟩ ?_
  refine swp_cd h (fun h => ?_) fun h => ?_
  refine srk tbok ⟨150, [(8, vb false)], []⟩ ?_
  refine swp_ret ?_
  obtain rfl := inj h
  exact nx_r (q_fr (f1 fv))
  refine swp_skip ?_
  refine nx_n ?_
  refine swp_seq ?_
  refine srk tbok ⟨150, [(149, vb (x36 != x27.1))], []⟩ ?_
  refine swp_cd h (fun h => ?_) fun h => ?_
  refine srk tbok ⟨150, [(8, vb false)], []⟩ ?_
  refine swp_ret ?_
  obtain rfl := inj h
  exact nx_r (q_fr (f1 fv))
  refine swp_skip ?_
  refine nx_n ?_
  refine srk tbok ⟨150, [(8, vb true)], []⟩ ?_
  refine swp_ret ?_
  obtain rfl := inj h
  exact q_fr (f1 fv)
end Go.Proofs.YtepmfngpdimkhaaGreatDoor.Sh
