/- Typed functions and the calls that do what they say. -/
import Derived.Test.YtpohkmbkohjahaaGreatDoorGAp0
import Derived.Test.YtpohkmbkohjahaaGreatDoorKA
import Derived.Test.YtpohkmbkohjahaaGreatDoorKC
import Derived.Test.YtpohkmbkohjahaaGreatDoorKJ
import Derived.Test.YtpohkmbkohjahaaGreatDoorKM
import Derived.Test.YtpohkmbkohjahaaGreatDoorKS
import Derived.Test.YtpohkmbkohjahaaGreatDoorH1
namespace Go.Proofs.YtpohkmbkohjahaaGreatDoor.Sh
open Go.RowKit
set_option maxRecDepth 100000
set_option maxHeartbeats 4000000
noncomputable def laws_markPlaceS (aA : (List Place)) (aK : Int) : Option (Int × (List Place)) :=
  (((forH (fun (i3 : Int) (s3 : Int × (List Place)) => (decide (i3 < (s3.2.length : Int)))) (fun (i3 : Int) (s3 : Int × (List Place)) => ((laws_markText s3.1).bind fun x7 => ((at' s3.2 i3).bind fun x8 => ((at' (List.set s3.2 (Int.toNat i3) (Place.mk x7 x8.Class x8.Years x8.Names)) i3).bind fun x9 => ((at' (List.set (List.set s3.2 (Int.toNat i3) (Place.mk x7 x8.Class x8.Years x8.Names)) (Int.toNat i3) (Place.mk x9.Code (w64 (s3.1 + 1)) x9.Years x9.Names)) i3).bind fun x10 => ((at' (List.set (List.set (List.set s3.2 (Int.toNat i3) (Place.mk x7 x8.Class x8.Years x8.Names)) (Int.toNat i3) (Place.mk x9.Code (w64 (s3.1 + 1)) x9.Years x9.Names)) (Int.toNat i3) (Place.mk x10.Code x10.Class (Span.mk (w64 ((w64 (s3.1 + 1)) + 1)) x10.Years.To) x10.Names)) i3).bind fun x11 => ((at' (List.set (List.set (List.set (List.set s3.2 (Int.toNat i3) (Place.mk x7 x8.Class x8.Years x8.Names)) (Int.toNat i3) (Place.mk x9.Code (w64 (s3.1 + 1)) x9.Years x9.Names)) (Int.toNat i3) (Place.mk x10.Code x10.Class (Span.mk (w64 ((w64 (s3.1 + 1)) + 1)) x10.Years.To) x10.Names)) (Int.toNat i3) (Place.mk x11.Code x11.Class (Span.mk x11.Years.From (w64 ((w64 ((w64 (s3.1 + 1)) + 1)) + 1))) x11.Names)) i3).bind fun x12 => ((laws_markNameS x12.Names (w64 ((w64 ((w64 ((w64 (s3.1 + 1)) + 1)) + 1)) + 1))).bind fun x13 => some (x13.1, (List.set (List.set (List.set (List.set (List.set s3.2 (Int.toNat i3) (Place.mk x7 x8.Class x8.Years x8.Names)) (Int.toNat i3) (Place.mk x9.Code (w64 (s3.1 + 1)) x9.Years x9.Names)) (Int.toNat i3) (Place.mk x10.Code x10.Class (Span.mk (w64 ((w64 (s3.1 + 1)) + 1)) x10.Years.To) x10.Names)) (Int.toNat i3) (Place.mk x11.Code x11.Class (Span.mk x11.Years.From (w64 ((w64 ((w64 (s3.1 + 1)) + 1)) + 1))) x11.Names)) (Int.toNat i3) (Place.mk x12.Code x12.Class x12.Years x13.2))))))))))) (fun (s3 : Int × (List Place)) => (s3.1, s3.2)) 0 (aK, aA))).bind fun (j1 : Int × (List Place)) => some (j1.1, j1.2))
theorem laws_markPlaceS_run (aA : (List Place)) (aK : Int) (r : Int × (List Place)) (h : laws_markPlaceS aA aK = some r) : SCall Tryz.prog 11 [.o (.deep 41 5 aA.length [.flat, .flat, .flat, .flat, (.sl 95 5 [.flat, .flat, .flat, .flat, .flat])] (aA.map ePlace)), .v (vi aK)] ⟨[.v (vi r.1)], [(0, .deep 41 5 r.2.length [.flat, .flat, .flat, .flat, (.sl 95 5 [.flat, .flat, .flat, .flat, .flat])] (r.2.map ePlace))], false⟩ := by
  refine scall_in Tryz.func11 rfl [(.tmp 4)] rfl (fun r => ⟨[.v (vi r.1)], [(0, .deep 41 5 r.2.length [.flat, .flat, .flat, .flat, (.sl 95 5 [.flat, .flat, .flat, .flat, .flat])] (r.2.map ePlace))], false⟩) (r := r) ?_
  unfold laws_markPlaceS at h
  refine srk tbok ⟨51, [(0, .own 1000000), (1, vi aK)], [(1000000, .deep 41 5 aA.length [.flat, .flat, .flat, .flat, (.sl 95 5 [.flat, .flat, .flat, .flat, .flat])] (aA.map ePlace))]⟩ ?_
  refine swp_seq ?_
  refine srk tbok ⟨51, [(0, .own 1000000), (1, vi aK), (5, vi 0)], [(1000000, .deep 41 5 aA.length [.flat, .flat, .flat, .flat, (.sl 95 5 [.flat, .flat, .flat, .flat, .flat])] (aA.map ePlace))]⟩ ?_
  refine swp_seqJ h (fun j1 => ⟨51, [(1, vi j1.1)], [(1000000, .deep 41 5 j1.2.length [.flat, .flat, .flat, .flat, (.sl 95 5 [.flat, .flat, .flat, .flat, .flat])] (j1.2.map ePlace))]⟩) (fun v2 h => ?_) (fun j1 h => ?_)
  refine swp_blk (a := v2) ?_
  refine swp_lpL (r := v2) (s := (0, aK, aA)) _ (fun s3 => ⟨51, [(0, .own 1000000), (1, vi s3.2.1), (5, vi s3.1)], [(1000000, .deep 41 5 s3.2.2.length [.flat, .flat, .flat, .flat, (.sl 95 5 [.flat, .flat, .flat, .flat, .flat])] (s3.2.2.map ePlace))]⟩) _ (Le.sub0) h (fun s3 v4 h => ?_)
  refine swp_seq ?_
  refine sr ?_
  refine SRun.ck tbok 2 ⟨51, [(0, .own 1000000), (1, vi s3.2.1), (5, vi s3.1), (6, vi s3.1), (7, .own 1000000)], [(1000000, .deep 41 5 s3.2.2.length [.flat, .flat, .flat, .flat, (.sl 95 5 [.flat, .flat, .flat, .flat, .flat])] (s3.2.2.map ePlace))]⟩ ?_
  refine SRun.ls (x_len_deep (d := 1000000) (e := 41) (e' := 41) (m := 5) (n := s3.2.2.length) (ss := [.flat, .flat, .flat, .flat, (.sl 95 5 [.flat, .flat, .flat, .flat, .flat])]) (es := s3.2.2.map ePlace) (ti := ti24) tbok rfl rfl rfl) ?_
  refine ckn tbok 1 ⟨51, [(0, .own 1000000), (1, vi s3.2.1), (5, vi s3.1), (9, vb (decide (s3.1 < (s3.2.2.length : Int))))], [(1000000, .deep 41 5 s3.2.2.length [.flat, .flat, .flat, .flat, (.sl 95 5 [.flat, .flat, .flat, .flat, .flat])] (s3.2.2.map ePlace))]⟩ ?_
  refine swp_cd h (fun h => ?_) fun h => ?_
  refine swp_skip ?_
  refine nx_n ?_
  refine swp_seq ?_
  refine swp_seqJ h (fun j5 => ⟨51, [(0, .own 1000000), (1, vi j5.1), (5, vi s3.1)], [(1000000, .deep 41 5 j5.2.length [.flat, .flat, .flat, .flat, (.sl 95 5 [.flat, .flat, .flat, .flat, .flat])] (j5.2.map ePlace))]⟩) (fun v6 h => ?_) (fun j5 h => ?_)
  refine swp_blk (a := v6) ?_
  refine sr ?_
  refine SRun.ck tbok 3 ⟨51, [(0, .own 1000000), (1, vi s3.2.1), (5, vi s3.1), (12, .own 1000000), (13, vi s3.1), (14, vi s3.2.1)], [(1000000, .deep 41 5 s3.2.2.length [.flat, .flat, .flat, .flat, (.sl 95 5 [.flat, .flat, .flat, .flat, .flat])] (s3.2.2.map ePlace))]⟩ ?_
  obtain ⟨x7, hx7, h⟩ := bind_some h
  refine SRun.ls (xc ents47 (laws_markText_run s3.2.1 _ hx7)) ?_
  obtain ⟨x8, hx8, h⟩ := bind_some h
  refine SRun.ls (x_index_deep (d := 1000000) (L := s3.2.2) (f := ePlace) (ti := ti24) (tj := ti41) (e := 41) (e' := 41) (m := 5) (k := .i64) (ss := [.flat, .flat, .flat, .flat, (.sl 95 5 [.flat, .flat, .flat, .flat, .flat])]) tbok rfl hx8) ?_
  refine SRun.ck tbok 1 ⟨51, [(0, .own 1000000), (1, vi s3.2.1), (5, vi s3.1), (15, vs x7), (17, .eref 1000000 5 (Int.toNat s3.1) 0)], [(1000000, .deep 41 5 s3.2.2.length [.flat, .flat, .flat, .flat, (.sl 95 5 [.flat, .flat, .flat, .flat, .flat])] (s3.2.2.map ePlace))]⟩ ?_
  refine SRun.estep (x_store_deep (d := 1000000) (m := 5) (j := 0) (L := s3.2.2) (f := ePlace) (x := (Place.mk x7 x8.Class x8.Years x8.Names)) (z := x8) (ti := ti9) (e := 41) (ss := [.flat, .flat, .flat, .flat, (.sl 95 5 [.flat, .flat, .flat, .flat, .flat])]) (ss2 := [.flat]) (ts := [.str x7]) (vs := [vs x7]) (v := vs x7) (ds := []) tbok rfl rfl hx8 (.cons _ _ _ [] _ _ _ _ (.flat (.str x7) rfl) .nil (by decide))) ?_
  refine SRun.nx ?_
  refine srk tbok ⟨51, [(0, .own 1000000), (1, vi (w64 (s3.2.1 + 1))), (5, vi s3.1)], [(1000000, .deep 41 5 (List.set s3.2.2 (Int.toNat s3.1) (Place.mk x7 x8.Class x8.Years x8.Names)).length [.flat, .flat, .flat, .flat, (.sl 95 5 [.flat, .flat, .flat, .flat, .flat])] ((List.set s3.2.2 (Int.toNat s3.1) (Place.mk x7 x8.Class x8.Years x8.Names)).map ePlace))]⟩ ?_
  refine sr ?_
  refine SRun.ck tbok 3 ⟨51, [(0, .own 1000000), (1, vi (w64 (s3.2.1 + 1))), (5, vi s3.1), (20, .own 1000000), (21, vi s3.1), (22, vi (w64 (s3.2.1 + 1)))], [(1000000, .deep 41 5 (List.set s3.2.2 (Int.toNat s3.1) (Place.mk x7 x8.Class x8.Years x8.Names)).length [.flat, .flat, .flat, .flat, (.sl 95 5 [.flat, .flat, .flat, .flat, .flat])] ((List.set s3.2.2 (Int.toNat s3.1) (Place.mk x7 x8.Class x8.Years x8.Names)).map ePlace))]⟩ ?_
  obtain ⟨x9, hx9, h⟩ := bind_some h
  refine SRun.ls (x_index_deep (d := 1000000) (L := (List.set s3.2.2 (Int.toNat s3.1) (Place.mk x7 x8.Class x8.Years x8.Names))) (f := ePlace) (ti := ti24) (tj := ti41) (e := 41) (e' := 41) (m := 5) (k := .i64) (ss := [.flat, .flat, .flat, .flat, (.sl 95 5 [.flat, .flat, .flat, .flat, .flat])]) tbok rfl hx9) ?_
  refine SRun.ck tbok 1 ⟨51, [(0, .own 1000000), (1, vi (w64 (s3.2.1 + 1))), (5, vi s3.1), (22, vi (w64 (s3.2.1 + 1))), (24, .eref 1000000 5 (Int.toNat s3.1) 1)], [(1000000, .deep 41 5 (List.set s3.2.2 (Int.toNat s3.1) (Place.mk x7 x8.Class x8.Years x8.Names)).length [.flat, .flat, .flat, .flat, (.sl 95 5 [.flat, .flat, .flat, .flat, .flat])] ((List.set s3.2.2 (Int.toNat s3.1) (Place.mk x7 x8.Class x8.Years x8.Names)).map ePlace))]⟩ ?_
  refine SRun.estep (x_store_deep (d := 1000000) (m := 5) (j := 1) (L := (List.set s3.2.2 (Int.toNat s3.1) (Place.mk x7 x8.Class x8.Years x8.Names))) (f := ePlace) (x := (Place.mk x9.Code (w64 (s3.2.1 + 1)) x9.Years x9.Names)) (z := x9) (ti := ti2) (e := 41) (ss := [.flat, .flat, .flat, .flat, (.sl 95 5 [.flat, .flat, .flat, .flat, .flat])]) (ss2 := [.flat]) (ts := [.int .i64 (w64 (s3.2.1 + 1))]) (vs := [vi (w64 (s3.2.1 + 1))]) (v := vi (w64 (s3.2.1 + 1))) (ds := []) tbok rfl rfl hx9 (.cons _ _ _ [] _ _ _ _ (.flat (.int .i64 (w64 (s3.2.1 + 1))) rfl) .nil (by decide))) ?_
  refine SRun.nx ?_
  refine srk tbok ⟨51, [(0, .own 1000000), (1, vi (w64 ((w64 (s3.2.1 + 1)) + 1))), (5, vi s3.1)], [(1000000, .deep 41 5 (List.set (List.set s3.2.2 (Int.toNat s3.1) (Place.mk x7 x8.Class x8.Years x8.Names)) (Int.toNat s3.1) (Place.mk x9.Code (w64 (s3.2.1 + 1)) x9.Years x9.Names)).length [.flat, .flat, .flat, .flat, (.sl 95 5 [.flat, .flat, .flat, .flat, .flat])] ((List.set (List.set s3.2.2 (Int.toNat s3.1) (Place.mk x7 x8.Class x8.Years x8.Names)) (Int.toNat s3.1) (Place.mk x9.Code (w64 (s3.2.1 + 1)) x9.Years x9.Names)).map ePlace))]⟩ ?_
  refine sr ?_
  refine SRun.ck tbok 3 ⟨51, [(0, .own 1000000), (1, vi (w64 ((w64 (s3.2.1 + 1)) + 1))), (5, vi s3.1), (27, .own 1000000), (28, vi s3.1), (29, vi (w64 ((w64 (s3.2.1 + 1)) + 1)))], [(1000000, .deep 41 5 (List.set (List.set s3.2.2 (Int.toNat s3.1) (Place.mk x7 x8.Class x8.Years x8.Names)) (Int.toNat s3.1) (Place.mk x9.Code (w64 (s3.2.1 + 1)) x9.Years x9.Names)).length [.flat, .flat, .flat, .flat, (.sl 95 5 [.flat, .flat, .flat, .flat, .flat])] ((List.set (List.set s3.2.2 (Int.toNat s3.1) (Place.mk x7 x8.Class x8.Years x8.Names)) (Int.toNat s3.1) (Place.mk x9.Code (w64 (s3.2.1 + 1)) x9.Years x9.Names)).map ePlace))]⟩ ?_
  obtain ⟨x10, hx10, h⟩ := bind_some h
  refine SRun.ls (x_index_deep (d := 1000000) (L := (List.set (List.set s3.2.2 (Int.toNat s3.1) (Place.mk x7 x8.Class x8.Years x8.Names)) (Int.toNat s3.1) (Place.mk x9.Code (w64 (s3.2.1 + 1)) x9.Years x9.Names))) (f := ePlace) (ti := ti24) (tj := ti41) (e := 41) (e' := 41) (m := 5) (k := .i64) (ss := [.flat, .flat, .flat, .flat, (.sl 95 5 [.flat, .flat, .flat, .flat, .flat])]) tbok rfl hx10) ?_
  refine SRun.ck tbok 2 ⟨51, [(0, .own 1000000), (1, vi (w64 ((w64 (s3.2.1 + 1)) + 1))), (5, vi s3.1), (29, vi (w64 ((w64 (s3.2.1 + 1)) + 1))), (32, .eref 1000000 5 (Int.toNat s3.1) 2)], [(1000000, .deep 41 5 (List.set (List.set s3.2.2 (Int.toNat s3.1) (Place.mk x7 x8.Class x8.Years x8.Names)) (Int.toNat s3.1) (Place.mk x9.Code (w64 (s3.2.1 + 1)) x9.Years x9.Names)).length [.flat, .flat, .flat, .flat, (.sl 95 5 [.flat, .flat, .flat, .flat, .flat])] ((List.set (List.set s3.2.2 (Int.toNat s3.1) (Place.mk x7 x8.Class x8.Years x8.Names)) (Int.toNat s3.1) (Place.mk x9.Code (w64 (s3.2.1 + 1)) x9.Years x9.Names)).map ePlace))]⟩ ?_
  refine SRun.estep (x_store_deep (d := 1000000) (m := 5) (j := 2) (L := (List.set (List.set s3.2.2 (Int.toNat s3.1) (Place.mk x7 x8.Class x8.Years x8.Names)) (Int.toNat s3.1) (Place.mk x9.Code (w64 (s3.2.1 + 1)) x9.Years x9.Names))) (f := ePlace) (x := (Place.mk x10.Code x10.Class (Span.mk (w64 ((w64 (s3.2.1 + 1)) + 1)) x10.Years.To) x10.Names)) (z := x10) (ti := ti2) (e := 41) (ss := [.flat, .flat, .flat, .flat, (.sl 95 5 [.flat, .flat, .flat, .flat, .flat])]) (ss2 := [.flat]) (ts := [.int .i64 (w64 ((w64 (s3.2.1 + 1)) + 1))]) (vs := [vi (w64 ((w64 (s3.2.1 + 1)) + 1))]) (v := vi (w64 ((w64 (s3.2.1 + 1)) + 1))) (ds := []) tbok rfl rfl hx10 (.cons _ _ _ [] _ _ _ _ (.flat (.int .i64 (w64 ((w64 (s3.2.1 + 1)) + 1))) rfl) .nil (by decide))) ?_
  refine SRun.nx ?_
  refine srk tbok ⟨51, [(0, .own 1000000), (1, vi (w64 ((w64 ((w64 (s3.2.1 + 1)) + 1)) + 1))), (5, vi s3.1)], [(1000000, .deep 41 5 (List.set (List.set (List.set s3.2.2 (Int.toNat s3.1) (Place.mk x7 x8.Class x8.Years x8.Names)) (Int.toNat s3.1) (Place.mk x9.Code (w64 (s3.2.1 + 1)) x9.Years x9.Names)) (Int.toNat s3.1) (Place.mk x10.Code x10.Class (Span.mk (w64 ((w64 (s3.2.1 + 1)) + 1)) x10.Years.To) x10.Names)).length [.flat, .flat, .flat, .flat, (.sl 95 5 [.flat, .flat, .flat, .flat, .flat])] ((List.set (List.set (List.set s3.2.2 (Int.toNat s3.1) (Place.mk x7 x8.Class x8.Years x8.Names)) (Int.toNat s3.1) (Place.mk x9.Code (w64 (s3.2.1 + 1)) x9.Years x9.Names)) (Int.toNat s3.1) (Place.mk x10.Code x10.Class (Span.mk (w64 ((w64 (s3.2.1 + 1)) + 1)) x10.Years.To) x10.Names)).map ePlace))]⟩ ?_
  refine sr ?_
  refine SRun.ck tbok 3 ⟨51, [(0, .own 1000000), (1, vi (w64 ((w64 ((w64 (s3.2.1 + 1)) + 1)) + 1))), (5, vi s3.1), (35, .own 1000000), (36, vi s3.1), (37, vi (w64 ((w64 ((w64 (s3.2.1 + 1)) + 1)) + 1)))], [(1000000, .deep 41 5 (List.set (List.set (List.set s3.2.2 (Int.toNat s3.1) (Place.mk x7 x8.Class x8.Years x8.Names)) (Int.toNat s3.1) (Place.mk x9.Code (w64 (s3.2.1 + 1)) x9.Years x9.Names)) (Int.toNat s3.1) (Place.mk x10.Code x10.Class (Span.mk (w64 ((w64 (s3.2.1 + 1)) + 1)) x10.Years.To) x10.Names)).length [.flat, .flat, .flat, .flat, (.sl 95 5 [.flat, .flat, .flat, .flat, .flat])] ((List.set (List.set (List.set s3.2.2 (Int.toNat s3.1) (Place.mk x7 x8.Class x8.Years x8.Names)) (Int.toNat s3.1) (Place.mk x9.Code (w64 (s3.2.1 + 1)) x9.Years x9.Names)) (Int.toNat s3.1) (Place.mk x10.Code x10.Class (Span.mk (w64 ((w64 (s3.2.1 + 1)) + 1)) x10.Years.To) x10.Names)).map ePlace))]⟩ ?_
  obtain ⟨x11, hx11, h⟩ := bind_some h
  refine SRun.ls (x_index_deep (d := 1000000) (L := (List.set (List.set (List.set s3.2.2 (Int.toNat s3.1) (Place.mk x7 x8.Class x8.Years x8.Names)) (Int.toNat s3.1) (Place.mk x9.Code (w64 (s3.2.1 + 1)) x9.Years x9.Names)) (Int.toNat s3.1) (Place.mk x10.Code x10.Class (Span.mk (w64 ((w64 (s3.2.1 + 1)) + 1)) x10.Years.To) x10.Names))) (f := ePlace) (ti := ti24) (tj := ti41) (e := 41) (e' := 41) (m := 5) (k := .i64) (ss := [.flat, .flat, .flat, .flat, (.sl 95 5 [.flat, .flat, .flat, .flat, .flat])]) tbok rfl hx11) ?_
  refine SRun.ck tbok 2 ⟨51, [(0, .own 1000000), (1, vi (w64 ((w64 ((w64 (s3.2.1 + 1)) + 1)) + 1))), (5, vi s3.1), (37, vi (w64 ((w64 ((w64 (s3.2.1 + 1)) + 1)) + 1))), (40, .eref 1000000 5 (Int.toNat s3.1) 3)], [(1000000, .deep 41 5 (List.set (List.set (List.set s3.2.2 (Int.toNat s3.1) (Place.mk x7 x8.Class x8.Years x8.Names)) (Int.toNat s3.1) (Place.mk x9.Code (w64 (s3.2.1 + 1)) x9.Years x9.Names)) (Int.toNat s3.1) (Place.mk x10.Code x10.Class (Span.mk (w64 ((w64 (s3.2.1 + 1)) + 1)) x10.Years.To) x10.Names)).length [.flat, .flat, .flat, .flat, (.sl 95 5 [.flat, .flat, .flat, .flat, .flat])] ((List.set (List.set (List.set s3.2.2 (Int.toNat s3.1) (Place.mk x7 x8.Class x8.Years x8.Names)) (Int.toNat s3.1) (Place.mk x9.Code (w64 (s3.2.1 + 1)) x9.Years x9.Names)) (Int.toNat s3.1) (Place.mk x10.Code x10.Class (Span.mk (w64 ((w64 (s3.2.1 + 1)) + 1)) x10.Years.To) x10.Names)).map ePlace))]⟩ ?_
  refine SRun.estep (x_store_deep (d := 1000000) (m := 5) (j := 3) (L := (List.set (List.set (List.set s3.2.2 (Int.toNat s3.1) (Place.mk x7 x8.Class x8.Years x8.Names)) (Int.toNat s3.1) (Place.mk x9.Code (w64 (s3.2.1 + 1)) x9.Years x9.Names)) (Int.toNat s3.1) (Place.mk x10.Code x10.Class (Span.mk (w64 ((w64 (s3.2.1 + 1)) + 1)) x10.Years.To) x10.Names))) (f := ePlace) (x := (Place.mk x11.Code x11.Class (Span.mk x11.Years.From (w64 ((w64 ((w64 (s3.2.1 + 1)) + 1)) + 1))) x11.Names)) (z := x11) (ti := ti2) (e := 41) (ss := [.flat, .flat, .flat, .flat, (.sl 95 5 [.flat, .flat, .flat, .flat, .flat])]) (ss2 := [.flat]) (ts := [.int .i64 (w64 ((w64 ((w64 (s3.2.1 + 1)) + 1)) + 1))]) (vs := [vi (w64 ((w64 ((w64 (s3.2.1 + 1)) + 1)) + 1))]) (v := vi (w64 ((w64 ((w64 (s3.2.1 + 1)) + 1)) + 1))) (ds := []) tbok rfl rfl hx11 (.cons _ _ _ [] _ _ _ _ (.flat (.int .i64 (w64 ((w64 ((w64 (s3.2.1 + 1)) + 1)) + 1))) rfl) .nil (by decide))) ?_
  refine SRun.nx ?_
  refine srk tbok ⟨51, [(0, .own 1000000), (1, vi (w64 ((w64 ((w64 ((w64 (s3.2.1 + 1)) + 1)) + 1)) + 1))), (5, vi s3.1)], [(1000000, .deep 41 5 (List.set (List.set (List.set (List.set s3.2.2 (Int.toNat s3.1) (Place.mk x7 x8.Class x8.Years x8.Names)) (Int.toNat s3.1) (Place.mk x9.Code (w64 (s3.2.1 + 1)) x9.Years x9.Names)) (Int.toNat s3.1) (Place.mk x10.Code x10.Class (Span.mk (w64 ((w64 (s3.2.1 + 1)) + 1)) x10.Years.To) x10.Names)) (Int.toNat s3.1) (Place.mk x11.Code x11.Class (Span.mk x11.Years.From (w64 ((w64 ((w64 (s3.2.1 + 1)) + 1)) + 1))) x11.Names)).length [.flat, .flat, .flat, .flat, (.sl 95 5 [.flat, .flat, .flat, .flat, .flat])] ((List.set (List.set (List.set (List.set s3.2.2 (Int.toNat s3.1) (Place.mk x7 x8.Class x8.Years x8.Names)) (Int.toNat s3.1) (Place.mk x9.Code (w64 (s3.2.1 + 1)) x9.Years x9.Names)) (Int.toNat s3.1) (Place.mk x10.Code x10.Class (Span.mk (w64 ((w64 (s3.2.1 + 1)) + 1)) x10.Years.To) x10.Names)) (Int.toNat s3.1) (Place.mk x11.Code x11.Class (Span.mk x11.Years.From (w64 ((w64 ((w64 (s3.2.1 + 1)) + 1)) + 1))) x11.Names)).map ePlace))]⟩ ?_
  refine swp_reg ?_
  refine SRun.ck tbok 2 ⟨51, [(0, .own 1000000), (1, vi (w64 ((w64 ((w64 ((w64 (s3.2.1 + 1)) + 1)) + 1)) + 1))), (5, vi s3.1), (43, .own 1000000), (44, vi s3.1)], [(1000000, .deep 41 5 (List.set (List.set (List.set (List.set s3.2.2 (Int.toNat s3.1) (Place.mk x7 x8.Class x8.Years x8.Names)) (Int.toNat s3.1) (Place.mk x9.Code (w64 (s3.2.1 + 1)) x9.Years x9.Names)) (Int.toNat s3.1) (Place.mk x10.Code x10.Class (Span.mk (w64 ((w64 (s3.2.1 + 1)) + 1)) x10.Years.To) x10.Names)) (Int.toNat s3.1) (Place.mk x11.Code x11.Class (Span.mk x11.Years.From (w64 ((w64 ((w64 (s3.2.1 + 1)) + 1)) + 1))) x11.Names)).length [.flat, .flat, .flat, .flat, (.sl 95 5 [.flat, .flat, .flat, .flat, .flat])] ((List.set (List.set (List.set (List.set s3.2.2 (Int.toNat s3.1) (Place.mk x7 x8.Class x8.Years x8.Names)) (Int.toNat s3.1) (Place.mk x9.Code (w64 (s3.2.1 + 1)) x9.Years x9.Names)) (Int.toNat s3.1) (Place.mk x10.Code x10.Class (Span.mk (w64 ((w64 (s3.2.1 + 1)) + 1)) x10.Years.To) x10.Names)) (Int.toNat s3.1) (Place.mk x11.Code x11.Class (Span.mk x11.Years.From (w64 ((w64 ((w64 (s3.2.1 + 1)) + 1)) + 1))) x11.Names)).map ePlace))]⟩ ?_
  obtain ⟨x12, hx12, h⟩ := bind_some h
  refine SRun.ls (x_index_deep (d := 1000000) (L := (List.set (List.set (List.set (List.set s3.2.2 (Int.toNat s3.1) (Place.mk x7 x8.Class x8.Years x8.Names)) (Int.toNat s3.1) (Place.mk x9.Code (w64 (s3.2.1 + 1)) x9.Years x9.Names)) (Int.toNat s3.1) (Place.mk x10.Code x10.Class (Span.mk (w64 ((w64 (s3.2.1 + 1)) + 1)) x10.Years.To) x10.Names)) (Int.toNat s3.1) (Place.mk x11.Code x11.Class (Span.mk x11.Years.From (w64 ((w64 ((w64 (s3.2.1 + 1)) + 1)) + 1))) x11.Names))) (f := ePlace) (ti := ti24) (tj := ti41) (e := 41) (e' := 41) (m := 5) (k := .i64) (ss := [.flat, .flat, .flat, .flat, (.sl 95 5 [.flat, .flat, .flat, .flat, .flat])]) tbok rfl hx12) ?_
  refine SRun.ck tbok 1 ⟨51, [(0, .own 1000000), (1, vi (w64 ((w64 ((w64 ((w64 (s3.2.1 + 1)) + 1)) + 1)) + 1))), (5, vi s3.1), (46, .eref 1000000 5 (Int.toNat s3.1) 4)], [(1000000, .deep 41 5 (List.set (List.set (List.set (List.set s3.2.2 (Int.toNat s3.1) (Place.mk x7 x8.Class x8.Years x8.Names)) (Int.toNat s3.1) (Place.mk x9.Code (w64 (s3.2.1 + 1)) x9.Years x9.Names)) (Int.toNat s3.1) (Place.mk x10.Code x10.Class (Span.mk (w64 ((w64 (s3.2.1 + 1)) + 1)) x10.Years.To) x10.Names)) (Int.toNat s3.1) (Place.mk x11.Code x11.Class (Span.mk x11.Years.From (w64 ((w64 ((w64 (s3.2.1 + 1)) + 1)) + 1))) x11.Names)).length [.flat, .flat, .flat, .flat, (.sl 95 5 [.flat, .flat, .flat, .flat, .flat])] ((List.set (List.set (List.set (List.set s3.2.2 (Int.toNat s3.1) (Place.mk x7 x8.Class x8.Years x8.Names)) (Int.toNat s3.1) (Place.mk x9.Code (w64 (s3.2.1 + 1)) x9.Years x9.Names)) (Int.toNat s3.1) (Place.mk x10.Code x10.Class (Span.mk (w64 ((w64 (s3.2.1 + 1)) + 1)) x10.Years.To) x10.Names)) (Int.toNat s3.1) (Place.mk x11.Code x11.Class (Span.mk x11.Years.From (w64 ((w64 ((w64 (s3.2.1 + 1)) + 1)) + 1))) x11.Names)).map ePlace))]⟩ ?_
  refine SRun.estep (x_split (L := (List.set (List.set (List.set (List.set s3.2.2 (Int.toNat s3.1) (Place.mk x7 x8.Class x8.Years x8.Names)) (Int.toNat s3.1) (Place.mk x9.Code (w64 (s3.2.1 + 1)) x9.Years x9.Names)) (Int.toNat s3.1) (Place.mk x10.Code x10.Class (Span.mk (w64 ((w64 (s3.2.1 + 1)) + 1)) x10.Years.To) x10.Names)) (Int.toNat s3.1) (Place.mk x11.Code x11.Class (Span.mk x11.Years.From (w64 ((w64 ((w64 (s3.2.1 + 1)) + 1)) + 1))) x11.Names))) (f := ePlace) (d := 1000000) (k := 2000047) (e := 41) (m := 5) (j := 4) (e' := 95) (m' := 5) (n' := x12.Names.length) (ss := [.flat, .flat, .flat, .flat, (.sl 95 5 [.flat, .flat, .flat, .flat, .flat])]) (ss' := [.flat, .flat, .flat, .flat, .flat]) (es' := x12.Names.map eName) (ti := ti39) (y := oa 95 5 eName x12.Names) hx12 tbok rfl rfl (.inr ⟨rfl, rfl⟩)) ?_
  refine SRun.ck tbok 1 ⟨51, [(0, .own 1000000), (5, vi s3.1), (47, .own 2000047), (48, vi (w64 ((w64 ((w64 ((w64 (s3.2.1 + 1)) + 1)) + 1)) + 1)))], [(1000000, .hol 41 5 (List.set (List.set (List.set (List.set s3.2.2 (Int.toNat s3.1) (Place.mk x7 x8.Class x8.Years x8.Names)) (Int.toNat s3.1) (Place.mk x9.Code (w64 (s3.2.1 + 1)) x9.Years x9.Names)) (Int.toNat s3.1) (Place.mk x10.Code x10.Class (Span.mk (w64 ((w64 (s3.2.1 + 1)) + 1)) x10.Years.To) x10.Names)) (Int.toNat s3.1) (Place.mk x11.Code x11.Class (Span.mk x11.Years.From (w64 ((w64 ((w64 (s3.2.1 + 1)) + 1)) + 1))) x11.Names)).length [.flat, .flat, .flat, .flat, (.sl 95 5 [.flat, .flat, .flat, .flat, .flat])] ((List.set (List.set (List.set (List.set s3.2.2 (Int.toNat s3.1) (Place.mk x7 x8.Class x8.Years x8.Names)) (Int.toNat s3.1) (Place.mk x9.Code (w64 (s3.2.1 + 1)) x9.Years x9.Names)) (Int.toNat s3.1) (Place.mk x10.Code x10.Class (Span.mk (w64 ((w64 (s3.2.1 + 1)) + 1)) x10.Years.To) x10.Names)) (Int.toNat s3.1) (Place.mk x11.Code x11.Class (Span.mk x11.Years.From (w64 ((w64 ((w64 (s3.2.1 + 1)) + 1)) + 1))) x11.Names)).map ePlace) (Int.toNat s3.1) 4 2000047), (2000047, oa 95 5 eName x12.Names)]⟩ ?_
  obtain ⟨x13, hx13, h⟩ := bind_some h
  refine SRun.estep (xe ents48 (laws_markNameS_run x12.Names (w64 ((w64 ((w64 ((w64 (s3.2.1 + 1)) + 1)) + 1)) + 1)) _ hx13)) ?_
  refine SRun.le (x_join (L := (List.set (List.set (List.set (List.set s3.2.2 (Int.toNat s3.1) (Place.mk x7 x8.Class x8.Years x8.Names)) (Int.toNat s3.1) (Place.mk x9.Code (w64 (s3.2.1 + 1)) x9.Years x9.Names)) (Int.toNat s3.1) (Place.mk x10.Code x10.Class (Span.mk (w64 ((w64 (s3.2.1 + 1)) + 1)) x10.Years.To) x10.Names)) (Int.toNat s3.1) (Place.mk x11.Code x11.Class (Span.mk x11.Years.From (w64 ((w64 ((w64 (s3.2.1 + 1)) + 1)) + 1))) x11.Names))) (f := ePlace) (x' := (Place.mk x12.Code x12.Class x12.Years x13.2)) (d := 1000000) (k := 2000047) (e := 41) (m := 5) (j := 4) (e' := 95) (m' := 5) (n' := x13.2.length) (ss := [.flat, .flat, .flat, .flat, (.sl 95 5 [.flat, .flat, .flat, .flat, .flat])]) (ss' := [.flat, .flat, .flat, .flat, .flat]) (es' := x13.2.map eName) hx12 (flat_map eName_flat _)) ?_
  refine SRun.ck tbok 1 ⟨51, [(0, .own 1000000), (1, vi x13.1), (5, vi s3.1)], [(1000000, .deep 41 5 (List.set (List.set (List.set (List.set (List.set s3.2.2 (Int.toNat s3.1) (Place.mk x7 x8.Class x8.Years x8.Names)) (Int.toNat s3.1) (Place.mk x9.Code (w64 (s3.2.1 + 1)) x9.Years x9.Names)) (Int.toNat s3.1) (Place.mk x10.Code x10.Class (Span.mk (w64 ((w64 (s3.2.1 + 1)) + 1)) x10.Years.To) x10.Names)) (Int.toNat s3.1) (Place.mk x11.Code x11.Class (Span.mk x11.Years.From (w64 ((w64 ((w64 (s3.2.1 + 1)) + 1)) + 1))) x11.Names)) (Int.toNat s3.1) (Place.mk x12.Code x12.Class x12.Years x13.2)).length [.flat, .flat, .flat, .flat, (.sl 95 5 [.flat, .flat, .flat, .flat, .flat])] ((List.set (List.set (List.set (List.set (List.set s3.2.2 (Int.toNat s3.1) (Place.mk x7 x8.Class x8.Years x8.Names)) (Int.toNat s3.1) (Place.mk x9.Code (w64 (s3.2.1 + 1)) x9.Years x9.Names)) (Int.toNat s3.1) (Place.mk x10.Code x10.Class (Span.mk (w64 ((w64 (s3.2.1 + 1)) + 1)) x10.Years.To) x10.Names)) (Int.toNat s3.1) (Place.mk x11.Code x11.Class (Span.mk x11.Years.From (w64 ((w64 ((w64 (s3.2.1 + 1)) + 1)) + 1))) x11.Names)) (Int.toNat s3.1) (Place.mk x12.Code x12.Class x12.Years x13.2)).map ePlace))]⟩ ?_
  refine SRun.nil ?_
  obtain rfl := inj h
  exact q_bn (q_j (Le.sub0))
  refine swp_reg ?_
  refine SRun.ck tbok 3 ⟨51, [(0, .own 1000000), (1, vi j5.1), (5, vi (w64 (s3.1 + 1)))], [(1000000, .deep 41 5 j5.2.length [.flat, .flat, .flat, .flat, (.sl 95 5 [.flat, .flat, .flat, .flat, .flat])] (j5.2.map ePlace))]⟩ ?_
  refine SRun.nil ?_
  obtain rfl := inj h
  exact q_l (Le.sub0)
  refine swp_exit ?_
  obtain rfl := inj h
  exact nx_e (q_re (q_bh (q_j (Le.sub0))))
  refine srk tbok ⟨51, [(4, vi j1.1)], [(1000000, .deep 41 5 j1.2.length [.flat, .flat, .flat, .flat, (.sl 95 5 [.flat, .flat, .flat, .flat, .flat])] (j1.2.map ePlace))]⟩ ?_
  refine swp_ret ?_
  obtain rfl := inj h
  exact q_fr (fin_io (f1 fv) (y := .deep 41 5 j1.2.length [.flat, .flat, .flat, .flat, (.sl 95 5 [.flat, .flat, .flat, .flat, .flat])] (j1.2.map ePlace)) (by kernel_rfl) rfl (by kernel_rfl) (by kernel_rfl))
theorem ents11 : Ents Tryz.prog 11 := ents_of Tryz.func11 (by kernel_rfl) rfl
theorem laws_markPlace_run (L : List Name) (k : Int) (r : Int × List Name) (h : laws_markNameS L k = some r) : PlaceCall Tryz.prog 18 95 5 (L.map eName) (r.2.map eName) k r.1 := markPlace_call (flat_map eName_flat _) (flat_map eName_flat _) (by rw [List.length_map, List.length_map]; exact laws_markNameS_run L k r h)
theorem ents18 : Ents Tryz.prog 18 := ents_of Tryz.func18 (by kernel_rfl) rfl
noncomputable def laws_heldNameS (aA : (List Name)) (aK : Int) : Option (Int) :=
  (((forN (aA.length : Int) (fun (i3 : Int) (s3 : Int) => ((at' aA i3).bind fun x7 => ((laws_markText s3).bind fun x8 => (bif (!(x7.Text.toList == x8.toList)) then some (.inr (.inr (-1))) else ((at' aA i3).bind fun x9 => ((laws_markText (w64 (s3 + 1))).bind fun x10 => (bif (!(x9.Language.toList == x10.toList)) then some (.inr (.inr (-1))) else ((at' aA i3).bind fun x11 => (bif (x11.Status != (w64 ((w64 (s3 + 1)) + 1))) then some (.inr (.inr (-1))) else ((at' aA i3).bind fun x12 => (bif (x12.Years.From != (w64 ((w64 ((w64 (s3 + 1)) + 1)) + 1))) then some (.inr (.inr (-1))) else ((at' aA i3).bind fun x13 => (bif (x13.Years.To != (w64 ((w64 ((w64 ((w64 (s3 + 1)) + 1)) + 1)) + 1))) then some (.inr (.inr (-1))) else some (.inl (w64 ((w64 ((w64 ((w64 ((w64 (s3 + 1)) + 1)) + 1)) + 1)) + 1)))))))))))))))) (fun (s3 : Int) => .inl s3) 0 aK)).bind (Sum.elim (fun (j1 : Int) => some j1) some))
theorem laws_heldNameS_run (aA : (List Name)) (aK : Int) (r : Int) (h : laws_heldNameS aA aK = some r) : SCall Tryz.prog 49 [.v (vl eName aA), .v (vi aK)] ⟨[.v (vi r)], [], false⟩ := by
  refine scall_in Tryz.func49 rfl [(.tmp 4)] rfl (fun r => ⟨[.v (vi r)], [], false⟩) (r := r) ?_
  unfold laws_heldNameS at h
  refine srk tbok ⟨62, [(0, vl eName aA), (1, vi aK)], []⟩ ?_
  refine swp_seq ?_
  refine srk tbok ⟨62, [(0, vl eName aA), (1, vi aK), (5, vi 0)], []⟩ ?_
  refine swp_seqE (r := r) h (fun j1 => ⟨62, [(1, vi j1)], []⟩) (fun v2 h => ?_) (fun j1 h => ?_)
  refine swp_blk (a := v2) ?_
  refine swp_lpL (r := v2) (s := (0, aK)) _ (fun s3 => ⟨62, [(0, vl eName aA), (1, vi s3.2), (5, vi s3.1)], []⟩) _ (Le.sub0) h (fun s3 v4 h => ?_)
  refine swp_seq ?_
  refine srk tbok ⟨62, [(0, vl eName aA), (1, vi s3.2), (5, vi s3.1), (9, vb (decide (s3.1 < (aA.length : Int))))], []⟩ ?_
  refine swp_cd h (fun h => ?_) fun h => ?_
  refine swp_skip ?_
  refine nx_n ?_
  refine swp_seq ?_
  refine swp_seqL (r := v4) h (fun j5 => ⟨62, [(0, vl eName aA), (1, vi j5), (5, vi s3.1)], []⟩) (fun v6 h => ?_) (fun j5 h => ?_)
  refine swp_blk (a := v6) ?_
  refine swp_seq ?_
  refine swp_seq ?_
  refine swp_dr mixed ?_
  refine DGo.ck tbok false 2 ⟨62, [(0, vl eName aA), (1, vi s3.2), (5, vi s3.1), (12, vl eName aA), (13, vi s3.1)], []⟩ ?_
  obtain ⟨x7, hx7, h⟩ := bind_some h
  refine DGo.step (x_index (L := aA) (f := eName) (ti := ti39) (tj := ti95) (e := 95) (k := .i64) tbok rfl hx7) ?_
  refine DGo.ck tbok false 3 ⟨62, [(0, vl eName aA), (1, vi s3.2), (5, vi s3.1), (16, vs x7.Text), (17, vi s3.2)], []⟩ ?_
  obtain ⟨x8, hx8, h⟩ := bind_some h
  refine DGo.step (xc ents47 (laws_markText_run s3.2 _ hx8)) ?_
  refine DGo.ck tbok false 1 ⟨62, [(0, vl eName aA), (1, vi s3.2), (5, vi s3.1), (19, vb (!(x7.Text.toList == x8.toList)))], []⟩ ?_
  refine DGo.nx ?_
  refine swp_cd h (fun h => ?_) fun h => ?_
  refine srk tbok ⟨62, [(4, vi (-1))], []⟩ ?_
  refine swp_ret ?_
  obtain rfl := inj h
  exact nx_r (q_br (q_rr (q_rr (q_br (q_rr (q_fr (f1 fv)))))))
  refine swp_skip ?_
  refine nx_n ?_
  refine srk tbok ⟨62, [(0, vl eName aA), (1, vi (w64 (s3.2 + 1))), (5, vi s3.1)], []⟩ ?_
  refine swp_seq ?_
  refine swp_seq ?_
  refine swp_dr mixed ?_
  refine DGo.ck tbok false 2 ⟨62, [(0, vl eName aA), (1, vi (w64 (s3.2 + 1))), (5, vi s3.1), (22, vl eName aA), (23, vi s3.1)], []⟩ ?_
  obtain ⟨x9, hx9, h⟩ := bind_some h
  refine DGo.step (x_index (L := aA) (f := eName) (ti := ti39) (tj := ti95) (e := 95) (k := .i64) tbok rfl hx9) ?_
  refine DGo.ck tbok false 3 ⟨62, [(0, vl eName aA), (1, vi (w64 (s3.2 + 1))), (5, vi s3.1), (26, vs x9.Language), (27, vi (w64 (s3.2 + 1)))], []⟩ ?_
  obtain ⟨x10, hx10, h⟩ := bind_some h
  refine DGo.step (xc ents47 (laws_markText_run (w64 (s3.2 + 1)) _ hx10)) ?_
  refine DGo.ck tbok false 1 ⟨62, [(0, vl eName aA), (1, vi (w64 (s3.2 + 1))), (5, vi s3.1), (29, vb (!(x9.Language.toList == x10.toList)))], []⟩ ?_
  refine DGo.nx ?_
  refine swp_cd h (fun h => ?_) fun h => ?_
  refine srk tbok ⟨62, [(4, vi (-1))], []⟩ ?_
  refine swp_ret ?_
  obtain rfl := inj h
  exact nx_r (q_br (q_rr (q_rr (q_br (q_rr (q_fr (f1 fv)))))))
  refine swp_skip ?_
  refine nx_n ?_
  refine srk tbok ⟨62, [(0, vl eName aA), (1, vi (w64 ((w64 (s3.2 + 1)) + 1))), (5, vi s3.1)], []⟩ ?_
  refine swp_seq ?_
  refine sr ?_
  refine SRun.ck tbok 2 ⟨62, [(0, vl eName aA), (1, vi (w64 ((w64 (s3.2 + 1)) + 1))), (5, vi s3.1), (32, vl eName aA), (33, vi s3.1)], []⟩ ?_
  obtain ⟨x11, hx11, h⟩ := bind_some h
  refine SRun.ls (x_index (L := aA) (f := eName) (ti := ti39) (tj := ti95) (e := 95) (k := .i64) tbok rfl hx11) ?_
  refine ckn tbok 4 ⟨62, [(0, vl eName aA), (1, vi (w64 ((w64 (s3.2 + 1)) + 1))), (5, vi s3.1), (38, vb (x11.Status != (w64 ((w64 (s3.2 + 1)) + 1))))], []⟩ ?_
  refine swp_cd h (fun h => ?_) fun h => ?_
  refine srk tbok ⟨62, [(4, vi (-1))], []⟩ ?_
  refine swp_ret ?_
  obtain rfl := inj h
  exact nx_r (q_br (q_rr (q_rr (q_br (q_rr (q_fr (f1 fv)))))))
  refine swp_skip ?_
  refine nx_n ?_
  refine srk tbok ⟨62, [(0, vl eName aA), (1, vi (w64 ((w64 ((w64 (s3.2 + 1)) + 1)) + 1))), (5, vi s3.1)], []⟩ ?_
  refine swp_seq ?_
  refine sr ?_
  refine SRun.ck tbok 2 ⟨62, [(0, vl eName aA), (1, vi (w64 ((w64 ((w64 (s3.2 + 1)) + 1)) + 1))), (5, vi s3.1), (41, vl eName aA), (42, vi s3.1)], []⟩ ?_
  obtain ⟨x12, hx12, h⟩ := bind_some h
  refine SRun.ls (x_index (L := aA) (f := eName) (ti := ti39) (tj := ti95) (e := 95) (k := .i64) tbok rfl hx12) ?_
  refine ckn tbok 5 ⟨62, [(0, vl eName aA), (1, vi (w64 ((w64 ((w64 (s3.2 + 1)) + 1)) + 1))), (5, vi s3.1), (48, vb (x12.Years.From != (w64 ((w64 ((w64 (s3.2 + 1)) + 1)) + 1))))], []⟩ ?_
  refine swp_cd h (fun h => ?_) fun h => ?_
  refine srk tbok ⟨62, [(4, vi (-1))], []⟩ ?_
  refine swp_ret ?_
  obtain rfl := inj h
  exact nx_r (q_br (q_rr (q_rr (q_br (q_rr (q_fr (f1 fv)))))))
  refine swp_skip ?_
  refine nx_n ?_
  refine srk tbok ⟨62, [(0, vl eName aA), (1, vi (w64 ((w64 ((w64 ((w64 (s3.2 + 1)) + 1)) + 1)) + 1))), (5, vi s3.1)], []⟩ ?_
  refine swp_seq ?_
  refine sr ?_
  refine SRun.ck tbok 2 ⟨62, [(0, vl eName aA), (1, vi (w64 ((w64 ((w64 ((w64 (s3.2 + 1)) + 1)) + 1)) + 1))), (5, vi s3.1), (51, vl eName aA), (52, vi s3.1)], []⟩ ?_
  obtain ⟨x13, hx13, h⟩ := bind_some h
  refine SRun.ls (x_index (L := aA) (f := eName) (ti := ti39) (tj := ti95) (e := 95) (k := .i64) tbok rfl hx13) ?_
  refine ckn tbok 5 ⟨62, [(0, vl eName aA), (1, vi (w64 ((w64 ((w64 ((w64 (s3.2 + 1)) + 1)) + 1)) + 1))), (5, vi s3.1), (58, vb (x13.Years.To != (w64 ((w64 ((w64 ((w64 (s3.2 + 1)) + 1)) + 1)) + 1))))], []⟩ ?_
  refine swp_cd h (fun h => ?_) fun h => ?_
  refine srk tbok ⟨62, [(4, vi (-1))], []⟩ ?_
  refine swp_ret ?_
  obtain rfl := inj h
  exact nx_r (q_br (q_rr (q_rr (q_br (q_rr (q_fr (f1 fv)))))))
  refine swp_skip ?_
  refine nx_n ?_
  refine swp_reg ?_
  refine SRun.ck tbok 3 ⟨62, [(0, vl eName aA), (1, vi (w64 ((w64 ((w64 ((w64 ((w64 (s3.2 + 1)) + 1)) + 1)) + 1)) + 1))), (5, vi s3.1)], []⟩ ?_
  refine SRun.nil ?_
  obtain rfl := inj h
  exact q_bn (q_l (Le.sub0))
  refine swp_reg ?_
  refine SRun.ck tbok 3 ⟨62, [(0, vl eName aA), (1, vi j5), (5, vi (w64 (s3.1 + 1)))], []⟩ ?_
  refine SRun.nil ?_
  obtain rfl := inj h
  exact q_l (Le.sub0)
  refine swp_exit ?_
  obtain rfl := inj h
  exact nx_e (q_re (q_bh (q_l (Le.sub0))))
  refine srk tbok ⟨62, [(4, vi j1)], []⟩ ?_
  refine swp_ret ?_
  obtain rfl := inj h
  exact q_fr (f1 fv)
theorem ents49 : Ents Tryz.prog 49 := ents_of Tryz.func49 (by kernel_rfl) rfl
noncomputable def laws_heldPlaceS (aA : (List Place)) (aK : Int) : Option (Int) :=
  (((forN (aA.length : Int) (fun (i3 : Int) (s3 : Int) => ((at' aA i3).bind fun x7 => ((laws_markText s3).bind fun x8 => (bif (!(x7.Code.toList == x8.toList)) then some (.inr (.inr (-1))) else ((at' aA i3).bind fun x9 => (bif (x9.Class != (w64 (s3 + 1))) then some (.inr (.inr (-1))) else ((at' aA i3).bind fun x10 => (bif (x10.Years.From != (w64 ((w64 (s3 + 1)) + 1))) then some (.inr (.inr (-1))) else ((at' aA i3).bind fun x11 => (bif (x11.Years.To != (w64 ((w64 ((w64 (s3 + 1)) + 1)) + 1))) then some (.inr (.inr (-1))) else ((at' aA i3).bind fun x12 => ((laws_heldNameS x12.Names (w64 ((w64 ((w64 ((w64 (s3 + 1)) + 1)) + 1)) + 1))).bind fun x13 => (bif (decide (x13 < 0)) then some (.inr (.inr (-1))) else some (.inl x13)))))))))))))) (fun (s3 : Int) => .inl s3) 0 aK)).bind (Sum.elim (fun (j1 : Int) => some j1) some))
theorem laws_heldPlaceS_run (aA : (List Place)) (aK : Int) (r : Int) (h : laws_heldPlaceS aA aK = some r) : SCall Tryz.prog 12 [.v (vl ePlace aA), .v (vi aK)] ⟨[.v (vi r)], [], false⟩ := by
  refine scall_in Tryz.func12 rfl [(.tmp 4)] rfl (fun r => ⟨[.v (vi r)], [], false⟩) (r := r) ?_
  unfold laws_heldPlaceS at h
  refine srk tbok ⟨61, [(0, vl ePlace aA), (1, vi aK)], []⟩ ?_
  refine swp_seq ?_
  refine srk tbok ⟨61, [(0, vl ePlace aA), (1, vi aK), (5, vi 0)], []⟩ ?_
  refine swp_seqE (r := r) h (fun j1 => ⟨61, [(1, vi j1)], []⟩) (fun v2 h => ?_) (fun j1 h => ?_)
  refine swp_blk (a := v2) ?_
  refine swp_lpL (r := v2) (s := (0, aK)) _ (fun s3 => ⟨61, [(0, vl ePlace aA), (1, vi s3.2), (5, vi s3.1)], []⟩) _ (Le.sub0) h (fun s3 v4 h => ?_)
  refine swp_seq ?_
  refine srk tbok ⟨61, [(0, vl ePlace aA), (1, vi s3.2), (5, vi s3.1), (9, vb (decide (s3.1 < (aA.length : Int))))], []⟩ ?_
  refine swp_cd h (fun h => ?_) fun h => ?_
  refine swp_skip ?_
  refine nx_n ?_
  refine swp_seq ?_
  refine swp_seqL (r := v4) h (fun j5 => ⟨61, [(0, vl ePlace aA), (1, vi j5), (5, vi s3.1)], []⟩) (fun v6 h => ?_) (fun j5 h => ?_)
  refine swp_blk (a := v6) ?_
  refine swp_seq ?_
  refine swp_seq ?_
  refine swp_dr mixed ?_
  refine DGo.ck tbok false 2 ⟨61, [(0, vl ePlace aA), (1, vi s3.2), (5, vi s3.1), (12, vl ePlace aA), (13, vi s3.1)], []⟩ ?_
  obtain ⟨x7, hx7, h⟩ := bind_some h
  refine DGo.step (x_index (L := aA) (f := ePlace) (ti := ti24) (tj := ti41) (e := 41) (k := .i64) tbok rfl hx7) ?_
  refine DGo.ck tbok false 3 ⟨61, [(0, vl ePlace aA), (1, vi s3.2), (5, vi s3.1), (16, vs x7.Code), (17, vi s3.2)], []⟩ ?_
  obtain ⟨x8, hx8, h⟩ := bind_some h
  refine DGo.step (xc ents47 (laws_markText_run s3.2 _ hx8)) ?_
  refine DGo.ck tbok false 1 ⟨61, [(0, vl ePlace aA), (1, vi s3.2), (5, vi s3.1), (19, vb (!(x7.Code.toList == x8.toList)))], []⟩ ?_
  refine DGo.nx ?_
  refine swp_cd h (fun h => ?_) fun h => ?_
  refine srk tbok ⟨61, [(4, vi (-1))], []⟩ ?_
  refine swp_ret ?_
  obtain rfl := inj h
  exact nx_r (q_br (q_rr (q_rr (q_br (q_rr (q_fr (f1 fv)))))))
  refine swp_skip ?_
  refine nx_n ?_
  refine srk tbok ⟨61, [(0, vl ePlace aA), (1, vi (w64 (s3.2 + 1))), (5, vi s3.1)], []⟩ ?_
  refine swp_seq ?_
  refine sr ?_
  refine SRun.ck tbok 2 ⟨61, [(0, vl ePlace aA), (1, vi (w64 (s3.2 + 1))), (5, vi s3.1), (22, vl ePlace aA), (23, vi s3.1)], []⟩ ?_
  obtain ⟨x9, hx9, h⟩ := bind_some h
  refine SRun.ls (x_index (L := aA) (f := ePlace) (ti := ti24) (tj := ti41) (e := 41) (k := .i64) tbok rfl hx9) ?_
  refine ckn tbok 4 ⟨61, [(0, vl ePlace aA), (1, vi (w64 (s3.2 + 1))), (5, vi s3.1), (28, vb (x9.Class != (w64 (s3.2 + 1))))], []⟩ ?_
  refine swp_cd h (fun h => ?_) fun h => ?_
  refine srk tbok ⟨61, [(4, vi (-1))], []⟩ ?_
  refine swp_ret ?_
  obtain rfl := inj h
  exact nx_r (q_br (q_rr (q_rr (q_br (q_rr (q_fr (f1 fv)))))))
  refine swp_skip ?_
  refine nx_n ?_
  refine srk tbok ⟨61, [(0, vl ePlace aA), (1, vi (w64 ((w64 (s3.2 + 1)) + 1))), (5, vi s3.1)], []⟩ ?_
  refine swp_seq ?_
  refine sr ?_
  refine SRun.ck tbok 2 ⟨61, [(0, vl ePlace aA), (1, vi (w64 ((w64 (s3.2 + 1)) + 1))), (5, vi s3.1), (31, vl ePlace aA), (32, vi s3.1)], []⟩ ?_
  obtain ⟨x10, hx10, h⟩ := bind_some h
  refine SRun.ls (x_index (L := aA) (f := ePlace) (ti := ti24) (tj := ti41) (e := 41) (k := .i64) tbok rfl hx10) ?_
  refine ckn tbok 5 ⟨61, [(0, vl ePlace aA), (1, vi (w64 ((w64 (s3.2 + 1)) + 1))), (5, vi s3.1), (38, vb (x10.Years.From != (w64 ((w64 (s3.2 + 1)) + 1))))], []⟩ ?_
  refine swp_cd h (fun h => ?_) fun h => ?_
  refine srk tbok ⟨61, [(4, vi (-1))], []⟩ ?_
  refine swp_ret ?_
  obtain rfl := inj h
  exact nx_r (q_br (q_rr (q_rr (q_br (q_rr (q_fr (f1 fv)))))))
  refine swp_skip ?_
  refine nx_n ?_
  refine srk tbok ⟨61, [(0, vl ePlace aA), (1, vi (w64 ((w64 ((w64 (s3.2 + 1)) + 1)) + 1))), (5, vi s3.1)], []⟩ ?_
  refine swp_seq ?_
  refine sr ?_
  refine SRun.ck tbok 2 ⟨61, [(0, vl ePlace aA), (1, vi (w64 ((w64 ((w64 (s3.2 + 1)) + 1)) + 1))), (5, vi s3.1), (41, vl ePlace aA), (42, vi s3.1)], []⟩ ?_
  obtain ⟨x11, hx11, h⟩ := bind_some h
  refine SRun.ls (x_index (L := aA) (f := ePlace) (ti := ti24) (tj := ti41) (e := 41) (k := .i64) tbok rfl hx11) ?_
  refine ckn tbok 5 ⟨61, [(0, vl ePlace aA), (1, vi (w64 ((w64 ((w64 (s3.2 + 1)) + 1)) + 1))), (5, vi s3.1), (48, vb (x11.Years.To != (w64 ((w64 ((w64 (s3.2 + 1)) + 1)) + 1))))], []⟩ ?_
  refine swp_cd h (fun h => ?_) fun h => ?_
  refine srk tbok ⟨61, [(4, vi (-1))], []⟩ ?_
  refine swp_ret ?_
  obtain rfl := inj h
  exact nx_r (q_br (q_rr (q_rr (q_br (q_rr (q_fr (f1 fv)))))))
  refine swp_skip ?_
  refine nx_n ?_
  refine srk tbok ⟨61, [(0, vl ePlace aA), (1, vi (w64 ((w64 ((w64 ((w64 (s3.2 + 1)) + 1)) + 1)) + 1))), (5, vi s3.1)], []⟩ ?_
  refine sr ?_
  refine SRun.ck tbok 2 ⟨61, [(0, vl ePlace aA), (1, vi (w64 ((w64 ((w64 ((w64 (s3.2 + 1)) + 1)) + 1)) + 1))), (5, vi s3.1), (51, vl ePlace aA), (52, vi s3.1)], []⟩ ?_
  obtain ⟨x12, hx12, h⟩ := bind_some h
  refine SRun.ls (x_index (L := aA) (f := ePlace) (ti := ti24) (tj := ti41) (e := 41) (k := .i64) tbok rfl hx12) ?_
  refine SRun.ck tbok 3 ⟨61, [(0, vl ePlace aA), (5, vi s3.1), (55, vl eName x12.Names), (56, vi (w64 ((w64 ((w64 ((w64 (s3.2 + 1)) + 1)) + 1)) + 1)))], []⟩ ?_
  obtain ⟨x13, hx13, h⟩ := bind_some h
  refine SRun.ls (xc ents49 (laws_heldNameS_run x12.Names (w64 ((w64 ((w64 ((w64 (s3.2 + 1)) + 1)) + 1)) + 1)) _ hx13)) ?_
  refine ckn tbok 1 ⟨61, [(0, vl ePlace aA), (1, vi x13), (5, vi s3.1)], []⟩ ?_
  refine srk tbok ⟨61, [(0, vl ePlace aA), (1, vi x13), (5, vi s3.1), (59, vb (decide (x13 < 0)))], []⟩ ?_
  refine swp_cd h (fun h => ?_) fun h => ?_
  refine srk tbok ⟨61, [(4, vi (-1))], []⟩ ?_
  refine swp_ret ?_
  obtain rfl := inj h
  exact q_br (q_rr (q_rr (q_br (q_rr (q_fr (f1 fv))))))
  refine swp_skip ?_
  obtain rfl := inj h
  exact q_bn (q_l (Le.sub0))
  refine swp_reg ?_
  refine SRun.ck tbok 3 ⟨61, [(0, vl ePlace aA), (1, vi j5), (5, vi (w64 (s3.1 + 1)))], []⟩ ?_
  refine SRun.nil ?_
  obtain rfl := inj h
  exact q_l (Le.sub0)
  refine swp_exit ?_
  obtain rfl := inj h
  exact nx_e (q_re (q_bh (q_l (Le.sub0))))
  refine srk tbok ⟨61, [(4, vi j1)], []⟩ ?_
  refine swp_ret ?_
  obtain rfl := inj h
  exact q_fr (f1 fv)
theorem ents12 : Ents Tryz.prog 12 := ents_of Tryz.func12 (by kernel_rfl) rfl
noncomputable def laws_FnExactAddPlace (aAList : (List Place)) (aAP : Place) : Option (Bool) :=
  ((laws_szPlaceS aAList 1048576).bind fun x1 => (bif (decide (x1 < 0)) then some true else ((laws_szPlace aAP x1).bind fun x2 => (bif (decide (x2 < 0)) then some true else ((laws_toPlaceS aAList).bind fun x3 => ((laws_toPlace aAP).bind fun x4 => ((spec_AddPlace x3 x4).bind fun x5 => ((laws_toPlaceS aAList).bind fun x6 => ((laws_toPlace aAP).bind fun x7 => ((impl_AddPlace x6 x7).bind fun x8 => ((((laws_eqPlaceS x8.1 x5.1).bind fun x9 => (bif (!x9) then some true else some (x8.2 != x5.2)))).bind fun (j10 : Bool) => (bif j10 then some false else ((laws_toPlaceS aAList).bind fun x12 => ((laws_eqPlaceS x6 x12).bind fun x13 => (bif (!x13) then some false else ((laws_toPlace aAP).bind fun x14 => ((laws_eqPlace x7 x14).bind fun x15 => (bif (!x15) then some false else ((laws_markPlaceS x6 1).bind fun x16 => ((laws_markNameS x7.Names x16.1).bind fun x17 => (((bif (decide (x17.1 < 0)) then some true else ((laws_eqPlaceS x8.1 x5.1).bind fun x18 => (bif (!x18) then some true else some (x8.2 != x5.2))))).bind fun (j19 : Bool) => (bif j19 then some false else ((laws_markPlaceS x8.1 1).bind fun x21 => ((laws_heldPlaceS x21.2 1).bind fun x22 => (bif (decide (x22 < 0)) then some false else (bif (x22 != x21.1) then some false else ((laws_toPlaceS aAList).bind fun x23 => ((laws_toPlace aAP).bind fun x24 => ((impl_AddPlace x23 x24).bind fun x25 => ((((laws_eqPlaceS x25.1 x5.1).bind fun x26 => (bif (!x26) then some true else some (x25.2 != x5.2)))).bind fun (j27 : Bool) => (bif j27 then some false else ((laws_heldPlaceS x21.2 1).bind fun x29 => (bif (decide (x29 < 0)) then some false else (bif (x29 != x21.1) then some false else some true))))))))))))))))))))))))))))))))))
theorem laws_FnExactAddPlace_run (aAList : (List Place)) (aAP : Place) (r : Bool) (h : laws_FnExactAddPlace aAList aAP = some r) : SCall Tryz.prog 4 [.v (vl ePlace aAList), .v (.agg (tc ePlace aAP))] ⟨[.v (vb r)], [], false⟩ := by
  refine scall_in Tryz.func4 rfl [(.tmp 4)] rfl (fun r => ⟨[.v (vb r)], [], false⟩) (r := r) ?_
  unfold laws_FnExactAddPlace at h
  refine srk tbok ⟨119, [(0, vl ePlace aAList), (3, .ref 3 0)], [(3, .box (tc ePlace aAP))]⟩ ?_
  refine srk tbok ⟨119, [(0, vl ePlace aAList), (3, .ref 3 0), (5, vi 1048576)], [(3, .box (tc ePlace aAP))]⟩ ?_
  refine sr ?_
  refine SRun.ck tbok 2 ⟨119, [(0, vl ePlace aAList), (3, .ref 3 0), (17, vl ePlace aAList), (18, vi 1048576)], [(3, .box (tc ePlace aAP))]⟩ ?_
  obtain ⟨x1, hx1, h⟩ := bind_some h
  refine SRun.ls (xc ents6 (laws_szPlaceS_run aAList 1048576 _ hx1)) ?_
  refine ckn tbok 1 ⟨119, [(0, vl ePlace aAList), (3, .ref 3 0), (5, vi x1)], [(3, .box (tc ePlace aAP))]⟩ ?_
  refine swp_seq ?_
  refine srk tbok ⟨119, [(0, vl ePlace aAList), (3, .ref 3 0), (5, vi x1), (21, vb (decide (x1 < 0)))], [(3, .box (tc ePlace aAP))]⟩ ?_
  refine swp_cd h (fun h => ?_) fun h => ?_
  refine srk tbok ⟨119, [(4, vb true)], []⟩ ?_
  refine swp_ret ?_
  obtain rfl := inj h
  exact nx_r (q_fr (f1 fv))
  refine swp_skip ?_
  refine nx_n ?_
  refine sr ?_
  refine SRun.ck tbok 2 ⟨119, [(0, vl ePlace aAList), (3, .ref 3 0), (22, .agg (tc ePlace aAP)), (23, vi x1)], [(3, .box (tc ePlace aAP))]⟩ ?_
  obtain ⟨x2, hx2, h⟩ := bind_some h
  refine SRun.ls (xc ents13 (laws_szPlace_run aAP x1 _ hx2)) ?_
  refine ckn tbok 1 ⟨119, [(0, vl ePlace aAList), (3, .ref 3 0), (5, vi x2)], [(3, .box (tc ePlace aAP))]⟩ ?_
  refine swp_seq ?_
  refine srk tbok ⟨119, [(0, vl ePlace aAList), (3, .ref 3 0), (26, vb (decide (x2 < 0)))], [(3, .box (tc ePlace aAP))]⟩ ?_
  refine swp_cd h (fun h => ?_) fun h => ?_
  refine srk tbok ⟨119, [(4, vb true)], []⟩ ?_
  refine swp_ret ?_
  obtain rfl := inj h
  exact nx_r (q_fr (f1 fv))
  refine swp_skip ?_
  refine nx_n ?_
  refine swp_seq ?_
  refine swp_dr mixed ?_
  refine DGo.ck tbok false 1 ⟨119, [(0, vl ePlace aAList), (3, .ref 3 0), (28, vl ePlace aAList)], [(3, .box (tc ePlace aAP))]⟩ ?_
  obtain ⟨x3, hx3, h⟩ := bind_some h
  refine DGo.step (xc ents8 (laws_toPlaceS_run aAList _ hx3)) ?_
  refine DGo.ck tbok false 1 ⟨119, [(0, vl ePlace aAList), (3, .ref 3 0), (29, .own 29), (30, .agg (tc ePlace aAP))], [(3, .box (tc ePlace aAP)), (29, .deep 41 5 x3.length [.flat, .flat, .flat, .flat, (.sl 95 5 [.flat, .flat, .flat, .flat, .flat])] (x3.map ePlace))]⟩ ?_
  obtain ⟨x4, hx4, h⟩ := bind_some h
  refine DGo.step (xc ents15 (laws_toPlace_run aAP _ hx4)) ?_
  obtain ⟨x5, hx5, h⟩ := bind_some h
  refine DGo.stepW false [29, 31] (xc ents14 (spec_AddPlace_run x3 x4 _ hx5)) ?_
  refine DGo.ck tbok false 5 ⟨119, [(0, vl ePlace aAList), (3, .ref 3 0), (6, .own 32), (7, vi x5.2)], [(3, .box (tc ePlace aAP)), (32, .deep 41 5 x5.1.length [.flat, .flat, .flat, .flat, (.sl 95 5 [.flat, .flat, .flat, .flat, .flat])] (x5.1.map ePlace))]⟩ ?_
  refine DGo.nx ?_
  refine sr ?_
  refine SRun.ck tbok 1 ⟨119, [(0, vl ePlace aAList), (3, .ref 3 0), (6, .own 32), (7, vi x5.2), (35, vl ePlace aAList)], [(3, .box (tc ePlace aAP)), (32, .deep 41 5 x5.1.length [.flat, .flat, .flat, .flat, (.sl 95 5 [.flat, .flat, .flat, .flat, .flat])] (x5.1.map ePlace))]⟩ ?_
  obtain ⟨x6, hx6, h⟩ := bind_some h
  refine SRun.ls (xc ents8 (laws_toPlaceS_run aAList _ hx6)) ?_
  refine ckn tbok 1 ⟨119, [(0, vl ePlace aAList), (3, .ref 3 0), (6, .own 32), (7, vi x5.2), (8, .own 36)], [(3, .box (tc ePlace aAP)), (32, .deep 41 5 x5.1.length [.flat, .flat, .flat, .flat, (.sl 95 5 [.flat, .flat, .flat, .flat, .flat])] (x5.1.map ePlace)), (36, .deep 41 5 x6.length [.flat, .flat, .flat, .flat, (.sl 95 5 [.flat, .flat, .flat, .flat, .flat])] (x6.map ePlace))]⟩ ?_
  refine sr ?_
  refine SRun.ck tbok 1 ⟨119, [(0, vl ePlace aAList), (3, .ref 3 0), (6, .own 32), (7, vi x5.2), (8, .own 36), (37, .agg (tc ePlace aAP))], [(3, .box (tc ePlace aAP)), (32, .deep 41 5 x5.1.length [.flat, .flat, .flat, .flat, (.sl 95 5 [.flat, .flat, .flat, .flat, .flat])] (x5.1.map ePlace)), (36, .deep 41 5 x6.length [.flat, .flat, .flat, .flat, (.sl 95 5 [.flat, .flat, .flat, .flat, .flat])] (x6.map ePlace))]⟩ ?_
  obtain ⟨x7, hx7, h⟩ := bind_some h
  refine SRun.ls (xc ents15 (laws_toPlace_run aAP _ hx7)) ?_
  refine ckn tbok 2 ⟨119, [(0, vl ePlace aAList), (3, .ref 3 0), (6, .own 32), (7, vi x5.2), (8, .own 36), (9, .ref 9 0)], [(3, .box (tc ePlace aAP)), (9, .box [vs x7.Code, vi x7.Class, vi x7.Years.From, vi x7.Years.To, .own 38]), (32, .deep 41 5 x5.1.length [.flat, .flat, .flat, .flat, (.sl 95 5 [.flat, .flat, .flat, .flat, .flat])] (x5.1.map ePlace)), (36, .deep 41 5 x6.length [.flat, .flat, .flat, .flat, (.sl 95 5 [.flat, .flat, .flat, .flat, .flat])] (x6.map ePlace)), (38, oa 95 5 eName x7.Names)]⟩ ?_
  refine sr ?_
  refine SRun.ck tbok 2 ⟨119, [(0, vl ePlace aAList), (3, .ref 3 0), (6, .own 32), (7, vi x5.2), (8, .own 36), (9, .ref 9 0), (40, .own 36), (41, .agg [vs x7.Code, vi x7.Class, vi x7.Years.From, vi x7.Years.To, .own 38])], [(3, .box (tc ePlace aAP)), (9, .box [vs x7.Code, vi x7.Class, vi x7.Years.From, vi x7.Years.To, .own 38]), (32, .deep 41 5 x5.1.length [.flat, .flat, .flat, .flat, (.sl 95 5 [.flat, .flat, .flat, .flat, .flat])] (x5.1.map ePlace)), (36, .deep 41 5 x6.length [.flat, .flat, .flat, .flat, (.sl 95 5 [.flat, .flat, .flat, .flat, .flat])] (x6.map ePlace)), (38, oa 95 5 eName x7.Names)]⟩ ?_
  obtain ⟨x8, hx8, h⟩ := bind_some h
  refine SRun.ls (xc ents16 (impl_AddPlace_run x6 x7 _ hx8)) ?_
  refine ckn tbok 5 ⟨119, [(0, vl ePlace aAList), (3, .ref 3 0), (6, .own 32), (7, vi x5.2), (8, .own 36), (9, .ref 9 0), (10, .own 42), (11, vi x8.2)], [(3, .box (tc ePlace aAP)), (9, .box [vs x7.Code, vi x7.Class, vi x7.Years.From, vi x7.Years.To, .own 38]), (32, .deep 41 5 x5.1.length [.flat, .flat, .flat, .flat, (.sl 95 5 [.flat, .flat, .flat, .flat, .flat])] (x5.1.map ePlace)), (36, .deep 41 5 x6.length [.flat, .flat, .flat, .flat, (.sl 95 5 [.flat, .flat, .flat, .flat, .flat])] (x6.map ePlace)), (38, oa 95 5 eName x7.Names), (42, .deep 41 5 x8.1.length [.flat, .flat, .flat, .flat, (.sl 95 5 [.flat, .flat, .flat, .flat, .flat])] (x8.1.map ePlace))]⟩ ?_
  refine swp_seq ?_
  refine swp_seq ?_
  refine swp_regJ h (fun j10 => ⟨119, [(0, vl ePlace aAList), (3, .ref 3 0), (6, .own 6), (7, vi x5.2), (8, .own 8), (9, .ref 9 0), (10, .own 10), (11, vi x8.2), (53, vb j10)], [(3, .box (tc ePlace aAP)), (9, .box [vs x7.Code, vi x7.Class, vi x7.Years.From, vi x7.Years.To, .own 38]), (6, .deep 41 5 x5.1.length [.flat, .flat, .flat, .flat, (.sl 95 5 [.flat, .flat, .flat, .flat, .flat])] (x5.1.map ePlace)), (8, .deep 41 5 x6.length [.flat, .flat, .flat, .flat, (.sl 95 5 [.flat, .flat, .flat, .flat, .flat])] (x6.map ePlace)), (38, oa 95 5 eName x7.Names), (10, .deep 41 5 x8.1.length [.flat, .flat, .flat, .flat, (.sl 95 5 [.flat, .flat, .flat, .flat, .flat])] (x8.1.map ePlace))]⟩) (fun v11 h => ?_) (fun j10 h => ?_)
  refine SRun.ck tbok 2 ⟨119, [(0, vl ePlace aAList), (3, .ref 3 0), (6, .own 32), (7, vi x5.2), (8, .own 36), (9, .ref 9 0), (10, .own 42), (11, vi x8.2), (45, .own 42), (46, .own 32)], [(3, .box (tc ePlace aAP)), (9, .box [vs x7.Code, vi x7.Class, vi x7.Years.From, vi x7.Years.To, .own 38]), (32, .deep 41 5 x5.1.length [.flat, .flat, .flat, .flat, (.sl 95 5 [.flat, .flat, .flat, .flat, .flat])] (x5.1.map ePlace)), (36, .deep 41 5 x6.length [.flat, .flat, .flat, .flat, (.sl 95 5 [.flat, .flat, .flat, .flat, .flat])] (x6.map ePlace)), (38, oa 95 5 eName x7.Names), (42, .deep 41 5 x8.1.length [.flat, .flat, .flat, .flat, (.sl 95 5 [.flat, .flat, .flat, .flat, .flat])] (x8.1.map ePlace))]⟩ ?_
  obtain ⟨x9, hx9, h⟩ := bind_some h
  refine SRun.ls (xc ents10 (laws_eqPlaceS_run x8.1 x5.1 _ hx9)) ?_
  refine SRun.ck tbok 2 ⟨119, [(0, vl ePlace aAList), (3, .ref 3 0), (6, .own 32), (7, vi x5.2), (8, .own 36), (9, .ref 9 0), (10, .own 42), (11, vi x8.2), (49, vb (!x9))], [(3, .box (tc ePlace aAP)), (9, .box [vs x7.Code, vi x7.Class, vi x7.Years.From, vi x7.Years.To, .own 38]), (32, .deep 41 5 x5.1.length [.flat, .flat, .flat, .flat, (.sl 95 5 [.flat, .flat, .flat, .flat, .flat])] (x5.1.map ePlace)), (36, .deep 41 5 x6.length [.flat, .flat, .flat, .flat, (.sl 95 5 [.flat, .flat, .flat, .flat, .flat])] (x6.map ePlace)), (38, oa 95 5 eName x7.Names), (42, .deep 41 5 x8.1.length [.flat, .flat, .flat, .flat, (.sl 95 5 [.flat, .flat, .flat, .flat, .flat])] (x8.1.map ePlace))]⟩ ?_
  refine SRun.cu [(49, fun b => b)] h (fun h => ?_) fun h => ?_
  refine SRun.ck tbok 4 ⟨119, [(0, vl ePlace aAList), (3, .ref 3 0), (6, .own 32), (7, vi x5.2), (8, .own 36), (9, .ref 9 0), (10, .own 42), (11, vi x8.2), (53, vb true)], [(3, .box (tc ePlace aAP)), (9, .box [vs x7.Code, vi x7.Class, vi x7.Years.From, vi x7.Years.To, .own 38]), (32, .deep 41 5 x5.1.length [.flat, .flat, .flat, .flat, (.sl 95 5 [.flat, .flat, .flat, .flat, .flat])] (x5.1.map ePlace)), (36, .deep 41 5 x6.length [.flat, .flat, .flat, .flat, (.sl 95 5 [.flat, .flat, .flat, .flat, .flat])] (x6.map ePlace)), (38, oa 95 5 eName x7.Names), (42, .deep 41 5 x8.1.length [.flat, .flat, .flat, .flat, (.sl 95 5 [.flat, .flat, .flat, .flat, .flat])] (x8.1.map ePlace))]⟩ ?_
  refine SRun.nil ?_
  obtain rfl := inj h
  exact Le.rr [3, 9, 32, 36, 38, 42] [(32, 6), (36, 8), (42, 10)]
  refine SRun.ck tbok 4 ⟨119, [(0, vl ePlace aAList), (3, .ref 3 0), (6, .own 32), (7, vi x5.2), (8, .own 36), (9, .ref 9 0), (10, .own 42), (11, vi x8.2), (53, vb (x8.2 != x5.2))], [(3, .box (tc ePlace aAP)), (9, .box [vs x7.Code, vi x7.Class, vi x7.Years.From, vi x7.Years.To, .own 38]), (32, .deep 41 5 x5.1.length [.flat, .flat, .flat, .flat, (.sl 95 5 [.flat, .flat, .flat, .flat, .flat])] (x5.1.map ePlace)), (36, .deep 41 5 x6.length [.flat, .flat, .flat, .flat, (.sl 95 5 [.flat, .flat, .flat, .flat, .flat])] (x6.map ePlace)), (38, oa 95 5 eName x7.Names), (42, .deep 41 5 x8.1.length [.flat, .flat, .flat, .flat, (.sl 95 5 [.flat, .flat, .flat, .flat, .flat])] (x8.1.map ePlace))]⟩ ?_
  refine SRun.nil ?_
  obtain rfl := inj h
  exact Le.rr [3, 9, 32, 36, 38, 42] [(32, 6), (36, 8), (42, 10)]
  refine swp_cd h (fun h => ?_) fun h => ?_
  refine srk tbok ⟨119, [(4, vb false)], []⟩ ?_
  refine swp_ret ?_
  obtain rfl := inj h
  exact nx_r (q_fr (f1 fv))
  refine swp_skip ?_
  refine nx_n ?_
  refine swp_seq ?_
  refine sr ?_
  refine SRun.ck tbok 2 ⟨119, [(0, vl ePlace aAList), (3, .ref 3 0), (6, .own 6), (7, vi x5.2), (8, .own 8), (9, .ref 9 0), (10, .own 10), (11, vi x8.2), (54, .own 8), (55, vl ePlace aAList)], [(3, .box (tc ePlace aAP)), (6, .deep 41 5 x5.1.length [.flat, .flat, .flat, .flat, (.sl 95 5 [.flat, .flat, .flat, .flat, .flat])] (x5.1.map ePlace)), (8, .deep 41 5 x6.length [.flat, .flat, .flat, .flat, (.sl 95 5 [.flat, .flat, .flat, .flat, .flat])] (x6.map ePlace)), (9, .box [vs x7.Code, vi x7.Class, vi x7.Years.From, vi x7.Years.To, .own 38]), (10, .deep 41 5 x8.1.length [.flat, .flat, .flat, .flat, (.sl 95 5 [.flat, .flat, .flat, .flat, .flat])] (x8.1.map ePlace)), (38, oa 95 5 eName x7.Names)]⟩ ?_
  obtain ⟨x12, hx12, h⟩ := bind_some h
  refine SRun.ls (xc ents8 (laws_toPlaceS_run aAList _ hx12)) ?_
  obtain ⟨x13, hx13, h⟩ := bind_some h
  refine SRun.ls (xc ents10 (laws_eqPlaceS_run x6 x12 _ hx13)) ?_
  refine ckn tbok 1 ⟨119, [(0, vl ePlace aAList), (3, .ref 3 0), (6, .own 6), (7, vi x5.2), (8, .own 8), (9, .ref 9 0), (10, .own 10), (11, vi x8.2), (58, vb (!x13))], [(3, .box (tc ePlace aAP)), (6, .deep 41 5 x5.1.length [.flat, .flat, .flat, .flat, (.sl 95 5 [.flat, .flat, .flat, .flat, .flat])] (x5.1.map ePlace)), (8, .deep 41 5 x6.length [.flat, .flat, .flat, .flat, (.sl 95 5 [.flat, .flat, .flat, .flat, .flat])] (x6.map ePlace)), (9, .box [vs x7.Code, vi x7.Class, vi x7.Years.From, vi x7.Years.To, .own 38]), (10, .deep 41 5 x8.1.length [.flat, .flat, .flat, .flat, (.sl 95 5 [.flat, .flat, .flat, .flat, .flat])] (x8.1.map ePlace)), (38, oa 95 5 eName x7.Names)]⟩ ?_
  refine swp_cd h (fun h => ?_) fun h => ?_
  refine srk tbok ⟨119, [(4, vb false)], []⟩ ?_
  refine swp_ret ?_
  obtain rfl := inj h
  exact nx_r (q_fr (f1 fv))
  refine swp_skip ?_
  refine nx_n ?_
  refine swp_seq ?_
  refine swp_seq ?_
  refine swp_dr mixed ?_
  refine DGo.ck tbok false 2 ⟨119, [(0, vl ePlace aAList), (3, .ref 3 0), (6, .own 6), (7, vi x5.2), (8, .own 8), (9, .ref 9 0), (10, .own 10), (11, vi x8.2), (59, .agg [vs x7.Code, vi x7.Class, vi x7.Years.From, vi x7.Years.To, .own 38]), (60, .agg (tc ePlace aAP))], [(3, .box (tc ePlace aAP)), (6, .deep 41 5 x5.1.length [.flat, .flat, .flat, .flat, (.sl 95 5 [.flat, .flat, .flat, .flat, .flat])] (x5.1.map ePlace)), (8, .deep 41 5 x6.length [.flat, .flat, .flat, .flat, (.sl 95 5 [.flat, .flat, .flat, .flat, .flat])] (x6.map ePlace)), (9, .box [vs x7.Code, vi x7.Class, vi x7.Years.From, vi x7.Years.To, .own 38]), (10, .deep 41 5 x8.1.length [.flat, .flat, .flat, .flat, (.sl 95 5 [.flat, .flat, .flat, .flat, .flat])] (x8.1.map ePlace)), (38, oa 95 5 eName x7.Names)]⟩ ?_
  obtain ⟨x14, hx14, h⟩ := bind_some h
  refine DGo.step (xc ents15 (laws_toPlace_run aAP _ hx14)) ?_
  obtain ⟨x15, hx15, h⟩ := bind_some h
  refine DGo.stepW false [61] (xc ents17 (laws_eqPlace_run x7 x14 _ hx15)) ?_
  refine DGo.ck tbok false 1 ⟨119, [(0, vl ePlace aAList), (3, .ref 3 0), (6, .own 6), (7, vi x5.2), (8, .own 8), (9, .ref 9 0), (10, .own 10), (11, vi x8.2), (63, vb (!x15))], [(3, .box (tc ePlace aAP)), (6, .deep 41 5 x5.1.length [.flat, .flat, .flat, .flat, (.sl 95 5 [.flat, .flat, .flat, .flat, .flat])] (x5.1.map ePlace)), (8, .deep 41 5 x6.length [.flat, .flat, .flat, .flat, (.sl 95 5 [.flat, .flat, .flat, .flat, .flat])] (x6.map ePlace)), (9, .box [vs x7.Code, vi x7.Class, vi x7.Years.From, vi x7.Years.To, .own 38]), (10, .deep 41 5 x8.1.length [.flat, .flat, .flat, .flat, (.sl 95 5 [.flat, .flat, .flat, .flat, .flat])] (x8.1.map ePlace)), (38, oa 95 5 eName x7.Names)]⟩ ?_
  refine DGo.nx ?_
  refine swp_cd h (fun h => ?_) fun h => ?_
  refine srk tbok ⟨119, [(4, vb false)], []⟩ ?_
  refine swp_ret ?_
  obtain rfl := inj h
  exact nx_r (q_fr (f1 fv))
  refine swp_skip ?_
  refine nx_n ?_
  refine srk tbok ⟨119, [(0, vl ePlace aAList), (3, .ref 3 0), (6, .own 6), (7, vi x5.2), (8, .own 8), (9, .ref 9 0), (10, .own 10), (11, vi x8.2), (12, vi 1)], [(3, .box (tc ePlace aAP)), (6, .deep 41 5 x5.1.length [.flat, .flat, .flat, .flat, (.sl 95 5 [.flat, .flat, .flat, .flat, .flat])] (x5.1.map ePlace)), (8, .deep 41 5 x6.length [.flat, .flat, .flat, .flat, (.sl 95 5 [.flat, .flat, .flat, .flat, .flat])] (x6.map ePlace)), (9, .box [vs x7.Code, vi x7.Class, vi x7.Years.From, vi x7.Years.To, .own 38]), (10, .deep 41 5 x8.1.length [.flat, .flat, .flat, .flat, (.sl 95 5 [.flat, .flat, .flat, .flat, .flat])] (x8.1.map ePlace)), (38, oa 95 5 eName x7.Names)]⟩ ?_
  refine sr ?_
  refine SRun.ck tbok 2 ⟨119, [(0, vl ePlace aAList), (3, .ref 3 0), (6, .own 6), (7, vi x5.2), (9, .ref 9 0), (10, .own 10), (11, vi x8.2), (64, .own 8), (65, vi 1)], [(3, .box (tc ePlace aAP)), (6, .deep 41 5 x5.1.length [.flat, .flat, .flat, .flat, (.sl 95 5 [.flat, .flat, .flat, .flat, .flat])] (x5.1.map ePlace)), (8, .deep 41 5 x6.length [.flat, .flat, .flat, .flat, (.sl 95 5 [.flat, .flat, .flat, .flat, .flat])] (x6.map ePlace)), (9, .box [vs x7.Code, vi x7.Class, vi x7.Years.From, vi x7.Years.To, .own 38]), (10, .deep 41 5 x8.1.length [.flat, .flat, .flat, .flat, (.sl 95 5 [.flat, .flat, .flat, .flat, .flat])] (x8.1.map ePlace)), (38, oa 95 5 eName x7.Names)]⟩ ?_
  obtain ⟨x16, hx16, h⟩ := bind_some h
  refine SRun.estep (xe ents11 (laws_markPlaceS_run x6 1 _ hx16)) ?_
  refine ckn tbok 1 ⟨119, [(0, vl ePlace aAList), (3, .ref 3 0), (6, .own 6), (7, vi x5.2), (9, .ref 9 0), (10, .own 10), (11, vi x8.2), (12, vi x16.1)], [(3, .box (tc ePlace aAP)), (6, .deep 41 5 x5.1.length [.flat, .flat, .flat, .flat, (.sl 95 5 [.flat, .flat, .flat, .flat, .flat])] (x5.1.map ePlace)), (9, .box [vs x7.Code, vi x7.Class, vi x7.Years.From, vi x7.Years.To, .own 38]), (10, .deep 41 5 x8.1.length [.flat, .flat, .flat, .flat, (.sl 95 5 [.flat, .flat, .flat, .flat, .flat])] (x8.1.map ePlace)), (38, oa 95 5 eName x7.Names)]⟩ ?_
  refine sr ?_
  refine SRun.ck tbok 2 ⟨119, [(0, vl ePlace aAList), (3, .ref 3 0), (6, .own 6), (7, vi x5.2), (10, .own 10), (11, vi x8.2), (67, .agg [vs x7.Code, vi x7.Class, vi x7.Years.From, vi x7.Years.To, .own 38]), (68, vi x16.1)], [(3, .box (tc ePlace aAP)), (6, .deep 41 5 x5.1.length [.flat, .flat, .flat, .flat, (.sl 95 5 [.flat, .flat, .flat, .flat, .flat])] (x5.1.map ePlace)), (10, .deep 41 5 x8.1.length [.flat, .flat, .flat, .flat, (.sl 95 5 [.flat, .flat, .flat, .flat, .flat])] (x8.1.map ePlace)), (38, oa 95 5 eName x7.Names)]⟩ ?_
  obtain ⟨x17, hx17, h⟩ := bind_some h
  refine SRun.estep (epart (d := 38) (d0 := 69) (n := x7.Names.length) (n' := x17.2.length) (s := x7.Code) (i1 := x7.Class) (i2 := x7.Years.From) (i3 := x7.Years.To) ents18 (laws_markPlace_run x7.Names x16.1 _ hx17) (flat_map eName_flat _) (flat_map eName_flat _) rfl rfl rfl (List.length_map _) (List.length_map _)) ?_
  refine ckn tbok 1 ⟨119, [(0, vl ePlace aAList), (3, .ref 3 0), (6, .own 6), (7, vi x5.2), (10, .own 10), (11, vi x8.2), (12, vi x17.1)], [(3, .box (tc ePlace aAP)), (6, .deep 41 5 x5.1.length [.flat, .flat, .flat, .flat, (.sl 95 5 [.flat, .flat, .flat, .flat, .flat])] (x5.1.map ePlace)), (10, .deep 41 5 x8.1.length [.flat, .flat, .flat, .flat, (.sl 95 5 [.flat, .flat, .flat, .flat, .flat])] (x8.1.map ePlace))]⟩ ?_
  refine swp_seq ?_
  refine swp_seq ?_
  refine swp_regJ h (fun j19 => ⟨119, [(0, vl ePlace aAList), (3, .ref 3 0), (6, .own 6), (7, vi x5.2), (10, .own 10), (82, vb j19)], [(3, .box (tc ePlace aAP)), (6, .deep 41 5 x5.1.length [.flat, .flat, .flat, .flat, (.sl 95 5 [.flat, .flat, .flat, .flat, .flat])] (x5.1.map ePlace)), (10, .deep 41 5 x8.1.length [.flat, .flat, .flat, .flat, (.sl 95 5 [.flat, .flat, .flat, .flat, .flat])] (x8.1.map ePlace))]⟩) (fun v20 h => ?_) (fun j19 h => ?_)
  refine SRun.ck tbok 3 ⟨119, [(0, vl ePlace aAList), (3, .ref 3 0), (6, .own 6), (7, vi x5.2), (10, .own 10), (11, vi x8.2), (72, vb (decide (x17.1 < 0)))], [(3, .box (tc ePlace aAP)), (6, .deep 41 5 x5.1.length [.flat, .flat, .flat, .flat, (.sl 95 5 [.flat, .flat, .flat, .flat, .flat])] (x5.1.map ePlace)), (10, .deep 41 5 x8.1.length [.flat, .flat, .flat, .flat, (.sl 95 5 [.flat, .flat, .flat, .flat, .flat])] (x8.1.map ePlace))]⟩ ?_
  refine SRun.cu [(72, fun b => b)] h (fun h => ?_) fun h => ?_
  refine SRun.ck tbok 10 ⟨119, [(0, vl ePlace aAList), (3, .ref 3 0), (6, .own 6), (7, vi x5.2), (10, .own 10), (82, vb true)], [(3, .box (tc ePlace aAP)), (6, .deep 41 5 x5.1.length [.flat, .flat, .flat, .flat, (.sl 95 5 [.flat, .flat, .flat, .flat, .flat])] (x5.1.map ePlace)), (10, .deep 41 5 x8.1.length [.flat, .flat, .flat, .flat, (.sl 95 5 [.flat, .flat, .flat, .flat, .flat])] (x8.1.map ePlace))]⟩ ?_
  refine SRun.nil ?_
  obtain rfl := inj h
  exact Le.sub0
  refine SRun.ck tbok 2 ⟨119, [(0, vl ePlace aAList), (3, .ref 3 0), (6, .own 6), (7, vi x5.2), (10, .own 10), (11, vi x8.2), (72, vb false), (73, .own 10), (74, .own 6)], [(3, .box (tc ePlace aAP)), (6, .deep 41 5 x5.1.length [.flat, .flat, .flat, .flat, (.sl 95 5 [.flat, .flat, .flat, .flat, .flat])] (x5.1.map ePlace)), (10, .deep 41 5 x8.1.length [.flat, .flat, .flat, .flat, (.sl 95 5 [.flat, .flat, .flat, .flat, .flat])] (x8.1.map ePlace))]⟩ ?_
  obtain ⟨x18, hx18, h⟩ := bind_some h
  refine SRun.ls (xc ents10 (laws_eqPlaceS_run x8.1 x5.1 _ hx18)) ?_
  refine SRun.ck tbok 3 ⟨119, [(0, vl ePlace aAList), (3, .ref 3 0), (6, .own 6), (7, vi x5.2), (10, .own 10), (11, vi x8.2), (78, vb (!x18))], [(3, .box (tc ePlace aAP)), (6, .deep 41 5 x5.1.length [.flat, .flat, .flat, .flat, (.sl 95 5 [.flat, .flat, .flat, .flat, .flat])] (x5.1.map ePlace)), (10, .deep 41 5 x8.1.length [.flat, .flat, .flat, .flat, (.sl 95 5 [.flat, .flat, .flat, .flat, .flat])] (x8.1.map ePlace))]⟩ ?_
  refine SRun.cu [(78, fun b => b)] h (fun h => ?_) fun h => ?_
  refine SRun.ck tbok 4 ⟨119, [(0, vl ePlace aAList), (3, .ref 3 0), (6, .own 6), (7, vi x5.2), (10, .own 10), (82, vb true)], [(3, .box (tc ePlace aAP)), (6, .deep 41 5 x5.1.length [.flat, .flat, .flat, .flat, (.sl 95 5 [.flat, .flat, .flat, .flat, .flat])] (x5.1.map ePlace)), (10, .deep 41 5 x8.1.length [.flat, .flat, .flat, .flat, (.sl 95 5 [.flat, .flat, .flat, .flat, .flat])] (x8.1.map ePlace))]⟩ ?_
  refine SRun.nil ?_
  obtain rfl := inj h
  exact Le.sub0
  refine SRun.ck tbok 4 ⟨119, [(0, vl ePlace aAList), (3, .ref 3 0), (6, .own 6), (7, vi x5.2), (10, .own 10), (82, vb (x8.2 != x5.2))], [(3, .box (tc ePlace aAP)), (6, .deep 41 5 x5.1.length [.flat, .flat, .flat, .flat, (.sl 95 5 [.flat, .flat, .flat, .flat, .flat])] (x5.1.map ePlace)), (10, .deep 41 5 x8.1.length [.flat, .flat, .flat, .flat, (.sl 95 5 [.flat, .flat, .flat, .flat, .flat])] (x8.1.map ePlace))]⟩ ?_
  refine SRun.nil ?_
  obtain rfl := inj h
  exact Le.sub0
  refine swp_cd h (fun h => ?_) fun h => ?_
  refine srk tbok ⟨119, [(4, vb false)], []⟩ ?_
  refine swp_ret ?_
  obtain rfl := inj h
  exact nx_r (q_fr (f1 fv))
  refine swp_skip ?_
  refine nx_n ?_
  refine srk tbok ⟨119, [(0, vl ePlace aAList), (3, .ref 3 0), (6, .own 6), (7, vi x5.2), (10, .own 10), (13, vi 1)], [(3, .box (tc ePlace aAP)), (6, .deep 41 5 x5.1.length [.flat, .flat, .flat, .flat, (.sl 95 5 [.flat, .flat, .flat, .flat, .flat])] (x5.1.map ePlace)), (10, .deep 41 5 x8.1.length [.flat, .flat, .flat, .flat, (.sl 95 5 [.flat, .flat, .flat, .flat, .flat])] (x8.1.map ePlace))]⟩ ?_
  refine sr ?_
  refine SRun.ck tbok 2 ⟨119, [(0, vl ePlace aAList), (3, .ref 3 0), (6, .own 6), (7, vi x5.2), (10, .own 10), (83, .own 10), (84, vi 1)], [(3, .box (tc ePlace aAP)), (6, .deep 41 5 x5.1.length [.flat, .flat, .flat, .flat, (.sl 95 5 [.flat, .flat, .flat, .flat, .flat])] (x5.1.map ePlace)), (10, .deep 41 5 x8.1.length [.flat, .flat, .flat, .flat, (.sl 95 5 [.flat, .flat, .flat, .flat, .flat])] (x8.1.map ePlace))]⟩ ?_
  obtain ⟨x21, hx21, h⟩ := bind_some h
  refine SRun.estep (xe ents11 (laws_markPlaceS_run x8.1 1 _ hx21)) ?_
  refine ckn tbok 1 ⟨119, [(0, vl ePlace aAList), (3, .ref 3 0), (6, .own 6), (7, vi x5.2), (10, .own 10), (13, vi x21.1)], [(3, .box (tc ePlace aAP)), (6, .deep 41 5 x5.1.length [.flat, .flat, .flat, .flat, (.sl 95 5 [.flat, .flat, .flat, .flat, .flat])] (x5.1.map ePlace)), (10, .deep 41 5 x21.2.length [.flat, .flat, .flat, .flat, (.sl 95 5 [.flat, .flat, .flat, .flat, .flat])] (x21.2.map ePlace))]⟩ ?_
  refine srk tbok ⟨119, [(0, vl ePlace aAList), (3, .ref 3 0), (6, .own 6), (7, vi x5.2), (10, .own 10), (13, vi x21.1), (14, vi 1)], [(3, .box (tc ePlace aAP)), (6, .deep 41 5 x5.1.length [.flat, .flat, .flat, .flat, (.sl 95 5 [.flat, .flat, .flat, .flat, .flat])] (x5.1.map ePlace)), (10, .deep 41 5 x21.2.length [.flat, .flat, .flat, .flat, (.sl 95 5 [.flat, .flat, .flat, .flat, .flat])] (x21.2.map ePlace))]⟩ ?_
  refine sr ?_
  refine SRun.ck tbok 2 ⟨119, [(0, vl ePlace aAList), (3, .ref 3 0), (6, .own 6), (7, vi x5.2), (10, .own 10), (13, vi x21.1), (86, .own 10), (87, vi 1)], [(3, .box (tc ePlace aAP)), (6, .deep 41 5 x5.1.length [.flat, .flat, .flat, .flat, (.sl 95 5 [.flat, .flat, .flat, .flat, .flat])] (x5.1.map ePlace)), (10, .deep 41 5 x21.2.length [.flat, .flat, .flat, .flat, (.sl 95 5 [.flat, .flat, .flat, .flat, .flat])] (x21.2.map ePlace))]⟩ ?_
  obtain ⟨x22, hx22, h⟩ := bind_some h
  refine SRun.ls (xc ents12 (laws_heldPlaceS_run x21.2 1 _ hx22)) ?_
  refine ckn tbok 1 ⟨119, [(0, vl ePlace aAList), (3, .ref 3 0), (6, .own 6), (7, vi x5.2), (10, .own 10), (13, vi x21.1), (14, vi x22)], [(3, .box (tc ePlace aAP)), (6, .deep 41 5 x5.1.length [.flat, .flat, .flat, .flat, (.sl 95 5 [.flat, .flat, .flat, .flat, .flat])] (x5.1.map ePlace)), (10, .deep 41 5 x21.2.length [.flat, .flat, .flat, .flat, (.sl 95 5 [.flat, .flat, .flat, .flat, .flat])] (x21.2.map ePlace))]⟩ ?_
  refine swp_seq ?_
  refine srk tbok ⟨119, [(0, vl ePlace aAList), (3, .ref 3 0), (6, .own 6), (7, vi x5.2), (10, .own 10), (13, vi x21.1), (14, vi x22), (90, vb (decide (x22 < 0)))], [(3, .box (tc ePlace aAP)), (6, .deep 41 5 x5.1.length [.flat, .flat, .flat, .flat, (.sl 95 5 [.flat, .flat, .flat, .flat, .flat])] (x5.1.map ePlace)), (10, .deep 41 5 x21.2.length [.flat, .flat, .flat, .flat, (.sl 95 5 [.flat, .flat, .flat, .flat, .flat])] (x21.2.map ePlace))]⟩ ?_
  refine swp_cd h (fun h => ?_) fun h => ?_
  refine srk tbok ⟨119, [(4, vb false)], []⟩ ?_
  refine swp_ret ?_
  obtain rfl := inj h
  exact nx_r (q_fr (f1 fv))
  refine swp_skip ?_
  refine nx_n ?_
  refine swp_seq ?_
  refine srk tbok ⟨119, [(0, vl ePlace aAList), (3, .ref 3 0), (6, .own 6), (7, vi x5.2), (10, .own 10), (13, vi x21.1), (93, vb (x22 != x21.1))], [(3, .box (tc ePlace aAP)), (6, .deep 41 5 x5.1.length [.flat, .flat, .flat, .flat, (.sl 95 5 [.flat, .flat, .flat, .flat, .flat])] (x5.1.map ePlace)), (10, .deep 41 5 x21.2.length [.flat, .flat, .flat, .flat, (.sl 95 5 [.flat, .flat, .flat, .flat, .flat])] (x21.2.map ePlace))]⟩ ?_
  refine swp_cd h (fun h => ?_) fun h => ?_
  refine srk tbok ⟨119, [(4, vb false)], []⟩ ?_
  refine swp_ret ?_
  obtain rfl := inj h
  exact nx_r (q_fr (f1 fv))
  refine swp_skip ?_
  refine nx_n ?_
  refine swp_seq ?_
  refine swp_dr mixed ?_
  refine DGo.ck tbok false 1 ⟨119, [(3, .ref 3 0), (6, .own 6), (7, vi x5.2), (10, .own 10), (13, vi x21.1), (95, vl ePlace aAList)], [(3, .box (tc ePlace aAP)), (6, .deep 41 5 x5.1.length [.flat, .flat, .flat, .flat, (.sl 95 5 [.flat, .flat, .flat, .flat, .flat])] (x5.1.map ePlace)), (10, .deep 41 5 x21.2.length [.flat, .flat, .flat, .flat, (.sl 95 5 [.flat, .flat, .flat, .flat, .flat])] (x21.2.map ePlace))]⟩ ?_
  obtain ⟨x23, hx23, h⟩ := bind_some h
  refine DGo.step (xc ents8 (laws_toPlaceS_run aAList _ hx23)) ?_
  refine DGo.ck tbok false 1 ⟨119, [(6, .own 6), (7, vi x5.2), (10, .own 10), (13, vi x21.1), (96, .own 96), (97, .agg (tc ePlace aAP))], [(6, .deep 41 5 x5.1.length [.flat, .flat, .flat, .flat, (.sl 95 5 [.flat, .flat, .flat, .flat, .flat])] (x5.1.map ePlace)), (10, .deep 41 5 x21.2.length [.flat, .flat, .flat, .flat, (.sl 95 5 [.flat, .flat, .flat, .flat, .flat])] (x21.2.map ePlace)), (96, .deep 41 5 x23.length [.flat, .flat, .flat, .flat, (.sl 95 5 [.flat, .flat, .flat, .flat, .flat])] (x23.map ePlace))]⟩ ?_
  obtain ⟨x24, hx24, h⟩ := bind_some h
  refine DGo.step (xc ents15 (laws_toPlace_run aAP _ hx24)) ?_
  obtain ⟨x25, hx25, h⟩ := bind_some h
  refine DGo.stepW false [96, 98] (xc ents16 (impl_AddPlace_run x23 x24 _ hx25)) ?_
  refine DGo.ck tbok false 5 ⟨119, [(6, .own 6), (7, vi x5.2), (10, .own 10), (13, vi x21.1), (15, .own 99), (16, vi x25.2)], [(6, .deep 41 5 x5.1.length [.flat, .flat, .flat, .flat, (.sl 95 5 [.flat, .flat, .flat, .flat, .flat])] (x5.1.map ePlace)), (10, .deep 41 5 x21.2.length [.flat, .flat, .flat, .flat, (.sl 95 5 [.flat, .flat, .flat, .flat, .flat])] (x21.2.map ePlace)), (99, .deep 41 5 x25.1.length [.flat, .flat, .flat, .flat, (.sl 95 5 [.flat, .flat, .flat, .flat, .flat])] (x25.1.map ePlace))]⟩ ?_
  refine DGo.nx ?_
  refine swp_seq ?_
  refine swp_seq ?_
  refine swp_regJ h (fun j27 => ⟨119, [(10, .own 10), (13, vi x21.1), (110, vb j27)], [(10, .deep 41 5 x21.2.length [.flat, .flat, .flat, .flat, (.sl 95 5 [.flat, .flat, .flat, .flat, .flat])] (x21.2.map ePlace))]⟩) (fun v28 h => ?_) (fun j27 h => ?_)
  refine SRun.ck tbok 2 ⟨119, [(7, vi x5.2), (10, .own 10), (13, vi x21.1), (16, vi x25.2), (102, .own 99), (103, .own 6)], [(6, .deep 41 5 x5.1.length [.flat, .flat, .flat, .flat, (.sl 95 5 [.flat, .flat, .flat, .flat, .flat])] (x5.1.map ePlace)), (10, .deep 41 5 x21.2.length [.flat, .flat, .flat, .flat, (.sl 95 5 [.flat, .flat, .flat, .flat, .flat])] (x21.2.map ePlace)), (99, .deep 41 5 x25.1.length [.flat, .flat, .flat, .flat, (.sl 95 5 [.flat, .flat, .flat, .flat, .flat])] (x25.1.map ePlace))]⟩ ?_
  obtain ⟨x26, hx26, h⟩ := bind_some h
  refine SRun.ls (xc ents10 (laws_eqPlaceS_run x25.1 x5.1 _ hx26)) ?_
  refine SRun.ck tbok 2 ⟨119, [(7, vi x5.2), (10, .own 10), (13, vi x21.1), (16, vi x25.2), (106, vb (!x26))], [(10, .deep 41 5 x21.2.length [.flat, .flat, .flat, .flat, (.sl 95 5 [.flat, .flat, .flat, .flat, .flat])] (x21.2.map ePlace))]⟩ ?_
  refine SRun.cu [(106, fun b => b)] h (fun h => ?_) fun h => ?_
  refine SRun.ck tbok 4 ⟨119, [(10, .own 10), (13, vi x21.1), (110, vb true)], [(10, .deep 41 5 x21.2.length [.flat, .flat, .flat, .flat, (.sl 95 5 [.flat, .flat, .flat, .flat, .flat])] (x21.2.map ePlace))]⟩ ?_
  refine SRun.nil ?_
  obtain rfl := inj h
  exact Le.sub0
  refine SRun.ck tbok 4 ⟨119, [(10, .own 10), (13, vi x21.1), (110, vb (x25.2 != x5.2))], [(10, .deep 41 5 x21.2.length [.flat, .flat, .flat, .flat, (.sl 95 5 [.flat, .flat, .flat, .flat, .flat])] (x21.2.map ePlace))]⟩ ?_
  refine SRun.nil ?_
  obtain rfl := inj h
  exact Le.sub0
  refine swp_cd h (fun h => ?_) fun h => ?_
  refine srk tbok ⟨119, [(4, vb false)], []⟩ ?_
  refine swp_ret ?_
  obtain rfl := inj h
  exact nx_r (q_fr (f1 fv))
  refine swp_skip ?_
  refine nx_n ?_
  refine srk tbok ⟨119, [(10, .own 10), (13, vi x21.1), (14, vi 1)], [(10, .deep 41 5 x21.2.length [.flat, .flat, .flat, .flat, (.sl 95 5 [.flat, .flat, .flat, .flat, .flat])] (x21.2.map ePlace))]⟩ ?_
  refine sr ?_
  refine SRun.ck tbok 2 ⟨119, [(13, vi x21.1), (111, .own 10), (112, vi 1)], [(10, .deep 41 5 x21.2.length [.flat, .flat, .flat, .flat, (.sl 95 5 [.flat, .flat, .flat, .flat, .flat])] (x21.2.map ePlace))]⟩ ?_
  obtain ⟨x29, hx29, h⟩ := bind_some h
  refine SRun.ls (xc ents12 (laws_heldPlaceS_run x21.2 1 _ hx29)) ?_
  refine ckn tbok 1 ⟨119, [(13, vi x21.1), (14, vi x29)], []⟩ ?_
  refine swp_seq ?_
  refine srk tbok ⟨119, [(13, vi x21.1), (14, vi x29), (115, vb (decide (x29 < 0)))], []⟩ ?_
  refine swp_cd h (fun h => ?_) fun h => ?_
  refine srk tbok ⟨119, [(4, vb false)], []⟩ ?_
  refine swp_ret ?_
  obtain rfl := inj h
  exact nx_r (q_fr (f1 fv))
  refine swp_skip ?_
  refine nx_n ?_
  refine swp_seq ?_
  refine srk tbok ⟨119, [(118, vb (x29 != x21.1))], []⟩ ?_
  refine swp_cd h (fun h => ?_) fun h => ?_
  refine srk tbok ⟨119, [(4, vb false)], []⟩ ?_
  refine swp_ret ?_
  obtain rfl := inj h
  exact nx_r (q_fr (f1 fv))
  refine swp_skip ?_
  refine nx_n ?_
  refine srk tbok ⟨119, [(4, vb true)], []⟩ ?_
  refine swp_ret ?_
  obtain rfl := inj h
  exact q_fr (f1 fv)
end Go.Proofs.YtpohkmbkohjahaaGreatDoor.Sh
