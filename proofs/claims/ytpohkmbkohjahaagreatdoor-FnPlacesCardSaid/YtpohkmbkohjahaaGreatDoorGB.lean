/- Typed functions and the calls that do what they say. -/
import Derived.Test.YtpohkmbkohjahaaGreatDoorGBp0
import Derived.Test.YtpohkmbkohjahaaGreatDoorKA
import Derived.Test.YtpohkmbkohjahaaGreatDoorKC
import Derived.Test.YtpohkmbkohjahaaGreatDoorKJ
import Derived.Test.YtpohkmbkohjahaaGreatDoorKO
import Derived.Test.YtpohkmbkohjahaaGreatDoorKS
import Derived.Test.YtpohkmbkohjahaaGreatDoorSF
import Derived.Test.YtpohkmbkohjahaaGreatDoorSN
import Derived.Test.YtpohkmbkohjahaaGreatDoorSP
import Derived.Test.YtpohkmbkohjahaaGreatDoorH1
import Derived.Test.YtpohkmbkohjahaaGreatDoorGA
namespace Go.Proofs.YtpohkmbkohjahaaGreatDoor.Sh
open Go.RowKit
set_option maxRecDepth 100000
set_option maxHeartbeats 4000000
noncomputable def slices_IndexFunc_Place_impl_HomonymsIn_1 (aS : (List Place)) (aF0 : Name) (aF1 : Int) : Option (Int) :=
  (((forN (aS.length : Int) (fun (i3 : Int) (_ : Unit) => ((at' aS i3).bind fun x7 => ((impl_HomonymsIn_1 x7 aF0 aF1).bind fun x8 => (bif x8 then some (.inr (.inr i3)) else some (.inl ()))))) (fun (_ : Unit) => .inl ()) 0 ())).bind (Sum.elim (fun (_ : Unit) => some (-1)) some))
theorem slices_IndexFunc_Place_impl_HomonymsIn_1_run (aS : (List Place)) (aF0 : Name) (aF1 : Int) (r : Int) (h : slices_IndexFunc_Place_impl_HomonymsIn_1 aS aF0 aF1 = some r) : SCall Tryz.prog 103 [.v (vl ePlace aS), .v (.clo 68 [.ptr [vs aF0.Text, vs aF0.Language, vi aF0.Status, vi aF0.Years.From, vi aF0.Years.To] 0, .ptr [vi aF1] 0])] ⟨[.v (vi r)], [], false⟩ := by
  refine scall_in Tryz.func103 rfl [(.tmp 4)] rfl (fun r => ⟨[.v (vi r)], [], false⟩) (r := r) ?_
  unfold slices_IndexFunc_Place_impl_HomonymsIn_1 at h
  refine srk tbokGB ⟨19, [(0, vl ePlace aS), (1, .clo 68 [.ptr [vs aF0.Text, vs aF0.Language, vi aF0.Status, vi aF0.Years.From, vi aF0.Years.To] 0, .ptr [vi aF1] 0])], []⟩ ?_
  refine swp_seq ?_
  refine srk tbokGB ⟨19, [(0, vl ePlace aS), (1, .clo 68 [.ptr [vs aF0.Text, vs aF0.Language, vi aF0.Status, vi aF0.Years.From, vi aF0.Years.To] 0, .ptr [vi aF1] 0]), (7, vi (aS.length : Int)), (8, vi 0)], []⟩ ?_
  refine swp_seqE (r := r) h (fun j1 => ⟨19, [], []⟩) (fun v2 h => ?_) (fun j1 h => ?_)
  refine swp_blk (a := v2) ?_
  refine swp_lpL (r := v2) (s := (0, ())) _ (fun s3 => ⟨19, [(0, vl ePlace aS), (1, .clo 68 [.ptr [vs aF0.Text, vs aF0.Language, vi aF0.Status, vi aF0.Years.From, vi aF0.Years.To] 0, .ptr [vi aF1] 0]), (7, vi (aS.length : Int)), (8, vi s3.1)], []⟩) _ (Le.sub0) h (fun s3 v4 h => ?_)
  refine srk tbokGB ⟨19, [(0, vl ePlace aS), (1, .clo 68 [.ptr [vs aF0.Text, vs aF0.Language, vi aF0.Status, vi aF0.Years.From, vi aF0.Years.To] 0, .ptr [vi aF1] 0]), (7, vi (aS.length : Int)), (8, vi s3.1), (9, vb (decide (s3.1 < (aS.length : Int))))], []⟩ ?_
  refine swp_seq ?_
  refine swp_cd h (fun h => ?_) fun h => ?_
  refine swp_skip ?_
  refine nx_n ?_
  refine swp_seq ?_
  refine swp_seqL (r := v4) h (fun j5 => ⟨19, [(0, vl ePlace aS), (1, .clo 68 [.ptr [vs aF0.Text, vs aF0.Language, vi aF0.Status, vi aF0.Years.From, vi aF0.Years.To] 0, .ptr [vi aF1] 0]), (7, vi (aS.length : Int)), (8, vi s3.1)], []⟩) (fun v6 h => ?_) (fun j5 h => ?_)
  refine swp_blk (a := v6) ?_
  refine srk tbokGB ⟨19, [(0, vl ePlace aS), (1, .clo 68 [.ptr [vs aF0.Text, vs aF0.Language, vi aF0.Status, vi aF0.Years.From, vi aF0.Years.To] 0, .ptr [vi aF1] 0]), (5, vi s3.1), (7, vi (aS.length : Int)), (8, vi s3.1)], []⟩ ?_
  refine sr ?_
  refine SRun.ck tbokGB 3 ⟨19, [(0, vl ePlace aS), (1, .clo 68 [.ptr [vs aF0.Text, vs aF0.Language, vi aF0.Status, vi aF0.Years.From, vi aF0.Years.To] 0, .ptr [vi aF1] 0]), (5, vi s3.1), (7, vi (aS.length : Int)), (8, vi s3.1), (11, .clo 68 [.ptr [vs aF0.Text, vs aF0.Language, vi aF0.Status, vi aF0.Years.From, vi aF0.Years.To] 0, .ptr [vi aF1] 0]), (12, vl ePlace aS), (13, vi s3.1)], []⟩ ?_
  obtain ⟨x7, hx7, h⟩ := bind_some h
  refine SRun.ls (x_index (L := aS) (f := ePlace) (ti := ti24) (tj := ti41) (e := 41) (k := .i64) tbokGB rfl hx7) ?_
  refine SRun.ck tbokGB 1 ⟨19, [(0, vl ePlace aS), (1, .clo 68 [.ptr [vs aF0.Text, vs aF0.Language, vi aF0.Status, vi aF0.Years.From, vi aF0.Years.To] 0, .ptr [vi aF1] 0]), (5, vi s3.1), (7, vi (aS.length : Int)), (8, vi s3.1), (11, .clo 68 [.ptr [vs aF0.Text, vs aF0.Language, vi aF0.Status, vi aF0.Years.From, vi aF0.Years.To] 0, .ptr [vi aF1] 0]), (15, .agg (tc ePlace x7))], []⟩ ?_
  obtain ⟨x8, hx8, h⟩ := bind_some h
  refine SRun.ls (xc ents68 (impl_HomonymsIn_1_run x7 aF0 aF1 _ hx8)) ?_
  refine SRun.nx ?_
  refine swp_cd h (fun h => ?_) fun h => ?_
  refine srk tbokGB ⟨19, [(4, vi s3.1)], []⟩ ?_
  refine swp_ret ?_
  obtain rfl := inj h
  exact q_br (q_rr (q_rr (q_br (q_rr (q_fr (f1 fv))))))
  refine swp_skip ?_
  obtain rfl := inj h
  exact q_bn (q_l (Le.sub0))
  refine swp_reg ?_
  refine SRun.ck tbokGB 2 ⟨19, [(0, vl ePlace aS), (1, .clo 68 [.ptr [vs aF0.Text, vs aF0.Language, vi aF0.Status, vi aF0.Years.From, vi aF0.Years.To] 0, .ptr [vi aF1] 0]), (7, vi (aS.length : Int)), (8, vi (w64 (s3.1 + 1)))], []⟩ ?_
  refine SRun.nil ?_
  obtain rfl := inj h
  exact q_l (Le.sub0)
  refine swp_exit ?_
  obtain rfl := inj h
  exact nx_e (q_re (q_bh (q_l (Le.sub0))))
  refine srk tbokGB ⟨19, [(4, vi (-1))], []⟩ ?_
  refine swp_ret ?_
  obtain rfl := inj h
  exact q_fr (f1 fv)
theorem ents103 : Ents Tryz.prog 103 := ents_of Tryz.func103 (by kernel_rfl) rfl
noncomputable def slices_ContainsFunc_Place_impl_HomonymsIn_1 (aS : (List Place)) (aF0 : Name) (aF1 : Int) : Option (Bool) :=
  ((slices_IndexFunc_Place_impl_HomonymsIn_1 aS aF0 aF1).bind fun x1 => some (decide (x1 ≥ 0)))
theorem slices_ContainsFunc_Place_impl_HomonymsIn_1_run (aS : (List Place)) (aF0 : Name) (aF1 : Int) (r : Bool) (h : slices_ContainsFunc_Place_impl_HomonymsIn_1 aS aF0 aF1 = some r) : SCall Tryz.prog 67 [.v (vl ePlace aS), .v (.clo 68 [.ptr [vs aF0.Text, vs aF0.Language, vi aF0.Status, vi aF0.Years.From, vi aF0.Years.To] 0, .ptr [vi aF1] 0])] ⟨[.v (vb r)], [], false⟩ := by
  refine scall_in Tryz.func67 rfl [(.tmp 4)] rfl (fun r => ⟨[.v (vb r)], [], false⟩) (r := r) ?_
  unfold slices_ContainsFunc_Place_impl_HomonymsIn_1 at h
  refine srk tbokGB ⟨9, [(0, vl ePlace aS), (1, .clo 68 [.ptr [vs aF0.Text, vs aF0.Language, vi aF0.Status, vi aF0.Years.From, vi aF0.Years.To] 0, .ptr [vi aF1] 0])], []⟩ ?_
  refine sr ?_
  refine SRun.ck tbokGB 2 ⟨9, [(5, vl ePlace aS), (6, .clo 68 [.ptr [vs aF0.Text, vs aF0.Language, vi aF0.Status, vi aF0.Years.From, vi aF0.Years.To] 0, .ptr [vi aF1] 0])], []⟩ ?_
  obtain ⟨x1, hx1, h⟩ := bind_some h
  refine SRun.ls (xc ents103 (slices_IndexFunc_Place_impl_HomonymsIn_1_run aS aF0 aF1 _ hx1)) ?_
  refine ckn tbokGB 2 ⟨9, [(4, vb (decide (x1 ≥ 0)))], []⟩ ?_
  refine swp_ret ?_
  obtain rfl := inj h
  exact q_fr (f1 fv)
theorem ents67 : Ents Tryz.prog 67 := ents_of Tryz.func67 (by kernel_rfl) rfl
theorem impl_sorted_run (L r : List ByteArray) (h : impl_sorted L = some r) : CutCall Tryz.prog 70 9 1 (L.map eS) (r.map eS) := sorted_cut Tryz.lays190 rfl Tryz.lays194 rfl 9 L r h
theorem ents70 : Ents Tryz.prog 70 := ents_of Tryz.func70 (by kernel_rfl) rfl
noncomputable def impl_HomonymsIn (aList : (List Place)) (aYear : Int) : Option ((List ByteArray) × Int) :=
  ((impl_registerCode aList true aYear).bind fun x1 => (bif (x1 != 0) then some (([] : List ByteArray), x1) else (((forS (aList.length : Int) (fun (i4 : Int) (s4 : (List ByteArray)) => ((at' aList i4).bind fun x8 => (forS (x8.Names.length : Int) (fun (i9 : Int) (s9 : (List ByteArray)) => ((at' x8.Names i9).bind fun x13 => ((part' aList (w64 (i4 + 1)) (aList.length : Int)).bind fun x14 => ((slices_ContainsFunc_Place_impl_HomonymsIn_1 x14 x13 aYear).bind fun x15 => ((((impl_Span_has x13.Years aYear).bind fun x16 => (bif x16 then some x15 else some false))).bind fun (j17 : Bool) => (bif j17 then ((app' s9 ([x13.Text] : List ByteArray)).bind fun x19 => some x19) else some s9)))))) (fun (s9 : (List ByteArray)) => s9) 0 s4))) (fun (s4 : (List ByteArray)) => s4) 0 ([] : List ByteArray))).bind fun (j2 : (List ByteArray)) => ((impl_sorted j2).bind fun x20 => some (x20, 0)))))
theorem impl_HomonymsIn_run (aList : (List Place)) (aYear : Int) (r : (List ByteArray) × Int) (h : impl_HomonymsIn aList aYear = some r) : SCall Tryz.prog 25 [.v (vl ePlace aList), .v (vi aYear)] ⟨[.own 9 1 r.1.length (r.1.map eS), .v (vi r.2)], [], false⟩ := by
  refine scall_in Tryz.func25 rfl [(.tmp 4), (.tmp 5)] rfl (fun r => ⟨[.own 9 1 r.1.length (r.1.map eS), .v (vi r.2)], [], false⟩) (r := r) ?_
  unfold impl_HomonymsIn at h
  refine srk tbokGB ⟨55, [(0, vl ePlace aList), (3, .ref 3 0)], [(3, .box [vi aYear])]⟩ ?_
  refine swp_seq ?_
  refine sr ?_
  refine SRun.ck tbokGB 2 ⟨55, [(0, vl ePlace aList), (3, .ref 3 0), (13, vl ePlace aList), (14, vi aYear)], [(3, .box [vi aYear])]⟩ ?_
  obtain ⟨x1, hx1, h⟩ := bind_some h
  refine SRun.ls (xc ents41 (impl_registerCode_run aList true aYear _ hx1)) ?_
  refine ckn tbokGB 1 ⟨55, [(0, vl ePlace aList), (3, .ref 3 0), (6, vi x1)], [(3, .box [vi aYear])]⟩ ?_
  refine srk tbokGB ⟨55, [(0, vl ePlace aList), (3, .ref 3 0), (6, vi x1), (17, vb (x1 != 0))], [(3, .box [vi aYear])]⟩ ?_
  refine swp_cd h (fun h => ?_) fun h => ?_
  refine srk tbokGB ⟨55, [(4, .own 4), (5, vi x1)], [(4, oa 9 1 eS ([] : List ByteArray))]⟩ ?_
  refine swp_ret ?_
  obtain rfl := inj h
  exact nx_r (q_fr (f2 (fo eS_flat) fv))
  refine swp_skip ?_
  refine nx_n ?_
  refine srk tbokGB ⟨55, [(0, vl ePlace aList), (3, .ref 3 0), (7, .own 7)], [(3, .box [vi aYear]), (7, oa 9 1 eS ([] : List ByteArray))]⟩ ?_
  refine swp_seq ?_
  refine srk tbokGB ⟨55, [(0, vl ePlace aList), (3, .ref 3 0), (7, .own 7), (19, vl ePlace aList), (20, vi (aList.length : Int)), (21, vi 0)], [(3, .box [vi aYear]), (7, oa 9 1 eS ([] : List ByteArray))]⟩ ?_
  refine swp_seqJ h (fun j2 => ⟨55, [(7, .own 7)], [(7, oa 9 1 eS j2)]⟩) (fun v3 h => ?_) (fun j2 h => ?_)
  refine swp_blk (a := v3) ?_
  refine swp_lpL (r := v3) (s := (0, ([] : List ByteArray))) _ (fun s4 => ⟨55, [(0, vl ePlace aList), (3, .ref 3 0), (7, .own 7), (19, vl ePlace aList), (20, vi (aList.length : Int)), (21, vi s4.1)], [(3, .box [vi aYear]), (7, oa 9 1 eS s4.2)]⟩) _ (Le.sub0) h (fun s4 v5 h => ?_)
  refine srk tbokGB ⟨55, [(0, vl ePlace aList), (3, .ref 3 0), (7, .own 7), (19, vl ePlace aList), (20, vi (aList.length : Int)), (21, vi s4.1), (22, vb (decide (s4.1 < (aList.length : Int))))], [(3, .box [vi aYear]), (7, oa 9 1 eS s4.2)]⟩ ?_
  refine swp_seq ?_
  refine swp_cd h (fun h => ?_) fun h => ?_
  refine swp_skip ?_
  refine nx_n ?_
  refine swp_seq ?_
  refine swp_seqJ h (fun j6 => ⟨55, [(0, vl ePlace aList), (3, .ref 3 0), (7, .own 7), (19, vl ePlace aList), (20, vi (aList.length : Int)), (21, vi s4.1)], [(3, .box [vi aYear]), (7, oa 9 1 eS j6)]⟩) (fun v7 h => ?_) (fun j6 h => ?_)
  refine swp_blk (a := v7) ?_
  refine sr ?_
  refine SRun.ck tbokGB 1 ⟨55, [(0, vl ePlace aList), (3, .ref 3 0), (7, .own 7), (19, vl ePlace aList), (20, vi (aList.length : Int)), (21, vi s4.1), (23, vi s4.1)], [(3, .box [vi aYear]), (7, oa 9 1 eS s4.2)]⟩ ?_
  obtain ⟨x8, hx8, h⟩ := bind_some h
  refine SRun.ls (x_index (L := aList) (f := ePlace) (ti := ti24) (tj := ti41) (e := 41) (k := .i64) tbokGB rfl hx8) ?_
  refine ckn tbokGB 4 ⟨55, [(0, vl ePlace aList), (3, .ref 3 0), (7, .own 7), (8, vi s4.1), (9, .ref 9 0), (19, vl ePlace aList), (20, vi (aList.length : Int)), (21, vi s4.1)], [(3, .box [vi aYear]), (7, oa 9 1 eS s4.2), (9, .box (tc ePlace x8))]⟩ ?_
  refine srk tbokGB ⟨55, [(0, vl ePlace aList), (3, .ref 3 0), (7, .own 7), (8, vi s4.1), (19, vl ePlace aList), (20, vi (aList.length : Int)), (21, vi s4.1), (27, vl eName x8.Names), (28, vi (x8.Names.length : Int)), (29, vi 0)], [(3, .box [vi aYear]), (7, oa 9 1 eS s4.2)]⟩ ?_
  refine swp_blk (a := v7) ?_
  refine swp_lpL (r := v7) (s := (0, s4.2)) _ (fun s9 => ⟨55, [(0, vl ePlace aList), (3, .ref 3 0), (7, .own 7), (8, vi s4.1), (19, vl ePlace aList), (20, vi (aList.length : Int)), (21, vi s4.1), (27, vl eName x8.Names), (28, vi (x8.Names.length : Int)), (29, vi s9.1)], [(3, .box [vi aYear]), (7, oa 9 1 eS s9.2)]⟩) _ (Le.sub0) h (fun s9 v10 h => ?_)
  refine srk tbokGB ⟨55, [(0, vl ePlace aList), (3, .ref 3 0), (7, .own 7), (8, vi s4.1), (19, vl ePlace aList), (20, vi (aList.length : Int)), (21, vi s4.1), (27, vl eName x8.Names), (28, vi (x8.Names.length : Int)), (29, vi s9.1), (30, vb (decide (s9.1 < (x8.Names.length : Int))))], [(3, .box [vi aYear]), (7, oa 9 1 eS s9.2)]⟩ ?_
  refine swp_seq ?_
  refine swp_cd h (fun h => ?_) fun h => ?_
  refine swp_skip ?_
  refine nx_n ?_
  refine swp_seq ?_
  refine swp_seqJ h (fun j11 => ⟨55, [(0, vl ePlace aList), (3, .ref 3 0), (7, .own 7), (8, vi s4.1), (19, vl ePlace aList), (20, vi (aList.length : Int)), (21, vi s4.1), (27, vl eName x8.Names), (28, vi (x8.Names.length : Int)), (29, vi s9.1)], [(3, .box [vi aYear]), (7, oa 9 1 eS j11)]⟩) (fun v12 h => ?_) (fun j11 h => ?_)
  refine swp_blk (a := v12) ?_
  refine sr ?_
  obtain ⟨x13, hx13, h⟩ := bind_some h
  refine SRun.ls (x_index (L := x8.Names) (f := eName) (ti := ti39) (tj := ti95) (e := 95) (k := .i64) tbokGB rfl hx13) ?_
  refine ckn tbokGB 3 ⟨55, [(0, vl ePlace aList), (3, .ref 3 0), (7, .own 7), (8, vi s4.1), (11, .ref 11 0), (19, vl ePlace aList), (20, vi (aList.length : Int)), (21, vi s4.1), (27, vl eName x8.Names), (28, vi (x8.Names.length : Int)), (29, vi s9.1)], [(3, .box [vi aYear]), (7, oa 9 1 eS s9.2), (11, .box (tc eName x13))]⟩ ?_
  refine sr ?_
  refine SRun.ck tbokGB 3 ⟨55, [(0, vl ePlace aList), (3, .ref 3 0), (7, .own 7), (8, vi s4.1), (11, .ref 11 0), (19, vl ePlace aList), (20, vi (aList.length : Int)), (21, vi s4.1), (27, vl eName x8.Names), (28, vi (x8.Names.length : Int)), (29, vi s9.1), (33, vl ePlace aList), (35, vi (w64 (s4.1 + 1)))], [(3, .box [vi aYear]), (7, oa 9 1 eS s9.2), (11, .box (tc eName x13))]⟩ ?_
  obtain ⟨x14, hx14, h⟩ := bind_some h
  refine SRun.ls (x_slice (m := 5) (f := ePlace) (ti := ti24) (tj := ti41) (e := 41) hx14 (fun _ => rfl) tbokGB rfl) ?_
  refine SRun.ck tbokGB 1 ⟨55, [(0, vl ePlace aList), (3, .ref 3 0), (7, .own 7), (8, vi s4.1), (11, .ref 11 0), (19, vl ePlace aList), (20, vi (aList.length : Int)), (21, vi s4.1), (27, vl eName x8.Names), (28, vi (x8.Names.length : Int)), (29, vi s9.1), (36, vl ePlace x14), (37, .clo 68 [.ref 11 0, .ref 3 0])], [(3, .box [vi aYear]), (7, oa 9 1 eS s9.2), (11, .box (tc eName x13))]⟩ ?_
  obtain ⟨x15, hx15, h⟩ := bind_some h
  refine SRun.ls (xc ents67 (slices_ContainsFunc_Place_impl_HomonymsIn_1_run x14 x13 aYear _ hx15)) ?_
  refine ckn tbokGB 1 ⟨55, [(0, vl ePlace aList), (3, .ref 3 0), (7, .own 7), (8, vi s4.1), (11, .ref 11 0), (12, vb x15), (19, vl ePlace aList), (20, vi (aList.length : Int)), (21, vi s4.1), (27, vl eName x8.Names), (28, vi (x8.Names.length : Int)), (29, vi s9.1)], [(3, .box [vi aYear]), (7, oa 9 1 eS s9.2), (11, .box (tc eName x13))]⟩ ?_
  refine swp_seq ?_
  refine swp_regJ h (fun j17 => ⟨55, [(0, vl ePlace aList), (3, .ref 3 0), (7, .own 7), (8, vi s4.1), (11, .ref 11 0), (19, vl ePlace aList), (20, vi (aList.length : Int)), (21, vi s4.1), (27, vl eName x8.Names), (28, vi (x8.Names.length : Int)), (29, vi s9.1), (45, vb j17)], [(3, .box [vi aYear]), (7, oa 9 1 eS s9.2), (11, .box (tc eName x13))]⟩) (fun v18 h => ?_) (fun j17 h => ?_)
  refine SRun.ck tbokGB 3 ⟨55, [(0, vl ePlace aList), (3, .ref 3 0), (7, .own 7), (8, vi s4.1), (11, .ref 11 0), (12, vb x15), (19, vl ePlace aList), (20, vi (aList.length : Int)), (21, vi s4.1), (27, vl eName x8.Names), (28, vi (x8.Names.length : Int)), (29, vi s9.1), (40, .agg (tc eSpan x13.Years)), (41, vi aYear)], [(3, .box [vi aYear]), (7, oa 9 1 eS s9.2), (11, .box (tc eName x13))]⟩ ?_
  obtain ⟨x16, hx16, h⟩ := bind_some h
  refine SRun.ls (xc ents44 (impl_Span_has_run x13.Years aYear _ hx16)) ?_
  refine SRun.ck tbokGB 1 ⟨55, [(0, vl ePlace aList), (3, .ref 3 0), (7, .own 7), (8, vi s4.1), (11, .ref 11 0), (12, vb x15), (19, vl ePlace aList), (20, vi (aList.length : Int)), (21, vi s4.1), (27, vl eName x8.Names), (28, vi (x8.Names.length : Int)), (29, vi s9.1), (43, vb x16)], [(3, .box [vi aYear]), (7, oa 9 1 eS s9.2), (11, .box (tc eName x13))]⟩ ?_
  refine SRun.cu [(43, fun b => b)] h (fun h => ?_) fun h => ?_
  refine SRun.ck tbokGB 2 ⟨55, [(0, vl ePlace aList), (3, .ref 3 0), (7, .own 7), (8, vi s4.1), (11, .ref 11 0), (19, vl ePlace aList), (20, vi (aList.length : Int)), (21, vi s4.1), (27, vl eName x8.Names), (28, vi (x8.Names.length : Int)), (29, vi s9.1), (45, vb x15)], [(3, .box [vi aYear]), (7, oa 9 1 eS s9.2), (11, .box (tc eName x13))]⟩ ?_
  refine SRun.nil ?_
  obtain rfl := inj h
  exact Le.sub0
  refine SRun.ck tbokGB 2 ⟨55, [(0, vl ePlace aList), (3, .ref 3 0), (7, .own 7), (8, vi s4.1), (11, .ref 11 0), (19, vl ePlace aList), (20, vi (aList.length : Int)), (21, vi s4.1), (27, vl eName x8.Names), (28, vi (x8.Names.length : Int)), (29, vi s9.1), (45, vb false)], [(3, .box [vi aYear]), (7, oa 9 1 eS s9.2), (11, .box (tc eName x13))]⟩ ?_
  refine SRun.nil ?_
  obtain rfl := inj h
  exact Le.sub0
  refine swp_cd h (fun h => ?_) fun h => ?_
  refine swp_reg ?_
  refine SRun.ck tbokGB 4 ⟨55, [(0, vl ePlace aList), (3, .ref 3 0), (8, vi s4.1), (19, vl ePlace aList), (20, vi (aList.length : Int)), (21, vi s4.1), (27, vl eName x8.Names), (28, vi (x8.Names.length : Int)), (29, vi s9.1), (46, .own 7), (49, .own 49)], [(3, .box [vi aYear]), (7, oa 9 1 eS s9.2), (49, oa 9 1 eS ([x13.Text] : List ByteArray))]⟩ ?_
  obtain ⟨x19, hx19, h⟩ := bind_some h
  refine SRun.estep (x_append (f := eS) (t := 53) (ti := ti53) (tj := ti9) (zs := [.string (ByteArray.mk #[])]) (e := 9) (m := 1) (d := 7) (xv := .own 49) hx19 tbokGB rfl rfl rfl rfl (x_src_o (e := 9))) ?_
  refine SRun.ck tbokGB 1 ⟨55, [(0, vl ePlace aList), (3, .ref 3 0), (7, .own 50), (8, vi s4.1), (19, vl ePlace aList), (20, vi (aList.length : Int)), (21, vi s4.1), (27, vl eName x8.Names), (28, vi (x8.Names.length : Int)), (29, vi s9.1)], [(3, .box [vi aYear]), (50, oa 9 1 eS x19)]⟩ ?_
  refine SRun.nil ?_
  obtain rfl := inj h
  exact q_bn (q_j (Le.rr [3, 50] [(50, 7)]))
  refine swp_skip ?_
  obtain rfl := inj h
  exact q_bn (q_j (Le.sub0))
  refine swp_reg ?_
  refine SRun.ck tbokGB 2 ⟨55, [(0, vl ePlace aList), (3, .ref 3 0), (7, .own 7), (8, vi s4.1), (19, vl ePlace aList), (20, vi (aList.length : Int)), (21, vi s4.1), (27, vl eName x8.Names), (28, vi (x8.Names.length : Int)), (29, vi (w64 (s9.1 + 1)))], [(3, .box [vi aYear]), (7, oa 9 1 eS j11)]⟩ ?_
  refine SRun.nil ?_
  obtain rfl := inj h
  exact q_l (Le.sub0)
  refine swp_exit ?_
  obtain rfl := inj h
  exact nx_e (q_re (q_bh (q_bn (q_j (Le.sub0)))))
  refine swp_reg ?_
  refine SRun.ck tbokGB 2 ⟨55, [(0, vl ePlace aList), (3, .ref 3 0), (7, .own 7), (19, vl ePlace aList), (20, vi (aList.length : Int)), (21, vi (w64 (s4.1 + 1)))], [(3, .box [vi aYear]), (7, oa 9 1 eS j6)]⟩ ?_
  refine SRun.nil ?_
  obtain rfl := inj h
  exact q_l (Le.sub0)
  refine swp_exit ?_
  obtain rfl := inj h
  exact nx_e (q_re (q_bh (q_j (Le.sub0))))
  refine sr ?_
  refine SRun.ck tbokGB 1 ⟨55, [(53, .own 7)], [(7, oa 9 1 eS j2)]⟩ ?_
  obtain ⟨x20, hx20, h⟩ := bind_some h
  refine SRun.estep (ecut (d := 7) (d0 := 54) (n := j2.length) (n' := x20.length) (es := j2.map eS) ents70 (impl_sorted_run j2 _ hx20) (flat_map eS_flat _) (flat_map eS_flat _) rfl rfl rfl (List.length_map _) (List.length_map _)) ?_
  refine ckn tbokGB 2 ⟨55, [(4, .own 54), (5, vi 0)], [(54, oa 9 1 eS x20)]⟩ ?_
  refine swp_ret ?_
  obtain rfl := inj h
  exact q_fr (f2 (fo eS_flat) fv)
theorem ents25 : Ents Tryz.prog 25 := ents_of Tryz.func25 (by kernel_rfl) rfl
noncomputable def spec_l09Used (aList : (List Name)) (aYear : Int) : Option ((List Int)) :=
  (((forS (aList.length : Int) (fun (i3 : Int) (s3 : (List Int)) => ((at' aList i3).bind fun x7 => ((at' aList i3).bind fun x8 => ((spec_l01In aYear x7.Years.From x8.Years.To).bind fun x9 => (bif x9 then ((app' s3 ([i3] : List Int)).bind fun x10 => some x10) else some s3))))) (fun (s3 : (List Int)) => s3) 0 ([] : List Int))).bind fun (j1 : (List Int)) => some j1)
theorem spec_l09Used_run (aList : (List Name)) (aYear : Int) (r : (List Int)) (h : spec_l09Used aList aYear = some r) : SCall Tryz.prog 107 [.v (vl eName aList), .v (vi aYear)] ⟨[.own 2 1 r.length (r.map (eI .i64))], [], false⟩ := by
  refine scall_in Tryz.func107 rfl [(.tmp 4)] rfl (fun r => ⟨[.own 2 1 r.length (r.map (eI .i64))], [], false⟩) (r := r) ?_
  unfold spec_l09Used at h
  refine srk tbokGB ⟨33, [(0, vl eName aList), (1, vi aYear)], []⟩ ?_
  refine srk tbokGB ⟨33, [(0, vl eName aList), (1, vi aYear), (5, .own 7)], [(7, oa 2 1 (eI .i64) ([] : List Int))]⟩ ?_
  refine swp_seq ?_
  refine srk tbokGB ⟨33, [(0, vl eName aList), (1, vi aYear), (5, .own 7), (6, vi 0)], [(7, oa 2 1 (eI .i64) ([] : List Int))]⟩ ?_
  refine swp_seqJ h (fun j1 => ⟨33, [(5, .own 5)], [(5, oa 2 1 (eI .i64) j1)]⟩) (fun v2 h => ?_) (fun j1 h => ?_)
  refine swp_blk (a := v2) ?_
  refine swp_lpL (r := v2) (s := (0, ([] : List Int))) _ (fun s3 => ⟨33, [(0, vl eName aList), (1, vi aYear), (5, .own 5), (6, vi s3.1)], [(5, oa 2 1 (eI .i64) s3.2)]⟩) _ (Le.rr [7] [(7, 5)]) h (fun s3 v4 h => ?_)
  refine swp_seq ?_
  refine srk tbokGB ⟨33, [(0, vl eName aList), (1, vi aYear), (5, .own 5), (6, vi s3.1), (11, vb (decide (s3.1 < (aList.length : Int))))], [(5, oa 2 1 (eI .i64) s3.2)]⟩ ?_
  refine swp_cd h (fun h => ?_) fun h => ?_
  refine swp_skip ?_
  refine nx_n ?_
  refine swp_seq ?_
  refine swp_seqJ h (fun j5 => ⟨33, [(0, vl eName aList), (1, vi aYear), (5, .own 5), (6, vi s3.1)], [(5, oa 2 1 (eI .i64) j5)]⟩) (fun v6 h => ?_) (fun j5 h => ?_)
  refine swp_blk (a := v6) ?_
  refine swp_seq ?_
  refine swp_dr mixed ?_
  refine DGo.ck tbokGB false 3 ⟨33, [(0, vl eName aList), (1, vi aYear), (5, .own 5), (6, vi s3.1), (14, vi aYear), (15, vl eName aList), (16, vi s3.1)], [(5, oa 2 1 (eI .i64) s3.2)]⟩ ?_
  obtain ⟨x7, hx7, h⟩ := bind_some h
  refine DGo.step (x_index (L := aList) (f := eName) (ti := ti39) (tj := ti95) (e := 95) (k := .i64) tbokGB rfl hx7) ?_
  refine DGo.ck tbokGB false 5 ⟨33, [(0, vl eName aList), (1, vi aYear), (5, .own 5), (6, vi s3.1), (14, vi aYear), (20, vi x7.Years.From), (21, vl eName aList), (22, vi s3.1)], [(5, oa 2 1 (eI .i64) s3.2)]⟩ ?_
  obtain ⟨x8, hx8, h⟩ := bind_some h
  refine DGo.step (x_index (L := aList) (f := eName) (ti := ti39) (tj := ti95) (e := 95) (k := .i64) tbokGB rfl hx8) ?_
  refine DGo.ck tbokGB false 3 ⟨33, [(0, vl eName aList), (1, vi aYear), (5, .own 5), (6, vi s3.1), (14, vi aYear), (20, vi x7.Years.From), (26, vi x8.Years.To)], [(5, oa 2 1 (eI .i64) s3.2)]⟩ ?_
  obtain ⟨x9, hx9, h⟩ := bind_some h
  refine DGo.step (xc ents81 (spec_l01In_run aYear x7.Years.From x8.Years.To _ hx9)) ?_
  refine DGo.nx ?_
  refine swp_cd h (fun h => ?_) fun h => ?_
  refine swp_reg ?_
  refine SRun.ck tbokGB 3 ⟨33, [(0, vl eName aList), (1, vi aYear), (6, vi s3.1), (28, .own 5), (30, .own 30)], [(5, oa 2 1 (eI .i64) s3.2), (30, oa 2 1 (eI .i64) ([s3.1] : List Int))]⟩ ?_
  obtain ⟨x10, hx10, h⟩ := bind_some h
  refine SRun.estep (x_append (f := (eI .i64)) (t := 123) (ti := ti123) (tj := ti2) (zs := [.int .i64 0]) (e := 2) (m := 1) (d := 5) (xv := .own 30) hx10 tbokGB rfl rfl rfl rfl (x_src_o (e := 2))) ?_
  refine SRun.ck tbokGB 1 ⟨33, [(0, vl eName aList), (1, vi aYear), (5, .own 31), (6, vi s3.1)], [(31, oa 2 1 (eI .i64) x10)]⟩ ?_
  refine SRun.nil ?_
  obtain rfl := inj h
  exact q_bn (q_j (Le.rr [31] [(31, 5)]))
  refine swp_skip ?_
  obtain rfl := inj h
  exact q_bn (q_j (Le.sub0))
  refine swp_reg ?_
  refine SRun.ck tbokGB 3 ⟨33, [(0, vl eName aList), (1, vi aYear), (5, .own 5), (6, vi (w64 (s3.1 + 1)))], [(5, oa 2 1 (eI .i64) j5)]⟩ ?_
  refine SRun.nil ?_
  obtain rfl := inj h
  exact q_l (Le.sub0)
  refine swp_exit ?_
  obtain rfl := inj h
  exact nx_e (q_re (q_bh (q_j (Le.sub0))))
  refine srk tbokGB ⟨33, [(4, .own 5)], [(5, oa 2 1 (eI .i64) j1)]⟩ ?_
  refine swp_ret ?_
  obtain rfl := inj h
  exact q_fr (f1 (fo (eI_flat .i64)))
theorem ents107 : Ents Tryz.prog 107 := ents_of Tryz.func107 (by kernel_rfl) rfl
noncomputable def spec_l11Has (aP : Place) (aText : ByteArray) (aYear : Int) : Option (Bool) :=
  ((spec_l09Used aP.Names aYear).bind fun x1 => (((forN (x1.length : Int) (fun (i4 : Int) (_ : Unit) => ((at' x1 i4).bind fun x8 => ((at' aP.Names x8).bind fun x9 => (bif (x9.Text.toList == aText.toList) then some (.inr (.inr true)) else some (.inl ()))))) (fun (_ : Unit) => .inl ()) 0 ())).bind (Sum.elim (fun (_ : Unit) => some false) some)))
theorem spec_l11Has_run (aP : Place) (aText : ByteArray) (aYear : Int) (r : Bool) (h : spec_l11Has aP aText aYear = some r) : SCall Tryz.prog 71 [.v (.agg (tc ePlace aP)), .v (vs aText), .v (vi aYear)] ⟨[.v (vb r)], [], false⟩ := by
  refine scall_in Tryz.func71 rfl [(.tmp 6)] rfl (fun r => ⟨[.v (vb r)], [], false⟩) (r := r) ?_
  unfold spec_l11Has at h
  refine srk tbokGB ⟨30, [(1, vs aText), (2, vi aYear), (3, .ref 3 0)], [(3, .box (tc ePlace aP))]⟩ ?_
  refine sr ?_
  refine SRun.ck tbokGB 3 ⟨30, [(1, vs aText), (3, .ref 3 0), (10, vl eName aP.Names), (11, vi aYear)], [(3, .box (tc ePlace aP))]⟩ ?_
  obtain ⟨x1, hx1, h⟩ := bind_some h
  refine SRun.ls (xc ents107 (spec_l09Used_run aP.Names aYear _ hx1)) ?_
  refine ckn tbokGB 1 ⟨30, [(1, vs aText), (3, .ref 3 0), (7, .own 12)], [(3, .box (tc ePlace aP)), (12, oa 2 1 (eI .i64) x1)]⟩ ?_
  refine swp_seq ?_
  refine srk tbokGB ⟨30, [(1, vs aText), (3, .ref 3 0), (7, .own 12), (8, vi 0)], [(3, .box (tc ePlace aP)), (12, oa 2 1 (eI .i64) x1)]⟩ ?_
  refine swp_seqE (r := r) h (fun j2 => ⟨30, [], []⟩) (fun v3 h => ?_) (fun j2 h => ?_)
  refine swp_blk (a := v3) ?_
  refine swp_lpL (r := v3) (s := (0, ())) _ (fun s4 => ⟨30, [(1, vs aText), (3, .ref 3 0), (7, .own 7), (8, vi s4.1)], [(3, .box (tc ePlace aP)), (7, oa 2 1 (eI .i64) x1)]⟩) _ (Le.rr [3, 12] [(12, 7)]) h (fun s4 v5 h => ?_)
  refine swp_seq ?_
  refine srk tbokGB ⟨30, [(1, vs aText), (3, .ref 3 0), (7, .own 7), (8, vi s4.1), (16, vb (decide (s4.1 < (x1.length : Int))))], [(3, .box (tc ePlace aP)), (7, oa 2 1 (eI .i64) x1)]⟩ ?_
  refine swp_cd h (fun h => ?_) fun h => ?_
  refine swp_skip ?_
  refine nx_n ?_
  refine swp_seq ?_
  refine swp_seqL (r := v5) h (fun j6 => ⟨30, [(1, vs aText), (3, .ref 3 0), (7, .own 7), (8, vi s4.1)], [(3, .box (tc ePlace aP)), (7, oa 2 1 (eI .i64) x1)]⟩) (fun v7 h => ?_) (fun j6 h => ?_)
  refine swp_blk (a := v7) ?_
  refine swp_seq ?_
  refine swp_dr mixed ?_
  refine DGo.ck tbokGB false 4 ⟨30, [(1, vs aText), (3, .ref 3 0), (7, .own 7), (8, vi s4.1), (20, vl eName aP.Names), (21, .own 7), (22, vi s4.1)], [(3, .box (tc ePlace aP)), (7, oa 2 1 (eI .i64) x1)]⟩ ?_
  obtain ⟨x8, hx8, h⟩ := bind_some h
  refine DGo.step (x_index_own (d := 7) (L := x1) (f := (eI .i64)) (ti := ti123) (tj := ti2) (e := 2) (e' := 2) (m := 1) (k := .i64) tbokGB rfl hx8) ?_
  refine DGo.step (x_load_own (d := 7) (m := 1) (j := 0) (L := x1) (f := (eI .i64)) (ti := ti2) (e := 2) (v := vi x8) tbokGB rfl hx8) ?_
  obtain ⟨x9, hx9, h⟩ := bind_some h
  refine DGo.step (x_index (L := aP.Names) (f := eName) (ti := ti39) (tj := ti95) (e := 95) (k := .i64) tbokGB rfl hx9) ?_
  refine DGo.ck tbokGB false 4 ⟨30, [(1, vs aText), (3, .ref 3 0), (7, .own 7), (8, vi s4.1), (29, vb (x9.Text.toList == aText.toList))], [(3, .box (tc ePlace aP)), (7, oa 2 1 (eI .i64) x1)]⟩ ?_
  refine DGo.nx ?_
  refine swp_cd h (fun h => ?_) fun h => ?_
  refine srk tbokGB ⟨30, [(6, vb true)], []⟩ ?_
  refine swp_ret ?_
  obtain rfl := inj h
  exact q_br (q_rr (q_rr (q_br (q_rr (q_fr (f1 fv))))))
  refine swp_skip ?_
  obtain rfl := inj h
  exact q_bn (q_l (Le.sub0))
  refine swp_reg ?_
  refine SRun.ck tbokGB 3 ⟨30, [(1, vs aText), (3, .ref 3 0), (7, .own 7), (8, vi (w64 (s4.1 + 1)))], [(3, .box (tc ePlace aP)), (7, oa 2 1 (eI .i64) x1)]⟩ ?_
  refine SRun.nil ?_
  obtain rfl := inj h
  exact q_l (Le.sub0)
  refine swp_exit ?_
  obtain rfl := inj h
  exact nx_e (q_re (q_bh (q_l (Le.sub0))))
  refine srk tbokGB ⟨30, [(6, vb false)], []⟩ ?_
  refine swp_ret ?_
  obtain rfl := inj h
  exact q_fr (f1 fv)
theorem ents71 : Ents Tryz.prog 71 := ents_of Tryz.func71 (by kernel_rfl) rfl
noncomputable def spec_l08Insert (aList : (List ByteArray)) (aS : ByteArray) : Option ((List ByteArray)) :=
  (((loop (fun (s3 : Int) => (((bif (decide (s3 < (aList.length : Int))) then ((at' aList s3).bind fun x5 => some (Op.bytesLess x5.toList aS.toList)) else some false)).bind fun (j6 : Bool) => (bif j6 then some (.inl (w64 (s3 + 1))) else some (.inr s3)))) 0)).bind fun (j1 : Int) => (((bif (decide (j1 < (aList.length : Int))) then ((at' aList j1).bind fun x8 => some (x8.toList == aS.toList)) else some false)).bind fun (j9 : Bool) => (bif j9 then some aList else ((part' aList 0 j1).bind fun x11 => ((app' ([] : List ByteArray) x11).bind fun x12 => ((app' x12 ([aS] : List ByteArray)).bind fun x13 => ((part' aList j1 (aList.length : Int)).bind fun x14 => ((app' x13 x14).bind fun x15 => some x15))))))))
theorem spec_l08Insert_run (aList : (List ByteArray)) (aS : ByteArray) (r : (List ByteArray)) (h : spec_l08Insert aList aS = some r) : SCall Tryz.prog 72 [.v (vl eS aList), .v (vs aS)] ⟨[.v (vl eS r)], [], true⟩ := by
  refine scall_in Tryz.func72 rfl [(.tmp 4)] rfl (fun r => ⟨[.v (vl eS r)], [], true⟩) (r := r) ?_
  unfold spec_l08Insert at h
  refine srk tbokGB ⟨45, [(0, vl eS aList), (1, vs aS)], []⟩ ?_
  refine srk tbokGB ⟨45, [(0, vl eS aList), (1, vs aS), (5, vi 0)], []⟩ ?_
  refine swp_seq ?_
  refine swp_seqJ h (fun j1 => ⟨45, [(0, vl eS aList), (1, vs aS), (5, vi j1)], []⟩) (fun v2 h => ?_) (fun j1 h => ?_)
  refine swp_blk (a := v2) ?_
  refine swp_lpL (r := v2) (s := 0) _ (fun s3 => ⟨45, [(0, vl eS aList), (1, vs aS), (5, vi s3)], []⟩) _ (Le.sub0) h (fun s3 v4 h => ?_)
  refine swp_seq ?_
  refine swp_seq ?_
  refine swp_regJ h (fun j6 => ⟨45, [(0, vl eS aList), (1, vs aS), (5, vi s3), (17, vb j6)], []⟩) (fun v7 h => ?_) (fun j6 h => ?_)
  refine SRun.ck tbokGB 5 ⟨45, [(0, vl eS aList), (1, vs aS), (5, vi s3), (10, vb (decide (s3 < (aList.length : Int))))], []⟩ ?_
  refine SRun.cu [(10, fun b => b)] h (fun h => ?_) fun h => ?_
  refine SRun.ck tbokGB 2 ⟨45, [(0, vl eS aList), (1, vs aS), (5, vi s3), (10, vb true), (11, vl eS aList), (12, vi s3)], []⟩ ?_
  obtain ⟨x5, hx5, h⟩ := bind_some h
  refine SRun.ls (x_index (L := aList) (f := eS) (ti := ti53) (tj := ti9) (e := 9) (k := .i64) tbokGB rfl hx5) ?_
  refine SRun.ck tbokGB 4 ⟨45, [(0, vl eS aList), (1, vs aS), (5, vi s3), (17, vb (Op.bytesLess x5.toList aS.toList))], []⟩ ?_
  refine SRun.nil ?_
  obtain rfl := inj h
  exact Le.sub0
  refine SRun.ck tbokGB 7 ⟨45, [(0, vl eS aList), (1, vs aS), (5, vi s3), (17, vb false)], []⟩ ?_
  refine SRun.nil ?_
  obtain rfl := inj h
  exact Le.sub0
  refine swp_cd h (fun h => ?_) fun h => ?_
  refine swp_skip ?_
  refine nx_n ?_
  refine swp_blk (a := v4) ?_
  refine swp_reg ?_
  refine SRun.ck tbokGB 3 ⟨45, [(0, vl eS aList), (1, vs aS), (5, vi (w64 (s3 + 1)))], []⟩ ?_
  refine SRun.nil ?_
  obtain rfl := inj h
  exact q_bn (q_l (Le.sub0))
  refine swp_exit ?_
  obtain rfl := inj h
  exact nx_e (q_re (q_bh (q_j (Le.sub0))))
  refine swp_seq ?_
  refine swp_seq ?_
  refine swp_regJ h (fun j9 => ⟨45, [(0, vl eS aList), (1, vs aS), (5, vi j1), (31, vb j9)], []⟩) (fun v10 h => ?_) (fun j9 h => ?_)
  refine SRun.ck tbokGB 5 ⟨45, [(0, vl eS aList), (1, vs aS), (5, vi j1), (24, vb (decide (j1 < (aList.length : Int))))], []⟩ ?_
  refine SRun.cu [(24, fun b => b)] h (fun h => ?_) fun h => ?_
  refine SRun.ck tbokGB 2 ⟨45, [(0, vl eS aList), (1, vs aS), (5, vi j1), (24, vb true), (25, vl eS aList), (26, vi j1)], []⟩ ?_
  obtain ⟨x8, hx8, h⟩ := bind_some h
  refine SRun.ls (x_index (L := aList) (f := eS) (ti := ti53) (tj := ti9) (e := 9) (k := .i64) tbokGB rfl hx8) ?_
  refine SRun.ck tbokGB 4 ⟨45, [(0, vl eS aList), (1, vs aS), (5, vi j1), (31, vb (x8.toList == aS.toList))], []⟩ ?_
  refine SRun.nil ?_
  obtain rfl := inj h
  exact Le.sub0
  refine SRun.ck tbokGB 7 ⟨45, [(0, vl eS aList), (1, vs aS), (5, vi j1), (31, vb false)], []⟩ ?_
  refine SRun.nil ?_
  obtain rfl := inj h
  exact Le.sub0
  refine swp_cd h (fun h => ?_) fun h => ?_
  refine srk tbokGB ⟨45, [(4, vl eS aList)], []⟩ ?_
  refine swp_ret ?_
  obtain rfl := inj h
  exact nx_r (q_fr (f1 ft))
  refine swp_skip ?_
  refine nx_n ?_
  refine swp_seq ?_
  obtain ⟨x11, hx11, h⟩ := bind_some h
  obtain ⟨x12, hx12, h⟩ := bind_some h
  obtain ⟨x13, hx13, h⟩ := bind_some h
  obtain ⟨x14, hx14, h⟩ := bind_some h
  obtain ⟨x15, hx15, h⟩ := bind_some h
  refine swp_dr mixed ?_
  refine DGo.enum (σE := ⟨45, [(4, .own 44)], [(44, oa 9 1 eS x15)]⟩) (n := 13) (L0 := #[false, false, false, false, false, false, false, false, false, false, false, false, false]) (by kernel_rfl) (by kernel_rfl) (fun K hk => ?_) ?_
  refine DE.share (fuel := 0) (L := #[true, true, true, true, true, true, true, true, true, true, true, true, true]) (σ := ⟨45, [(4, .own 44)], [(44, oa 9 1 eS x15)]⟩) ?_ (fun d28 => ?_)
  exact DE.done (by kernel_rfl) hk
  refine DE.share (fuel := 1) (L := #[true, true, true, true, true, true, true, true, true, true, true, true, false]) (σ := ⟨45, [(44, .own 44)], [(44, oa 9 1 eS x15)]⟩) ?_ (fun d27 => ?_)
  exact DE.take (i := 12) (L' := #[true, true, true, true, true, true, true, true, true, true, true, true, true]) rfl (.inr rfl) rfl (by kernel_rfl) (by kernel_rfl) (by kernel_rfl) (EStep.le (EStep.ofN2 tbokGB (σ' := ⟨45, [(4, .own 44), (44, .own 44)], [(44, oa 9 1 eS x15)]⟩) (by kernel_rfl)) Le.sub0) (by kernel_rfl) d28
  refine DE.share (fuel := 2) (L := #[true, true, true, true, true, true, true, true, true, true, true, false, false]) (σ := ⟨45, [(40, .own 40), (43, vl eS x14)], [(40, oa 9 1 eS x13)]⟩) ?_ (fun d26 => ?_)
  exact DE.all [11] (by kernel_rfl) (by simp) (List.forall_mem_cons.2 ⟨DEs.mk (i := 11) (L' := #[true, true, true, true, true, true, true, true, true, true, true, true, false]) rfl (EStep.le (x_append (f := eS) (t := 53) (ti := ti53) (tj := ti9) (zs := [.string (ByteArray.mk #[])]) (e := 9) (m := 1) (d := 40) (xv := vl eS x14) hx15 tbokGB rfl rfl rfl rfl (src_e (fun _ => rfl))) Le.sub0) (by kernel_rfl) d27, (fun _ h => absurd h List.not_mem_nil)⟩)
  refine DE.share (fuel := 3) (L := #[true, true, true, true, true, true, true, false, true, true, true, false, false]) (σ := ⟨45, [(37, .own 37), (39, .own 39), (43, vl eS x14)], [(37, oa 9 1 eS x12), (39, oa 9 1 eS ([aS] : List ByteArray))]⟩) ?_ (fun d25 => ?_)
  exact DE.all [7] (by kernel_rfl) (by simp) (List.forall_mem_cons.2 ⟨DEs.mk (i := 7) (L' := #[true, true, true, true, true, true, true, true, true, true, true, false, false]) rfl (EStep.le (x_append (f := eS) (t := 53) (ti := ti53) (tj := ti9) (zs := [.string (ByteArray.mk #[])]) (e := 9) (m := 1) (d := 37) (xv := .own 39) hx13 tbokGB rfl rfl rfl rfl (x_src_o (e := 9))) Le.sub0) (by kernel_rfl) d26, (fun _ h => absurd h List.not_mem_nil)⟩)
  refine DE.share (fuel := 3) (L := #[true, true, true, true, true, true, true, true, true, true, false, false, false]) (σ := ⟨45, [(40, .own 40), (41, vl eS aList), (42, vi j1)], [(40, oa 9 1 eS x13)]⟩) ?_ (fun d24 => ?_)
  exact DE.all [10] (by kernel_rfl) (by simp) (List.forall_mem_cons.2 ⟨DEs.mk (i := 10) (L' := #[true, true, true, true, true, true, true, true, true, true, true, false, false]) rfl (EStep.le (EStep.ofL (x_slice (m := 1) (f := eS) (ti := ti53) (tj := ti9) (e := 9) hx14 (fun _ => rfl) tbokGB rfl) (by kernel_rfl)) Le.sub0) (by kernel_rfl) d26, (fun _ h => absurd h List.not_mem_nil)⟩)
  refine DE.share (fuel := 4) (L := #[true, true, true, true, false, true, true, false, true, true, true, false, false]) (σ := ⟨45, [(33, .own 33), (36, vl eS x11), (39, .own 39), (43, vl eS x14)], [(33, oa 9 1 eS ([] : List ByteArray)), (39, oa 9 1 eS ([aS] : List ByteArray))]⟩) ?_ (fun d23 => ?_)
  exact DE.all [4] (by kernel_rfl) (by simp) (List.forall_mem_cons.2 ⟨DEs.mk (i := 4) (L' := #[true, true, true, true, true, true, true, false, true, true, true, false, false]) rfl (EStep.le (x_append (f := eS) (t := 53) (ti := ti53) (tj := ti9) (zs := [.string (ByteArray.mk #[])]) (e := 9) (m := 1) (d := 33) (xv := vl eS x11) hx12 tbokGB rfl rfl rfl rfl (src_e (fun _ => rfl))) Le.sub0) (by kernel_rfl) d25, (fun _ h => absurd h List.not_mem_nil)⟩)
  refine DE.share (fuel := 4) (L := #[true, true, true, true, true, true, false, false, true, true, true, false, false]) (σ := ⟨45, [(37, .own 37), (38, vs aS), (43, vl eS x14)], [(37, oa 9 1 eS x12)]⟩) ?_ (fun d22 => ?_)
  exact DE.all [6] (by kernel_rfl) (by simp) (List.forall_mem_cons.2 ⟨DEs.mk (i := 6) (L' := #[true, true, true, true, true, true, true, false, true, true, true, false, false]) rfl (EStep.le (EStep.ofN2 tbokGB (σ' := ⟨45, [(39, .own 39), (37, .own 37), (38, vs aS), (43, vl eS x14)], [(39, oa 9 1 eS ([aS] : List ByteArray)), (37, oa 9 1 eS x12)]⟩) (by kernel_rfl)) Le.sub0) (by kernel_rfl) d25, (fun _ h => absurd h List.not_mem_nil)⟩)
  refine DE.share (fuel := 4) (L := #[true, true, true, true, true, true, true, false, true, true, false, false, false]) (σ := ⟨45, [(37, .own 37), (39, .own 39), (41, vl eS aList), (42, vi j1)], [(37, oa 9 1 eS x12), (39, oa 9 1 eS ([aS] : List ByteArray))]⟩) ?_ (fun d21 => ?_)
  exact DE.all [7, 10] (by kernel_rfl) (by simp) (List.forall_mem_cons.2 ⟨DEs.mk (i := 7) (L' := #[true, true, true, true, true, true, true, true, true, true, false, false, false]) rfl (EStep.le (x_append (f := eS) (t := 53) (ti := ti53) (tj := ti9) (zs := [.string (ByteArray.mk #[])]) (e := 9) (m := 1) (d := 37) (xv := .own 39) hx13 tbokGB rfl rfl rfl rfl (x_src_o (e := 9))) Le.sub0) (by kernel_rfl) d24, (List.forall_mem_cons.2 ⟨DEs.mk (i := 10) (L' := #[true, true, true, true, true, true, true, false, true, true, true, false, false]) rfl (EStep.le (EStep.ofL (x_slice (m := 1) (f := eS) (ti := ti53) (tj := ti9) (e := 9) hx14 (fun _ => rfl) tbokGB rfl) (by kernel_rfl)) Le.sub0) (by kernel_rfl) d25, (fun _ h => absurd h List.not_mem_nil)⟩)⟩)
  refine DE.share (fuel := 5) (L := #[false, true, true, true, false, true, true, false, true, true, true, false, false]) (σ := ⟨45, [(36, vl eS x11), (39, .own 39), (43, vl eS x14)], [(39, oa 9 1 eS ([aS] : List ByteArray))]⟩) ?_ (fun d20 => ?_)
  exact DE.all [0] (by kernel_rfl) (by simp) (List.forall_mem_cons.2 ⟨DEs.mk (i := 0) (L' := #[true, true, true, true, false, true, true, false, true, true, true, false, false]) rfl (EStep.ofN2 tbokGB (σ' := ⟨45, [(33, .own 33), (36, vl eS x11), (39, .own 39), (43, vl eS x14)], [(33, oa 9 1 eS ([] : List ByteArray)), (39, oa 9 1 eS ([aS] : List ByteArray))]⟩) (by kernel_rfl)) (by kernel_rfl) d23, (fun _ h => absurd h List.not_mem_nil)⟩)
  refine DE.share (fuel := 5) (L := #[true, true, true, false, false, true, true, false, true, true, true, false, false]) (σ := ⟨45, [(33, .own 33), (34, vl eS aList), (35, vi j1), (39, .own 39), (43, vl eS x14)], [(33, oa 9 1 eS ([] : List ByteArray)), (39, oa 9 1 eS ([aS] : List ByteArray))]⟩) ?_ (fun d19 => ?_)
  exact DE.all [3] (by kernel_rfl) (by simp) (List.forall_mem_cons.2 ⟨DEs.mk (i := 3) (L' := #[true, true, true, true, false, true, true, false, true, true, true, false, false]) rfl (EStep.le (EStep.ofL (x_slice (m := 1) (f := eS) (ti := ti53) (tj := ti9) (e := 9) hx11 (fun _ => rfl) tbokGB rfl) (by kernel_rfl)) Le.sub0) (by kernel_rfl) d23, (fun _ h => absurd h List.not_mem_nil)⟩)
  refine DE.share (fuel := 5) (L := #[true, true, true, true, false, true, false, false, true, true, true, false, false]) (σ := ⟨45, [(33, .own 33), (36, vl eS x11), (38, vs aS), (43, vl eS x14)], [(33, oa 9 1 eS ([] : List ByteArray))]⟩) ?_ (fun d18 => ?_)
  exact DE.all [4, 6] (by kernel_rfl) (by simp) (List.forall_mem_cons.2 ⟨DEs.mk (i := 4) (L' := #[true, true, true, true, true, true, false, false, true, true, true, false, false]) rfl (EStep.le (x_append (f := eS) (t := 53) (ti := ti53) (tj := ti9) (zs := [.string (ByteArray.mk #[])]) (e := 9) (m := 1) (d := 33) (xv := vl eS x11) hx12 tbokGB rfl rfl rfl rfl (src_e (fun _ => rfl))) Le.sub0) (by kernel_rfl) d22, (List.forall_mem_cons.2 ⟨DEs.mk (i := 6) (L' := #[true, true, true, true, false, true, true, false, true, true, true, false, false]) rfl (EStep.le (EStep.ofN2 tbokGB (σ' := ⟨45, [(39, .own 39), (33, .own 33), (36, vl eS x11), (38, vs aS), (43, vl eS x14)], [(39, oa 9 1 eS ([aS] : List ByteArray)), (33, oa 9 1 eS ([] : List ByteArray))]⟩) (by kernel_rfl)) Le.sub0) (by kernel_rfl) d23, (fun _ h => absurd h List.not_mem_nil)⟩)⟩)
  refine DE.share (fuel := 5) (L := #[true, true, true, true, false, true, true, false, true, true, false, false, false]) (σ := ⟨45, [(33, .own 33), (36, vl eS x11), (39, .own 39), (41, vl eS aList), (42, vi j1)], [(33, oa 9 1 eS ([] : List ByteArray)), (39, oa 9 1 eS ([aS] : List ByteArray))]⟩) ?_ (fun d17 => ?_)
  exact DE.all [4, 10] (by kernel_rfl) (by simp) (List.forall_mem_cons.2 ⟨DEs.mk (i := 4) (L' := #[true, true, true, true, true, true, true, false, true, true, false, false, false]) rfl (EStep.le (x_append (f := eS) (t := 53) (ti := ti53) (tj := ti9) (zs := [.string (ByteArray.mk #[])]) (e := 9) (m := 1) (d := 33) (xv := vl eS x11) hx12 tbokGB rfl rfl rfl rfl (src_e (fun _ => rfl))) Le.sub0) (by kernel_rfl) d21, (List.forall_mem_cons.2 ⟨DEs.mk (i := 10) (L' := #[true, true, true, true, false, true, true, false, true, true, true, false, false]) rfl (EStep.le (EStep.ofL (x_slice (m := 1) (f := eS) (ti := ti53) (tj := ti9) (e := 9) hx14 (fun _ => rfl) tbokGB rfl) (by kernel_rfl)) Le.sub0) (by kernel_rfl) d23, (fun _ h => absurd h List.not_mem_nil)⟩)⟩)
  refine DE.share (fuel := 5) (L := #[true, true, true, true, true, true, false, false, true, true, false, false, false]) (σ := ⟨45, [(37, .own 37), (38, vs aS), (41, vl eS aList), (42, vi j1)], [(37, oa 9 1 eS x12)]⟩) ?_ (fun d16 => ?_)
  exact DE.all [6, 10] (by kernel_rfl) (by simp) (List.forall_mem_cons.2 ⟨DEs.mk (i := 6) (L' := #[true, true, true, true, true, true, true, false, true, true, false, false, false]) rfl (EStep.le (EStep.ofN2 tbokGB (σ' := ⟨45, [(39, .own 39), (37, .own 37), (38, vs aS), (41, vl eS aList), (42, vi j1)], [(39, oa 9 1 eS ([aS] : List ByteArray)), (37, oa 9 1 eS x12)]⟩) (by kernel_rfl)) Le.sub0) (by kernel_rfl) d21, (List.forall_mem_cons.2 ⟨DEs.mk (i := 10) (L' := #[true, true, true, true, true, true, false, false, true, true, true, false, false]) rfl (EStep.le (EStep.ofL (x_slice (m := 1) (f := eS) (ti := ti53) (tj := ti9) (e := 9) hx14 (fun _ => rfl) tbokGB rfl) (by kernel_rfl)) Le.sub0) (by kernel_rfl) d22, (fun _ h => absurd h List.not_mem_nil)⟩)⟩)
  refine DE.share (fuel := 6) (L := #[false, true, true, false, false, true, true, false, true, true, true, false, false]) (σ := ⟨45, [(34, vl eS aList), (35, vi j1), (39, .own 39), (43, vl eS x14)], [(39, oa 9 1 eS ([aS] : List ByteArray))]⟩) ?_ (fun d15 => ?_)
  exact DE.all [0, 3] (by kernel_rfl) (by simp) (List.forall_mem_cons.2 ⟨DEs.mk (i := 0) (L' := #[true, true, true, false, false, true, true, false, true, true, true, false, false]) rfl (EStep.ofN2 tbokGB (σ' := ⟨45, [(33, .own 33), (34, vl eS aList), (35, vi j1), (39, .own 39), (43, vl eS x14)], [(33, oa 9 1 eS ([] : List ByteArray)), (39, oa 9 1 eS ([aS] : List ByteArray))]⟩) (by kernel_rfl)) (by kernel_rfl) d19, (List.forall_mem_cons.2 ⟨DEs.mk (i := 3) (L' := #[false, true, true, true, false, true, true, false, true, true, true, false, false]) rfl (EStep.le (EStep.ofL (x_slice (m := 1) (f := eS) (ti := ti53) (tj := ti9) (e := 9) hx11 (fun _ => rfl) tbokGB rfl) (by kernel_rfl)) Le.sub0) (by kernel_rfl) d20, (fun _ h => absurd h List.not_mem_nil)⟩)⟩)
  refine DE.share (fuel := 6) (L := #[false, true, true, true, false, true, false, false, true, true, true, false, false]) (σ := ⟨45, [(36, vl eS x11), (38, vs aS), (43, vl eS x14)], []⟩) ?_ (fun d14 => ?_)
  exact DE.all [0, 6] (by kernel_rfl) (by simp) (List.forall_mem_cons.2 ⟨DEs.mk (i := 0) (L' := #[true, true, true, true, false, true, false, false, true, true, true, false, false]) rfl (EStep.ofN2 tbokGB (σ' := ⟨45, [(33, .own 33), (36, vl eS x11), (38, vs aS), (43, vl eS x14)], [(33, oa 9 1 eS ([] : List ByteArray))]⟩) (by kernel_rfl)) (by kernel_rfl) d18, (List.forall_mem_cons.2 ⟨DEs.mk (i := 6) (L' := #[false, true, true, true, false, true, true, false, true, true, true, false, false]) rfl (EStep.le (EStep.ofN2 tbokGB (σ' := ⟨45, [(39, .own 39), (36, vl eS x11), (38, vs aS), (43, vl eS x14)], [(39, oa 9 1 eS ([aS] : List ByteArray))]⟩) (by kernel_rfl)) Le.sub0) (by kernel_rfl) d20, (fun _ h => absurd h List.not_mem_nil)⟩)⟩)
  refine DE.share (fuel := 6) (L := #[false, true, true, true, false, true, true, false, true, true, false, false, false]) (σ := ⟨45, [(36, vl eS x11), (39, .own 39), (41, vl eS aList), (42, vi j1)], [(39, oa 9 1 eS ([aS] : List ByteArray))]⟩) ?_ (fun d13 => ?_)
  exact DE.all [0, 10] (by kernel_rfl) (by simp) (List.forall_mem_cons.2 ⟨DEs.mk (i := 0) (L' := #[true, true, true, true, false, true, true, false, true, true, false, false, false]) rfl (EStep.ofN2 tbokGB (σ' := ⟨45, [(33, .own 33), (36, vl eS x11), (39, .own 39), (41, vl eS aList), (42, vi j1)], [(33, oa 9 1 eS ([] : List ByteArray)), (39, oa 9 1 eS ([aS] : List ByteArray))]⟩) (by kernel_rfl)) (by kernel_rfl) d17, (List.forall_mem_cons.2 ⟨DEs.mk (i := 10) (L' := #[false, true, true, true, false, true, true, false, true, true, true, false, false]) rfl (EStep.le (EStep.ofL (x_slice (m := 1) (f := eS) (ti := ti53) (tj := ti9) (e := 9) hx14 (fun _ => rfl) tbokGB rfl) (by kernel_rfl)) Le.sub0) (by kernel_rfl) d20, (fun _ h => absurd h List.not_mem_nil)⟩)⟩)
  refine DE.share (fuel := 6) (L := #[true, true, true, false, false, true, false, false, true, true, true, false, false]) (σ := ⟨45, [(33, .own 33), (34, vl eS aList), (35, vi j1), (38, vs aS), (43, vl eS x14)], [(33, oa 9 1 eS ([] : List ByteArray))]⟩) ?_ (fun d12 => ?_)
  exact DE.all [3, 6] (by kernel_rfl) (by simp) (List.forall_mem_cons.2 ⟨DEs.mk (i := 3) (L' := #[true, true, true, true, false, true, false, false, true, true, true, false, false]) rfl (EStep.le (EStep.ofL (x_slice (m := 1) (f := eS) (ti := ti53) (tj := ti9) (e := 9) hx11 (fun _ => rfl) tbokGB rfl) (by kernel_rfl)) Le.sub0) (by kernel_rfl) d18, (List.forall_mem_cons.2 ⟨DEs.mk (i := 6) (L' := #[true, true, true, false, false, true, true, false, true, true, true, false, false]) rfl (EStep.le (EStep.ofN2 tbokGB (σ' := ⟨45, [(39, .own 39), (33, .own 33), (34, vl eS aList), (35, vi j1), (38, vs aS), (43, vl eS x14)], [(39, oa 9 1 eS ([aS] : List ByteArray)), (33, oa 9 1 eS ([] : List ByteArray))]⟩) (by kernel_rfl)) Le.sub0) (by kernel_rfl) d19, (fun _ h => absurd h List.not_mem_nil)⟩)⟩)
  refine DE.share (fuel := 6) (L := #[true, true, true, false, false, true, true, false, true, true, false, false, false]) (σ := ⟨45, [(33, .own 33), (34, vl eS aList), (35, vi j1), (39, .own 39), (41, vl eS aList), (42, vi j1)], [(33, oa 9 1 eS ([] : List ByteArray)), (39, oa 9 1 eS ([aS] : List ByteArray))]⟩) ?_ (fun d11 => ?_)
  exact DE.all [3, 10] (by kernel_rfl) (by simp) (List.forall_mem_cons.2 ⟨DEs.mk (i := 3) (L' := #[true, true, true, true, false, true, true, false, true, true, false, false, false]) rfl (EStep.le (EStep.ofL (x_slice (m := 1) (f := eS) (ti := ti53) (tj := ti9) (e := 9) hx11 (fun _ => rfl) tbokGB rfl) (by kernel_rfl)) Le.sub0) (by kernel_rfl) d17, (List.forall_mem_cons.2 ⟨DEs.mk (i := 10) (L' := #[true, true, true, false, false, true, true, false, true, true, true, false, false]) rfl (EStep.le (EStep.ofL (x_slice (m := 1) (f := eS) (ti := ti53) (tj := ti9) (e := 9) hx14 (fun _ => rfl) tbokGB rfl) (by kernel_rfl)) Le.sub0) (by kernel_rfl) d19, (fun _ h => absurd h List.not_mem_nil)⟩)⟩)
  refine DE.share (fuel := 6) (L := #[true, true, true, true, false, true, false, false, true, true, false, false, false]) (σ := ⟨45, [(33, .own 33), (36, vl eS x11), (38, vs aS), (41, vl eS aList), (42, vi j1)], [(33, oa 9 1 eS ([] : List ByteArray))]⟩) ?_ (fun d10 => ?_)
  exact DE.all [4, 6, 10] (by kernel_rfl) (by simp) (List.forall_mem_cons.2 ⟨DEs.mk (i := 4) (L' := #[true, true, true, true, true, true, false, false, true, true, false, false, false]) rfl (EStep.le (x_append (f := eS) (t := 53) (ti := ti53) (tj := ti9) (zs := [.string (ByteArray.mk #[])]) (e := 9) (m := 1) (d := 33) (xv := vl eS x11) hx12 tbokGB rfl rfl rfl rfl (src_e (fun _ => rfl))) Le.sub0) (by kernel_rfl) d16, (List.forall_mem_cons.2 ⟨DEs.mk (i := 6) (L' := #[true, true, true, true, false, true, true, false, true, true, false, false, false]) rfl (EStep.le (EStep.ofN2 tbokGB (σ' := ⟨45, [(39, .own 39), (33, .own 33), (36, vl eS x11), (38, vs aS), (41, vl eS aList), (42, vi j1)], [(39, oa 9 1 eS ([aS] : List ByteArray)), (33, oa 9 1 eS ([] : List ByteArray))]⟩) (by kernel_rfl)) Le.sub0) (by kernel_rfl) d17, (List.forall_mem_cons.2 ⟨DEs.mk (i := 10) (L' := #[true, true, true, true, false, true, false, false, true, true, true, false, false]) rfl (EStep.le (EStep.ofL (x_slice (m := 1) (f := eS) (ti := ti53) (tj := ti9) (e := 9) hx14 (fun _ => rfl) tbokGB rfl) (by kernel_rfl)) Le.sub0) (by kernel_rfl) d18, (fun _ h => absurd h List.not_mem_nil)⟩)⟩)⟩)
  refine DE.share (fuel := 7) (L := #[false, true, true, false, false, true, false, false, true, true, true, false, false]) (σ := ⟨45, [(34, vl eS aList), (35, vi j1), (38, vs aS), (43, vl eS x14)], []⟩) ?_ (fun d9 => ?_)
  exact DE.all [0, 3, 6] (by kernel_rfl) (by simp) (List.forall_mem_cons.2 ⟨DEs.mk (i := 0) (L' := #[true, true, true, false, false, true, false, false, true, true, true, false, false]) rfl (EStep.ofN2 tbokGB (σ' := ⟨45, [(33, .own 33), (34, vl eS aList), (35, vi j1), (38, vs aS), (43, vl eS x14)], [(33, oa 9 1 eS ([] : List ByteArray))]⟩) (by kernel_rfl)) (by kernel_rfl) d12, (List.forall_mem_cons.2 ⟨DEs.mk (i := 3) (L' := #[false, true, true, true, false, true, false, false, true, true, true, false, false]) rfl (EStep.le (EStep.ofL (x_slice (m := 1) (f := eS) (ti := ti53) (tj := ti9) (e := 9) hx11 (fun _ => rfl) tbokGB rfl) (by kernel_rfl)) Le.sub0) (by kernel_rfl) d14, (List.forall_mem_cons.2 ⟨DEs.mk (i := 6) (L' := #[false, true, true, false, false, true, true, false, true, true, true, false, false]) rfl (EStep.le (EStep.ofN2 tbokGB (σ' := ⟨45, [(39, .own 39), (34, vl eS aList), (35, vi j1), (38, vs aS), (43, vl eS x14)], [(39, oa 9 1 eS ([aS] : List ByteArray))]⟩) (by kernel_rfl)) Le.sub0) (by kernel_rfl) d15, (fun _ h => absurd h List.not_mem_nil)⟩)⟩)⟩)
  refine DE.share (fuel := 7) (L := #[false, true, true, false, false, true, true, false, true, true, false, false, false]) (σ := ⟨45, [(34, vl eS aList), (35, vi j1), (39, .own 39), (41, vl eS aList), (42, vi j1)], [(39, oa 9 1 eS ([aS] : List ByteArray))]⟩) ?_ (fun d8 => ?_)
  exact DE.all [0, 3, 10] (by kernel_rfl) (by simp) (List.forall_mem_cons.2 ⟨DEs.mk (i := 0) (L' := #[true, true, true, false, false, true, true, false, true, true, false, false, false]) rfl (EStep.ofN2 tbokGB (σ' := ⟨45, [(33, .own 33), (34, vl eS aList), (35, vi j1), (39, .own 39), (41, vl eS aList), (42, vi j1)], [(33, oa 9 1 eS ([] : List ByteArray)), (39, oa 9 1 eS ([aS] : List ByteArray))]⟩) (by kernel_rfl)) (by kernel_rfl) d11, (List.forall_mem_cons.2 ⟨DEs.mk (i := 3) (L' := #[false, true, true, true, false, true, true, false, true, true, false, false, false]) rfl (EStep.le (EStep.ofL (x_slice (m := 1) (f := eS) (ti := ti53) (tj := ti9) (e := 9) hx11 (fun _ => rfl) tbokGB rfl) (by kernel_rfl)) Le.sub0) (by kernel_rfl) d13, (List.forall_mem_cons.2 ⟨DEs.mk (i := 10) (L' := #[false, true, true, false, false, true, true, false, true, true, true, false, false]) rfl (EStep.le (EStep.ofL (x_slice (m := 1) (f := eS) (ti := ti53) (tj := ti9) (e := 9) hx14 (fun _ => rfl) tbokGB rfl) (by kernel_rfl)) Le.sub0) (by kernel_rfl) d15, (fun _ h => absurd h List.not_mem_nil)⟩)⟩)⟩)
  refine DE.share (fuel := 7) (L := #[false, true, true, true, false, true, false, false, true, true, false, false, false]) (σ := ⟨45, [(36, vl eS x11), (38, vs aS), (41, vl eS aList), (42, vi j1)], []⟩) ?_ (fun d7 => ?_)
  exact DE.all [0, 6, 10] (by kernel_rfl) (by simp) (List.forall_mem_cons.2 ⟨DEs.mk (i := 0) (L' := #[true, true, true, true, false, true, false, false, true, true, false, false, false]) rfl (EStep.ofN2 tbokGB (σ' := ⟨45, [(33, .own 33), (36, vl eS x11), (38, vs aS), (41, vl eS aList), (42, vi j1)], [(33, oa 9 1 eS ([] : List ByteArray))]⟩) (by kernel_rfl)) (by kernel_rfl) d10, (List.forall_mem_cons.2 ⟨DEs.mk (i := 6) (L' := #[false, true, true, true, false, true, true, false, true, true, false, false, false]) rfl (EStep.le (EStep.ofN2 tbokGB (σ' := ⟨45, [(39, .own 39), (36, vl eS x11), (38, vs aS), (41, vl eS aList), (42, vi j1)], [(39, oa 9 1 eS ([aS] : List ByteArray))]⟩) (by kernel_rfl)) Le.sub0) (by kernel_rfl) d13, (List.forall_mem_cons.2 ⟨DEs.mk (i := 10) (L' := #[false, true, true, true, false, true, false, false, true, true, true, false, false]) rfl (EStep.le (EStep.ofL (x_slice (m := 1) (f := eS) (ti := ti53) (tj := ti9) (e := 9) hx14 (fun _ => rfl) tbokGB rfl) (by kernel_rfl)) Le.sub0) (by kernel_rfl) d14, (fun _ h => absurd h List.not_mem_nil)⟩)⟩)⟩)
  refine DE.share (fuel := 7) (L := #[true, true, true, false, false, true, false, false, true, true, false, false, false]) (σ := ⟨45, [(33, .own 33), (34, vl eS aList), (35, vi j1), (38, vs aS), (41, vl eS aList), (42, vi j1)], [(33, oa 9 1 eS ([] : List ByteArray))]⟩) ?_ (fun d6 => ?_)
  exact DE.all [3, 6, 10] (by kernel_rfl) (by simp) (List.forall_mem_cons.2 ⟨DEs.mk (i := 3) (L' := #[true, true, true, true, false, true, false, false, true, true, false, false, false]) rfl (EStep.le (EStep.ofL (x_slice (m := 1) (f := eS) (ti := ti53) (tj := ti9) (e := 9) hx11 (fun _ => rfl) tbokGB rfl) (by kernel_rfl)) Le.sub0) (by kernel_rfl) d10, (List.forall_mem_cons.2 ⟨DEs.mk (i := 6) (L' := #[true, true, true, false, false, true, true, false, true, true, false, false, false]) rfl (EStep.le (EStep.ofN2 tbokGB (σ' := ⟨45, [(39, .own 39), (33, .own 33), (34, vl eS aList), (35, vi j1), (38, vs aS), (41, vl eS aList), (42, vi j1)], [(39, oa 9 1 eS ([aS] : List ByteArray)), (33, oa 9 1 eS ([] : List ByteArray))]⟩) (by kernel_rfl)) Le.sub0) (by kernel_rfl) d11, (List.forall_mem_cons.2 ⟨DEs.mk (i := 10) (L' := #[true, true, true, false, false, true, false, false, true, true, true, false, false]) rfl (EStep.le (EStep.ofL (x_slice (m := 1) (f := eS) (ti := ti53) (tj := ti9) (e := 9) hx14 (fun _ => rfl) tbokGB rfl) (by kernel_rfl)) Le.sub0) (by kernel_rfl) d12, (fun _ h => absurd h List.not_mem_nil)⟩)⟩)⟩)
  refine DE.share (fuel := 8) (L := #[false, true, true, false, false, true, false, false, true, true, false, false, false]) (σ := ⟨45, [(34, vl eS aList), (35, vi j1), (38, vs aS), (41, vl eS aList), (42, vi j1)], []⟩) ?_ (fun d5 => ?_)
  exact DE.all [0, 3, 6, 10] (by kernel_rfl) (by simp) (List.forall_mem_cons.2 ⟨DEs.mk (i := 0) (L' := #[true, true, true, false, false, true, false, false, true, true, false, false, false]) rfl (EStep.ofN2 tbokGB (σ' := ⟨45, [(33, .own 33), (34, vl eS aList), (35, vi j1), (38, vs aS), (41, vl eS aList), (42, vi j1)], [(33, oa 9 1 eS ([] : List ByteArray))]⟩) (by kernel_rfl)) (by kernel_rfl) d6, (List.forall_mem_cons.2 ⟨DEs.mk (i := 3) (L' := #[false, true, true, true, false, true, false, false, true, true, false, false, false]) rfl (EStep.le (EStep.ofL (x_slice (m := 1) (f := eS) (ti := ti53) (tj := ti9) (e := 9) hx11 (fun _ => rfl) tbokGB rfl) (by kernel_rfl)) Le.sub0) (by kernel_rfl) d7, (List.forall_mem_cons.2 ⟨DEs.mk (i := 6) (L' := #[false, true, true, false, false, true, true, false, true, true, false, false, false]) rfl (EStep.le (EStep.ofN2 tbokGB (σ' := ⟨45, [(39, .own 39), (34, vl eS aList), (35, vi j1), (38, vs aS), (41, vl eS aList), (42, vi j1)], [(39, oa 9 1 eS ([aS] : List ByteArray))]⟩) (by kernel_rfl)) Le.sub0) (by kernel_rfl) d8, (List.forall_mem_cons.2 ⟨DEs.mk (i := 10) (L' := #[false, true, true, false, false, true, false, false, true, true, true, false, false]) rfl (EStep.le (EStep.ofL (x_slice (m := 1) (f := eS) (ti := ti53) (tj := ti9) (e := 9) hx14 (fun _ => rfl) tbokGB rfl) (by kernel_rfl)) Le.sub0) (by kernel_rfl) d9, (fun _ h => absurd h List.not_mem_nil)⟩)⟩)⟩)⟩)
  refine DE.share (fuel := 9) (L := #[false, true, true, false, false, true, false, false, true, false, false, false, false]) (σ := ⟨45, [(5, vi j1), (34, vl eS aList), (35, vi j1), (38, vs aS), (41, vl eS aList)], []⟩) ?_ (fun d4 => ?_)
  exact DE.take (i := 9) (L' := #[false, true, true, false, false, true, false, false, true, true, false, false, false]) rfl (.inl rfl) rfl (by kernel_rfl) (by kernel_rfl) (by kernel_rfl) (EStep.le (EStep.ofN2 tbokGB (σ' := ⟨45, [(42, vi j1), (5, vi j1), (34, vl eS aList), (35, vi j1), (38, vs aS), (41, vl eS aList)], []⟩) (by kernel_rfl)) Le.sub0) (by kernel_rfl) d5
  refine DE.share (fuel := 10) (L := #[false, true, true, false, false, true, false, false, false, false, false, false, false]) (σ := ⟨45, [(0, vl eS aList), (5, vi j1), (34, vl eS aList), (35, vi j1), (38, vs aS)], []⟩) ?_ (fun d3 => ?_)
  exact DE.take (i := 8) (L' := #[false, true, true, false, false, true, false, false, true, false, false, false, false]) rfl (.inl rfl) rfl (by kernel_rfl) (by kernel_rfl) (by kernel_rfl) (EStep.le (EStep.ofN2 tbokGB (σ' := ⟨45, [(41, vl eS aList), (0, vl eS aList), (5, vi j1), (34, vl eS aList), (35, vi j1), (38, vs aS)], []⟩) (by kernel_rfl)) Le.sub0) (by kernel_rfl) d4
  refine DE.share (fuel := 11) (L := #[false, true, true, false, false, false, false, false, false, false, false, false, false]) (σ := ⟨45, [(0, vl eS aList), (1, vs aS), (5, vi j1), (34, vl eS aList), (35, vi j1)], []⟩) ?_ (fun d2 => ?_)
  exact DE.take (i := 5) (L' := #[false, true, true, false, false, true, false, false, false, false, false, false, false]) rfl (.inl rfl) rfl (by kernel_rfl) (by kernel_rfl) (by kernel_rfl) (EStep.le (EStep.ofN2 tbokGB (σ' := ⟨45, [(38, vs aS), (0, vl eS aList), (1, vs aS), (5, vi j1), (34, vl eS aList), (35, vi j1)], []⟩) (by kernel_rfl)) Le.sub0) (by kernel_rfl) d3
  refine DE.share (fuel := 12) (L := #[false, true, false, false, false, false, false, false, false, false, false, false, false]) (σ := ⟨45, [(0, vl eS aList), (1, vs aS), (5, vi j1), (34, vl eS aList)], []⟩) ?_ (fun d1 => ?_)
  exact DE.take (i := 2) (L' := #[false, true, true, false, false, false, false, false, false, false, false, false, false]) rfl (.inl rfl) rfl (by kernel_rfl) (by kernel_rfl) (by kernel_rfl) (EStep.le (EStep.ofN2 tbokGB (σ' := ⟨45, [(35, vi j1), (0, vl eS aList), (1, vs aS), (5, vi j1), (34, vl eS aList)], []⟩) (by kernel_rfl)) Le.sub0) (by kernel_rfl) d2
  exact DE.take (i := 1) (L' := #[false, true, false, false, false, false, false, false, false, false, false, false, false]) rfl (.inl rfl) rfl (by kernel_rfl) (by kernel_rfl) (by kernel_rfl) (EStep.le (EStep.ofN2 tbokGB (σ' := ⟨45, [(34, vl eS aList), (0, vl eS aList), (1, vs aS), (5, vi j1), (31, vb j9)], []⟩) (by kernel_rfl)) Le.sub0) (by kernel_rfl) d1
  refine nx_n ?_
  refine swp_le (Le.frz' (d := 44) (e := 9) (m := 1) (n := x15.length) (es := x15.map eS) (by kernel_rfl) (by kernel_rfl)) ?_
  refine swp_ret ?_
  obtain rfl := inj h
  exact q_fr (f1 ft)
theorem ents72 : Ents Tryz.prog 72 := ents_of Tryz.func72 (by kernel_rfl) rfl
noncomputable def spec_HomonymsIn (aList : (List Place)) (aYear : Int) : Option ((List ByteArray) × Int) :=
  ((spec_l11Year aList aYear).bind fun x1 => (bif (x1 != 0) then some (([] : List ByteArray), x1) else (((forS (aList.length : Int) (fun (i4 : Int) (s4 : (List ByteArray)) => (loop (fun (s8 : (List ByteArray) × Int) => ((at' aList i4).bind fun x10 => (bif (decide (s8.2 < (x10.Names.length : Int))) then ((((at' aList i4).bind fun x13 => ((at' x13.Names s8.2).bind fun x14 => (((forS (aList.length : Int) (fun (i17 : Int) (s17 : Int) => ((at' aList i17).bind fun x21 => ((spec_l11Has x21 x14.Text aYear).bind fun x22 => (bif x22 then some (w64 (s17 + 1)) else some s17)))) (fun (s17 : Int) => s17) 0 0)).bind fun (j15 : Int) => (bif (decide (j15 > 1)) then ((spec_l08Insert s8.1 x14.Text).bind fun x23 => some x23) else some s8.1))))).bind fun (j11 : (List ByteArray)) => some (.inl (j11, (w64 (s8.2 + 1))))) else some (.inr s8.1)))) (s4, 0))) (fun (s4 : (List ByteArray)) => s4) 0 ([] : List ByteArray))).bind fun (j2 : (List ByteArray)) => some (j2, 0))))
theorem spec_HomonymsIn_run (aList : (List Place)) (aYear : Int) (r : (List ByteArray) × Int) (h : spec_HomonymsIn aList aYear = some r) : SCall Tryz.prog 26 [.v (vl ePlace aList), .v (vi aYear)] ⟨[.v (vl eS r.1), .v (vi r.2)], [], true⟩ := by
  refine scall_in Tryz.func26 rfl [(.tmp 4), (.tmp 5)] rfl (fun r => ⟨[.v (vl eS r.1), .v (vi r.2)], [], true⟩) (r := r) ?_
  unfold spec_HomonymsIn at h
  refine srk tbokGB ⟨66, [(0, vl ePlace aList), (1, vi aYear)], []⟩ ?_
  refine sr ?_
  refine SRun.ck tbokGB 2 ⟨66, [(0, vl ePlace aList), (1, vi aYear), (13, vl ePlace aList), (14, vi aYear)], []⟩ ?_
  obtain ⟨x1, hx1, h⟩ := bind_some h
  refine SRun.ls (xc ents66 (spec_l11Year_run aList aYear _ hx1)) ?_
  refine ckn tbokGB 1 ⟨66, [(0, vl ePlace aList), (1, vi aYear), (6, vi x1)], []⟩ ?_
  refine swp_seq ?_
  refine srk tbokGB ⟨66, [(0, vl ePlace aList), (1, vi aYear), (6, vi x1), (17, vb (x1 != 0))], []⟩ ?_
  refine swp_cd h (fun h => ?_) fun h => ?_
  refine srk tbokGB ⟨66, [(4, .own 4), (5, vi x1)], [(4, oa 9 1 eS ([] : List ByteArray))]⟩ ?_
  refine swp_le (Le.frz' (d := 4) (e := 9) (m := 1) (n := ([] : List ByteArray).length) (es := ([] : List ByteArray).map eS) (by kernel_rfl) (by kernel_rfl)) ?_
  refine swp_ret ?_
  obtain rfl := inj h
  exact nx_r (q_fr (f2 ft ft))
  refine swp_skip ?_
  refine nx_n ?_
  refine srk tbokGB ⟨66, [(0, vl ePlace aList), (1, vi aYear), (7, .own 19)], [(19, oa 9 1 eS ([] : List ByteArray))]⟩ ?_
  refine swp_seq ?_
  refine srk tbokGB ⟨66, [(0, vl ePlace aList), (1, vi aYear), (7, .own 19), (8, vi 0)], [(19, oa 9 1 eS ([] : List ByteArray))]⟩ ?_
  refine swp_seqJ h (fun j2 => ⟨66, [(7, vl eS j2)], []⟩) (fun v3 h => ?_) (fun j2 h => ?_)
  refine swp_blk (a := v3) ?_
  refine swp_le (Le.frz' (d := 19) (e := 9) (m := 1) (n := ([] : List ByteArray).length) (es := ([] : List ByteArray).map eS) (by kernel_rfl) (by kernel_rfl)) ?_
  refine swp_lpL (r := v3) (s := (0, ([] : List ByteArray))) _ (fun s4 => ⟨66, [(0, vl ePlace aList), (1, vi aYear), (7, vl eS s4.2), (8, vi s4.1)], []⟩) _ (Le.sub0) h (fun s4 v5 h => ?_)
  refine swp_seq ?_
  refine srk tbokGB ⟨66, [(0, vl ePlace aList), (1, vi aYear), (7, vl eS s4.2), (8, vi s4.1), (23, vb (decide (s4.1 < (aList.length : Int))))], []⟩ ?_
  refine swp_cd h (fun h => ?_) fun h => ?_
  refine swp_skip ?_
  refine nx_n ?_
  refine swp_seq ?_
  refine swp_seqJ h (fun j6 => ⟨66, [(0, vl ePlace aList), (1, vi aYear), (7, vl eS j6), (8, vi s4.1)], []⟩) (fun v7 h => ?_) (fun j6 h => ?_)
  refine swp_blk (a := v7) ?_
  refine srk tbokGB ⟨66, [(0, vl ePlace aList), (1, vi aYear), (7, vl eS s4.2), (8, vi s4.1), (9, vi 0)], []⟩ ?_
  refine swp_blk (a := v7) ?_
  refine swp_lpL (r := v7) (s := (s4.2, 0)) _ (fun s8 => ⟨66, [(0, vl ePlace aList), (1, vi aYear), (7, vl eS s8.1), (8, vi s4.1), (9, vi s8.2)], []⟩) _ (Le.sub0) h (fun s8 v9 h => ?_)
  refine swp_seq ?_
  refine sr ?_
  refine SRun.ck tbokGB 3 ⟨66, [(0, vl ePlace aList), (1, vi aYear), (7, vl eS s8.1), (8, vi s4.1), (9, vi s8.2), (26, vi s8.2), (27, vl ePlace aList), (28, vi s4.1)], []⟩ ?_
  obtain ⟨x10, hx10, h⟩ := bind_some h
  refine SRun.ls (x_index (L := aList) (f := ePlace) (ti := ti24) (tj := ti41) (e := 41) (k := .i64) tbokGB rfl hx10) ?_
  refine ckn tbokGB 4 ⟨66, [(0, vl ePlace aList), (1, vi aYear), (7, vl eS s8.1), (8, vi s4.1), (9, vi s8.2), (33, vb (decide (s8.2 < (x10.Names.length : Int))))], []⟩ ?_
  refine swp_cd h (fun h => ?_) fun h => ?_
  refine swp_skip ?_
  refine nx_n ?_
  refine swp_seq ?_
  refine swp_seqJ h (fun j11 => ⟨66, [(0, vl ePlace aList), (1, vi aYear), (7, vl eS j11), (8, vi s4.1), (9, vi s8.2)], []⟩) (fun v12 h => ?_) (fun j11 h => ?_)
  refine swp_blk (a := v12) ?_
  refine sr ?_
  refine SRun.ck tbokGB 2 ⟨66, [(0, vl ePlace aList), (1, vi aYear), (7, vl eS s8.1), (8, vi s4.1), (9, vi s8.2), (36, vl ePlace aList), (37, vi s4.1)], []⟩ ?_
  obtain ⟨x13, hx13, h⟩ := bind_some h
  refine SRun.ls (x_index (L := aList) (f := ePlace) (ti := ti24) (tj := ti41) (e := 41) (k := .i64) tbokGB rfl hx13) ?_
  refine SRun.ck tbokGB 3 ⟨66, [(0, vl ePlace aList), (1, vi aYear), (7, vl eS s8.1), (8, vi s4.1), (9, vi s8.2), (40, vl eName x13.Names), (41, vi s8.2)], []⟩ ?_
  obtain ⟨x14, hx14, h⟩ := bind_some h
  refine SRun.ls (x_index (L := x13.Names) (f := eName) (ti := ti39) (tj := ti95) (e := 95) (k := .i64) tbokGB rfl hx14) ?_
  refine ckn tbokGB 3 ⟨66, [(0, vl ePlace aList), (1, vi aYear), (7, vl eS s8.1), (8, vi s4.1), (9, vi s8.2), (10, vs x14.Text)], []⟩ ?_
  refine srk tbokGB ⟨66, [(0, vl ePlace aList), (1, vi aYear), (7, vl eS s8.1), (8, vi s4.1), (9, vi s8.2), (10, vs x14.Text), (11, vi 0)], []⟩ ?_
  refine swp_seq ?_
  refine srk tbokGB ⟨66, [(0, vl ePlace aList), (1, vi aYear), (7, vl eS s8.1), (8, vi s4.1), (9, vi s8.2), (10, vs x14.Text), (11, vi 0), (12, vi 0)], []⟩ ?_
  refine swp_seqJ h (fun j15 => ⟨66, [(0, vl ePlace aList), (1, vi aYear), (7, vl eS s8.1), (8, vi s4.1), (9, vi s8.2), (10, vs x14.Text), (11, vi j15)], []⟩) (fun v16 h => ?_) (fun j15 h => ?_)
  refine swp_blk (a := v16) ?_
  refine swp_lpL (r := v16) (s := (0, 0)) _ (fun s17 => ⟨66, [(0, vl ePlace aList), (1, vi aYear), (7, vl eS s8.1), (8, vi s4.1), (9, vi s8.2), (10, vs x14.Text), (11, vi s17.2), (12, vi s17.1)], []⟩) _ (Le.sub0) h (fun s17 v18 h => ?_)
  refine swp_seq ?_
  refine srk tbokGB ⟨66, [(0, vl ePlace aList), (1, vi aYear), (7, vl eS s8.1), (8, vi s4.1), (9, vi s8.2), (10, vs x14.Text), (11, vi s17.2), (12, vi s17.1), (48, vb (decide (s17.1 < (aList.length : Int))))], []⟩ ?_
  refine swp_cd h (fun h => ?_) fun h => ?_
  refine swp_skip ?_
  refine nx_n ?_
  refine swp_seq ?_
  refine swp_seqJ h (fun j19 => ⟨66, [(0, vl ePlace aList), (1, vi aYear), (7, vl eS s8.1), (8, vi s4.1), (9, vi s8.2), (10, vs x14.Text), (11, vi j19), (12, vi s17.1)], []⟩) (fun v20 h => ?_) (fun j19 h => ?_)
  refine swp_blk (a := v20) ?_
  refine sr ?_
  refine SRun.ck tbokGB 2 ⟨66, [(0, vl ePlace aList), (1, vi aYear), (7, vl eS s8.1), (8, vi s4.1), (9, vi s8.2), (10, vs x14.Text), (11, vi s17.2), (12, vi s17.1), (51, vl ePlace aList), (52, vi s17.1)], []⟩ ?_
  obtain ⟨x21, hx21, h⟩ := bind_some h
  refine SRun.ls (x_index (L := aList) (f := ePlace) (ti := ti24) (tj := ti41) (e := 41) (k := .i64) tbokGB rfl hx21) ?_
  refine SRun.ck tbokGB 3 ⟨66, [(0, vl ePlace aList), (1, vi aYear), (7, vl eS s8.1), (8, vi s4.1), (9, vi s8.2), (10, vs x14.Text), (11, vi s17.2), (12, vi s17.1), (54, .agg (tc ePlace x21)), (55, vs x14.Text), (56, vi aYear)], []⟩ ?_
  obtain ⟨x22, hx22, h⟩ := bind_some h
  refine SRun.ls (xc ents71 (spec_l11Has_run x21 x14.Text aYear _ hx22)) ?_
  refine SRun.nx ?_
  refine swp_cd h (fun h => ?_) fun h => ?_
  refine swp_reg ?_
  refine SRun.ck tbokGB 3 ⟨66, [(0, vl ePlace aList), (1, vi aYear), (7, vl eS s8.1), (8, vi s4.1), (9, vi s8.2), (10, vs x14.Text), (11, vi (w64 (s17.2 + 1))), (12, vi s17.1)], []⟩ ?_
  refine SRun.nil ?_
  obtain rfl := inj h
  exact q_bn (q_j (Le.sub0))
  refine swp_skip ?_
  obtain rfl := inj h
  exact q_bn (q_j (Le.sub0))
  refine swp_reg ?_
  refine SRun.ck tbokGB 3 ⟨66, [(0, vl ePlace aList), (1, vi aYear), (7, vl eS s8.1), (8, vi s4.1), (9, vi s8.2), (10, vs x14.Text), (11, vi j19), (12, vi (w64 (s17.1 + 1)))], []⟩ ?_
  refine SRun.nil ?_
  obtain rfl := inj h
  exact q_l (Le.sub0)
  refine swp_exit ?_
  obtain rfl := inj h
  exact nx_e (q_re (q_bh (q_j (Le.sub0))))
  refine srk tbokGB ⟨66, [(0, vl ePlace aList), (1, vi aYear), (7, vl eS s8.1), (8, vi s4.1), (9, vi s8.2), (10, vs x14.Text), (61, vb (decide (j15 > 1)))], []⟩ ?_
  refine swp_cd h (fun h => ?_) fun h => ?_
  refine swp_reg ?_
  refine SRun.ck tbokGB 2 ⟨66, [(0, vl ePlace aList), (1, vi aYear), (8, vi s4.1), (9, vi s8.2), (62, vl eS s8.1), (63, vs x14.Text)], []⟩ ?_
  obtain ⟨x23, hx23, h⟩ := bind_some h
  refine SRun.ls (xc ents72 (spec_l08Insert_run s8.1 x14.Text _ hx23)) ?_
  refine SRun.ck tbokGB 1 ⟨66, [(0, vl ePlace aList), (1, vi aYear), (7, vl eS x23), (8, vi s4.1), (9, vi s8.2)], []⟩ ?_
  refine SRun.nil ?_
  obtain rfl := inj h
  exact q_bn (q_j (Le.sub0))
  refine swp_skip ?_
  obtain rfl := inj h
  exact q_bn (q_j (Le.sub0))
  refine swp_reg ?_
  refine SRun.ck tbokGB 3 ⟨66, [(0, vl ePlace aList), (1, vi aYear), (7, vl eS j11), (8, vi s4.1), (9, vi (w64 (s8.2 + 1)))], []⟩ ?_
  refine SRun.nil ?_
  obtain rfl := inj h
  exact q_l (Le.sub0)
  refine swp_exit ?_
  obtain rfl := inj h
  exact nx_e (q_re (q_bh (q_bn (q_j (Le.sub0)))))
  refine swp_reg ?_
  refine SRun.ck tbokGB 3 ⟨66, [(0, vl ePlace aList), (1, vi aYear), (7, vl eS j6), (8, vi (w64 (s4.1 + 1)))], []⟩ ?_
  refine SRun.nil ?_
  obtain rfl := inj h
  exact q_l (Le.sub0)
  refine swp_exit ?_
  obtain rfl := inj h
  exact nx_e (q_re (q_bh (q_j (Le.sub0))))
  refine srk tbokGB ⟨66, [(4, vl eS j2), (5, vi 0)], []⟩ ?_
  refine swp_ret ?_
  obtain rfl := inj h
  exact q_fr (f2 ft ft)
theorem ents26 : Ents Tryz.prog 26 := ents_of Tryz.func26 (by kernel_rfl) rfl
noncomputable def laws_likeNames (aA : (List Name)) (aB : (List Name)) : Option (Bool) :=
  (bif ((aA.length : Int) != (aB.length : Int)) then some false else (((forN (aA.length : Int) (fun (i3 : Int) (_ : Unit) => ((at' aA i3).bind fun x7 => ((at' aB i3).bind fun x8 => (bif (!((x7.Text.toList == x8.Text.toList) && ((x7.Language.toList == x8.Language.toList) && ((x7.Status == x8.Status) && ((x7.Years.From == x8.Years.From) && (x7.Years.To == x8.Years.To)))))) then some (.inr (.inr false)) else some (.inl ()))))) (fun (_ : Unit) => .inl ()) 0 ())).bind (Sum.elim (fun (_ : Unit) => some true) some)))
theorem laws_likeNames_run (aA : (List Name)) (aB : (List Name)) (r : Bool) (h : laws_likeNames aA aB = some r) : SCall Tryz.prog 73 [.v (vl eName aA), .v (vl eName aB)] ⟨[.v (vb r)], [], false⟩ := by
  refine scall_in Tryz.func73 rfl [(.tmp 4)] rfl (fun r => ⟨[.v (vb r)], [], false⟩) (r := r) ?_
  unfold laws_likeNames at h
  refine srk tbokGB ⟨26, [(0, vl eName aA), (1, vl eName aB)], []⟩ ?_
  refine swp_seq ?_
  refine srk tbokGB ⟨26, [(0, vl eName aA), (1, vl eName aB), (10, vb ((aA.length : Int) != (aB.length : Int)))], []⟩ ?_
  refine swp_cd h (fun h => ?_) fun h => ?_
  refine srk tbokGB ⟨26, [(4, vb false)], []⟩ ?_
  refine swp_ret ?_
  obtain rfl := inj h
  exact nx_r (q_fr (f1 fv))
  refine swp_skip ?_
  refine nx_n ?_
  refine swp_seq ?_
  refine srk tbokGB ⟨26, [(0, vl eName aA), (1, vl eName aB), (5, vi 0)], []⟩ ?_
  refine swp_seqE (r := r) h (fun j1 => ⟨26, [], []⟩) (fun v2 h => ?_) (fun j1 h => ?_)
  refine swp_blk (a := v2) ?_
  refine swp_lpL (r := v2) (s := (0, ())) _ (fun s3 => ⟨26, [(0, vl eName aA), (1, vl eName aB), (5, vi s3.1)], []⟩) _ (Le.sub0) h (fun s3 v4 h => ?_)
  refine swp_seq ?_
  refine srk tbokGB ⟨26, [(0, vl eName aA), (1, vl eName aB), (5, vi s3.1), (14, vb (decide (s3.1 < (aA.length : Int))))], []⟩ ?_
  refine swp_cd h (fun h => ?_) fun h => ?_
  refine swp_skip ?_
  refine nx_n ?_
  refine swp_seq ?_
  refine swp_seqL (r := v4) h (fun j5 => ⟨26, [(0, vl eName aA), (1, vl eName aB), (5, vi s3.1)], []⟩) (fun v6 h => ?_) (fun j5 h => ?_)
  refine swp_blk (a := v6) ?_
  refine swp_seq ?_
  refine swp_dr mixed ?_
  refine DGo.ck tbokGB false 2 ⟨26, [(0, vl eName aA), (1, vl eName aB), (5, vi s3.1), (17, vl eName aA), (18, vi s3.1)], []⟩ ?_
  obtain ⟨x7, hx7, h⟩ := bind_some h
  refine DGo.step (x_index (L := aA) (f := eName) (ti := ti39) (tj := ti95) (e := 95) (k := .i64) tbokGB rfl hx7) ?_
  refine DGo.ck tbokGB false 3 ⟨26, [(0, vl eName aA), (1, vl eName aB), (5, vi s3.1), (20, .agg (tc eName x7)), (21, vl eName aB), (22, vi s3.1)], []⟩ ?_
  obtain ⟨x8, hx8, h⟩ := bind_some h
  refine DGo.step (x_index (L := aB) (f := eName) (ti := ti39) (tj := ti95) (e := 95) (k := .i64) tbokGB rfl hx8) ?_
  refine DGo.ck tbokGB false 1 ⟨26, [(0, vl eName aA), (1, vl eName aB), (5, vi s3.1), (20, .agg (tc eName x7)), (24, .agg (tc eName x8))], []⟩ ?_
  refine DGo.step (x_lstep_eq tbokGB true (xs := [vs x7.Text, vs x7.Language, vi x7.Status, vi x7.Years.From, vi x7.Years.To]) (ys := [vs x8.Text, vs x8.Language, vi x8.Status, vi x8.Years.From, vi x8.Years.To]) (b := ((x7.Text.toList == x8.Text.toList) && ((x7.Language.toList == x8.Language.toList) && ((x7.Status == x8.Status) && ((x7.Years.From == x8.Years.From) && (x7.Years.To == x8.Years.To)))))) rfl) ?_
  refine DGo.nx ?_
  refine swp_cd h (fun h => ?_) fun h => ?_
  refine srk tbokGB ⟨26, [(4, vb false)], []⟩ ?_
  refine swp_ret ?_
  obtain rfl := inj h
  exact q_br (q_rr (q_rr (q_br (q_rr (q_fr (f1 fv))))))
  refine swp_skip ?_
  obtain rfl := inj h
  exact q_bn (q_l (Le.sub0))
  refine swp_reg ?_
  refine SRun.ck tbokGB 3 ⟨26, [(0, vl eName aA), (1, vl eName aB), (5, vi (w64 (s3.1 + 1)))], []⟩ ?_
  refine SRun.nil ?_
  obtain rfl := inj h
  exact q_l (Le.sub0)
  refine swp_exit ?_
  obtain rfl := inj h
  exact nx_e (q_re (q_bh (q_l (Le.sub0))))
  refine srk tbokGB ⟨26, [(4, vb true)], []⟩ ?_
  refine swp_ret ?_
  obtain rfl := inj h
  exact q_fr (f1 fv)
theorem ents73 : Ents Tryz.prog 73 := ents_of Tryz.func73 (by kernel_rfl) rfl
noncomputable def laws_likePlaces (aA : (List Place)) (aB : (List Place)) : Option (Bool) :=
  (bif ((aA.length : Int) != (aB.length : Int)) then some false else (((forN (aA.length : Int) (fun (i3 : Int) (_ : Unit) => ((((at' aA i3).bind fun x7 => ((at' aB i3).bind fun x8 => (bif (!(x7.Code.toList == x8.Code.toList)) then some true else ((at' aA i3).bind fun x9 => ((at' aB i3).bind fun x10 => (bif (x9.Class != x10.Class) then some true else ((at' aA i3).bind fun x11 => ((at' aB i3).bind fun x12 => (bif (!((x11.Years.From == x12.Years.From) && (x11.Years.To == x12.Years.To))) then some true else ((at' aA i3).bind fun x13 => ((at' aB i3).bind fun x14 => ((laws_likeNames x13.Names x14.Names).bind fun x15 => some (!x15)))))))))))))).bind fun (j16 : Bool) => (bif j16 then some (.inr (.inr false)) else some (.inl ())))) (fun (_ : Unit) => .inl ()) 0 ())).bind (Sum.elim (fun (_ : Unit) => some true) some)))
theorem laws_likePlaces_run (aA : (List Place)) (aB : (List Place)) (r : Bool) (h : laws_likePlaces aA aB = some r) : SCall Tryz.prog 27 [.v (vl ePlace aA), .v (vl ePlace aB)] ⟨[.v (vb r)], [], false⟩ := by
  refine scall_in Tryz.func27 rfl [(.tmp 4)] rfl (fun r => ⟨[.v (vb r)], [], false⟩) (r := r) ?_
  unfold laws_likePlaces at h
  refine srk tbokGB ⟨68, [(0, vl ePlace aA), (1, vl ePlace aB)], []⟩ ?_
  refine swp_seq ?_
  refine srk tbokGB ⟨68, [(0, vl ePlace aA), (1, vl ePlace aB), (10, vb ((aA.length : Int) != (aB.length : Int)))], []⟩ ?_
  refine swp_cd h (fun h => ?_) fun h => ?_
  refine srk tbokGB ⟨68, [(4, vb false)], []⟩ ?_
  refine swp_ret ?_
  obtain rfl := inj h
  exact nx_r (q_fr (f1 fv))
  refine swp_skip ?_
  refine nx_n ?_
  refine swp_seq ?_
  refine srk tbokGB ⟨68, [(0, vl ePlace aA), (1, vl ePlace aB), (5, vi 0)], []⟩ ?_
  refine swp_seqE (r := r) h (fun j1 => ⟨68, [], []⟩) (fun v2 h => ?_) (fun j1 h => ?_)
  refine swp_blk (a := v2) ?_
  refine swp_lpL (r := v2) (s := (0, ())) _ (fun s3 => ⟨68, [(0, vl ePlace aA), (1, vl ePlace aB), (5, vi s3.1)], []⟩) _ (Le.sub0) h (fun s3 v4 h => ?_)
  refine swp_seq ?_
  refine srk tbokGB ⟨68, [(0, vl ePlace aA), (1, vl ePlace aB), (5, vi s3.1), (14, vb (decide (s3.1 < (aA.length : Int))))], []⟩ ?_
  refine swp_cd h (fun h => ?_) fun h => ?_
  refine swp_skip ?_
  refine nx_n ?_
  refine swp_seq ?_
  refine swp_seqL (r := v4) h (fun j5 => ⟨68, [(0, vl ePlace aA), (1, vl ePlace aB), (5, vi s3.1)], []⟩) (fun v6 h => ?_) (fun j5 h => ?_)
  refine swp_blk (a := v6) ?_
  refine swp_seq ?_
  refine swp_drJ mixed h (fun j16 => ⟨68, [(0, vl ePlace aA), (1, vl ePlace aB), (5, vi s3.1), (67, vb j16)], []⟩) (fun v17 h => ?_) (fun j16 h => ?_)
  refine DGo.ck tbokGB false 2 ⟨68, [(0, vl ePlace aA), (1, vl ePlace aB), (5, vi s3.1), (17, vl ePlace aA), (18, vi s3.1)], []⟩ ?_
  obtain ⟨x7, hx7, h⟩ := bind_some h
  refine DGo.step (x_index (L := aA) (f := ePlace) (ti := ti24) (tj := ti41) (e := 41) (k := .i64) tbokGB rfl hx7) ?_
  refine DGo.ck tbokGB false 4 ⟨68, [(0, vl ePlace aA), (1, vl ePlace aB), (5, vi s3.1), (21, vs x7.Code), (22, vl ePlace aB), (23, vi s3.1)], []⟩ ?_
  obtain ⟨x8, hx8, h⟩ := bind_some h
  refine DGo.step (x_index (L := aB) (f := ePlace) (ti := ti24) (tj := ti41) (e := 41) (k := .i64) tbokGB rfl hx8) ?_
  refine DGo.ck tbokGB false 4 ⟨68, [(0, vl ePlace aA), (1, vl ePlace aB), (5, vi s3.1), (28, vb (!(x7.Code.toList == x8.Code.toList)))], []⟩ ?_
  refine DGo.cu [(28, fun b => b)] h (fun h => ?_) fun h => ?_
  refine DGo.ck tbokGB false 39 ⟨68, [(0, vl ePlace aA), (1, vl ePlace aB), (5, vi s3.1), (67, vb true)], []⟩ ?_
  refine DGo.nil (by kernel_rfl) ?_
  obtain rfl := inj h
  exact Le.sub0
  refine DGo.ck tbokGB false 2 ⟨68, [(0, vl ePlace aA), (1, vl ePlace aB), (5, vi s3.1), (28, vb false), (29, vl ePlace aA), (30, vi s3.1)], []⟩ ?_
  obtain ⟨x9, hx9, h⟩ := bind_some h
  refine DGo.step (x_index (L := aA) (f := ePlace) (ti := ti24) (tj := ti41) (e := 41) (k := .i64) tbokGB rfl hx9) ?_
  refine DGo.ck tbokGB false 4 ⟨68, [(0, vl ePlace aA), (1, vl ePlace aB), (5, vi s3.1), (28, vb false), (33, vi x9.Class), (34, vl ePlace aB), (35, vi s3.1)], []⟩ ?_
  obtain ⟨x10, hx10, h⟩ := bind_some h
  refine DGo.step (x_index (L := aB) (f := ePlace) (ti := ti24) (tj := ti41) (e := 41) (k := .i64) tbokGB rfl hx10) ?_
  refine DGo.ck tbokGB false 5 ⟨68, [(0, vl ePlace aA), (1, vl ePlace aB), (5, vi s3.1), (41, vb (x9.Class != x10.Class))], []⟩ ?_
  refine DGo.cu [(41, fun b => b)] h (fun h => ?_) fun h => ?_
  refine DGo.ck tbokGB false 26 ⟨68, [(0, vl ePlace aA), (1, vl ePlace aB), (5, vi s3.1), (67, vb true)], []⟩ ?_
  refine DGo.nil (by kernel_rfl) ?_
  obtain rfl := inj h
  exact Le.sub0
  refine DGo.ck tbokGB false 2 ⟨68, [(0, vl ePlace aA), (1, vl ePlace aB), (5, vi s3.1), (41, vb false), (42, vl ePlace aA), (43, vi s3.1)], []⟩ ?_
  obtain ⟨x11, hx11, h⟩ := bind_some h
  refine DGo.step (x_index (L := aA) (f := ePlace) (ti := ti24) (tj := ti41) (e := 41) (k := .i64) tbokGB rfl hx11) ?_
  refine DGo.ck tbokGB false 4 ⟨68, [(0, vl ePlace aA), (1, vl ePlace aB), (5, vi s3.1), (41, vb false), (46, .agg (tc eSpan x11.Years)), (47, vl ePlace aB), (48, vi s3.1)], []⟩ ?_
  obtain ⟨x12, hx12, h⟩ := bind_some h
  refine DGo.step (x_index (L := aB) (f := ePlace) (ti := ti24) (tj := ti41) (e := 41) (k := .i64) tbokGB rfl hx12) ?_
  refine DGo.ck tbokGB false 2 ⟨68, [(0, vl ePlace aA), (1, vl ePlace aB), (5, vi s3.1), (41, vb false), (46, .agg (tc eSpan x11.Years)), (51, .agg (tc eSpan x12.Years))], []⟩ ?_
  refine DGo.step (x_lstep_eq tbokGB true (xs := [vi x11.Years.From, vi x11.Years.To]) (ys := [vi x12.Years.From, vi x12.Years.To]) (b := ((x11.Years.From == x12.Years.From) && (x11.Years.To == x12.Years.To))) rfl) ?_
  refine DGo.ck tbokGB false 2 ⟨68, [(0, vl ePlace aA), (1, vl ePlace aB), (5, vi s3.1), (54, vb (!((x11.Years.From == x12.Years.From) && (x11.Years.To == x12.Years.To))))], []⟩ ?_
  refine DGo.cu [(54, fun b => b)] h (fun h => ?_) fun h => ?_
  refine DGo.ck tbokGB false 13 ⟨68, [(0, vl ePlace aA), (1, vl ePlace aB), (5, vi s3.1), (67, vb true)], []⟩ ?_
  refine DGo.nil (by kernel_rfl) ?_
  obtain rfl := inj h
  exact Le.sub0
  refine DGo.ck tbokGB false 2 ⟨68, [(0, vl ePlace aA), (1, vl ePlace aB), (5, vi s3.1), (54, vb false), (55, vl ePlace aA), (56, vi s3.1)], []⟩ ?_
  obtain ⟨x13, hx13, h⟩ := bind_some h
  refine DGo.step (x_index (L := aA) (f := ePlace) (ti := ti24) (tj := ti41) (e := 41) (k := .i64) tbokGB rfl hx13) ?_
  refine DGo.ck tbokGB false 4 ⟨68, [(0, vl ePlace aA), (1, vl ePlace aB), (5, vi s3.1), (54, vb false), (59, vl eName x13.Names), (60, vl ePlace aB), (61, vi s3.1)], []⟩ ?_
  obtain ⟨x14, hx14, h⟩ := bind_some h
  refine DGo.step (x_index (L := aB) (f := ePlace) (ti := ti24) (tj := ti41) (e := 41) (k := .i64) tbokGB rfl hx14) ?_
  refine DGo.ck tbokGB false 2 ⟨68, [(0, vl ePlace aA), (1, vl ePlace aB), (5, vi s3.1), (54, vb false), (59, vl eName x13.Names), (64, vl eName x14.Names)], []⟩ ?_
  obtain ⟨x15, hx15, h⟩ := bind_some h
  refine DGo.step (xc ents73 (laws_likeNames_run x13.Names x14.Names _ hx15)) ?_
  refine DGo.ck tbokGB false 2 ⟨68, [(0, vl ePlace aA), (1, vl ePlace aB), (5, vi s3.1), (67, vb (!x15))], []⟩ ?_
  refine DGo.nil (by kernel_rfl) ?_
  obtain rfl := inj h
  exact Le.sub0
  refine swp_cd h (fun h => ?_) fun h => ?_
  refine srk tbokGB ⟨68, [(4, vb false)], []⟩ ?_
  refine swp_ret ?_
  obtain rfl := inj h
  exact q_br (q_rr (q_rr (q_br (q_rr (q_fr (f1 fv))))))
  refine swp_skip ?_
  obtain rfl := inj h
  exact q_bn (q_l (Le.sub0))
  refine swp_reg ?_
  refine SRun.ck tbokGB 3 ⟨68, [(0, vl ePlace aA), (1, vl ePlace aB), (5, vi (w64 (s3.1 + 1)))], []⟩ ?_
  refine SRun.nil ?_
  obtain rfl := inj h
  exact q_l (Le.sub0)
  refine swp_exit ?_
  obtain rfl := inj h
  exact nx_e (q_re (q_bh (q_l (Le.sub0))))
  refine srk tbokGB ⟨68, [(4, vb true)], []⟩ ?_
  refine swp_ret ?_
  obtain rfl := inj h
  exact q_fr (f1 fv)
theorem ents27 : Ents Tryz.prog 27 := ents_of Tryz.func27 (by kernel_rfl) rfl
noncomputable def laws_likeTexts (aA : (List ByteArray)) (aB : (List ByteArray)) : Option (Bool) :=
  (bif ((aA.length : Int) != (aB.length : Int)) then some false else (((forN (aA.length : Int) (fun (i3 : Int) (_ : Unit) => ((at' aA i3).bind fun x7 => ((at' aB i3).bind fun x8 => (bif (!(x7.toList == x8.toList)) then some (.inr (.inr false)) else some (.inl ()))))) (fun (_ : Unit) => .inl ()) 0 ())).bind (Sum.elim (fun (_ : Unit) => some true) some)))
theorem laws_likeTexts_run (aA : (List ByteArray)) (aB : (List ByteArray)) (r : Bool) (h : laws_likeTexts aA aB = some r) : SCall Tryz.prog 28 [.v (vl eS aA), .v (vl eS aB)] ⟨[.v (vb r)], [], false⟩ := by
  refine scall_in Tryz.func28 rfl [(.tmp 4)] rfl (fun r => ⟨[.v (vb r)], [], false⟩) (r := r) ?_
  unfold laws_likeTexts at h
  refine srk tbokGB ⟨26, [(0, vl eS aA), (1, vl eS aB)], []⟩ ?_
  refine swp_seq ?_
  refine srk tbokGB ⟨26, [(0, vl eS aA), (1, vl eS aB), (10, vb ((aA.length : Int) != (aB.length : Int)))], []⟩ ?_
  refine swp_cd h (fun h => ?_) fun h => ?_
  refine srk tbokGB ⟨26, [(4, vb false)], []⟩ ?_
  refine swp_ret ?_
  obtain rfl := inj h
  exact nx_r (q_fr (f1 fv))
  refine swp_skip ?_
  refine nx_n ?_
  refine swp_seq ?_
  refine srk tbokGB ⟨26, [(0, vl eS aA), (1, vl eS aB), (5, vi 0)], []⟩ ?_
  refine swp_seqE (r := r) h (fun j1 => ⟨26, [], []⟩) (fun v2 h => ?_) (fun j1 h => ?_)
  refine swp_blk (a := v2) ?_
  refine swp_lpL (r := v2) (s := (0, ())) _ (fun s3 => ⟨26, [(0, vl eS aA), (1, vl eS aB), (5, vi s3.1)], []⟩) _ (Le.sub0) h (fun s3 v4 h => ?_)
  refine swp_seq ?_
  refine srk tbokGB ⟨26, [(0, vl eS aA), (1, vl eS aB), (5, vi s3.1), (14, vb (decide (s3.1 < (aA.length : Int))))], []⟩ ?_
  refine swp_cd h (fun h => ?_) fun h => ?_
  refine swp_skip ?_
  refine nx_n ?_
  refine swp_seq ?_
  refine swp_seqL (r := v4) h (fun j5 => ⟨26, [(0, vl eS aA), (1, vl eS aB), (5, vi s3.1)], []⟩) (fun v6 h => ?_) (fun j5 h => ?_)
  refine swp_blk (a := v6) ?_
  refine swp_seq ?_
  refine swp_dr mixed ?_
  refine DGo.ck tbokGB false 2 ⟨26, [(0, vl eS aA), (1, vl eS aB), (5, vi s3.1), (17, vl eS aA), (18, vi s3.1)], []⟩ ?_
  obtain ⟨x7, hx7, h⟩ := bind_some h
  refine DGo.step (x_index (L := aA) (f := eS) (ti := ti53) (tj := ti9) (e := 9) (k := .i64) tbokGB rfl hx7) ?_
  refine DGo.ck tbokGB false 3 ⟨26, [(0, vl eS aA), (1, vl eS aB), (5, vi s3.1), (20, vs x7), (21, vl eS aB), (22, vi s3.1)], []⟩ ?_
  obtain ⟨x8, hx8, h⟩ := bind_some h
  refine DGo.step (x_index (L := aB) (f := eS) (ti := ti53) (tj := ti9) (e := 9) (k := .i64) tbokGB rfl hx8) ?_
  refine DGo.ck tbokGB false 2 ⟨26, [(0, vl eS aA), (1, vl eS aB), (5, vi s3.1), (25, vb (!(x7.toList == x8.toList)))], []⟩ ?_
  refine DGo.nx ?_
  refine swp_cd h (fun h => ?_) fun h => ?_
  refine srk tbokGB ⟨26, [(4, vb false)], []⟩ ?_
  refine swp_ret ?_
  obtain rfl := inj h
  exact q_br (q_rr (q_rr (q_br (q_rr (q_fr (f1 fv))))))
  refine swp_skip ?_
  obtain rfl := inj h
  exact q_bn (q_l (Le.sub0))
  refine swp_reg ?_
  refine SRun.ck tbokGB 3 ⟨26, [(0, vl eS aA), (1, vl eS aB), (5, vi (w64 (s3.1 + 1)))], []⟩ ?_
  refine SRun.nil ?_
  obtain rfl := inj h
  exact q_l (Le.sub0)
  refine swp_exit ?_
  obtain rfl := inj h
  exact nx_e (q_re (q_bh (q_l (Le.sub0))))
  refine srk tbokGB ⟨26, [(4, vb true)], []⟩ ?_
  refine swp_ret ?_
  obtain rfl := inj h
  exact q_fr (f1 fv)
theorem ents28 : Ents Tryz.prog 28 := ents_of Tryz.func28 (by kernel_rfl) rfl
noncomputable def laws_hasText (aList : (List ByteArray)) (aS : ByteArray) : Option (Bool) :=
  (((forN (aList.length : Int) (fun (i3 : Int) (_ : Unit) => ((at' aList i3).bind fun x7 => (bif (x7.toList == aS.toList) then some (.inr (.inr true)) else some (.inl ())))) (fun (_ : Unit) => .inl ()) 0 ())).bind (Sum.elim (fun (_ : Unit) => some false) some))
theorem laws_hasText_run (aList : (List ByteArray)) (aS : ByteArray) (r : Bool) (h : laws_hasText aList aS = some r) : SCall Tryz.prog 33 [.v (vl eS aList), .v (vs aS)] ⟨[.v (vb r)], [], false⟩ := by
  refine scall_in Tryz.func33 rfl [(.tmp 4)] rfl (fun r => ⟨[.v (vb r)], [], false⟩) (r := r) ?_
  unfold laws_hasText at h
  refine srk tbokGB ⟨18, [(0, vl eS aList), (1, vs aS)], []⟩ ?_
  refine swp_seq ?_
  refine srk tbokGB ⟨18, [(0, vl eS aList), (1, vs aS), (5, vi 0)], []⟩ ?_
  refine swp_seqE (r := r) h (fun j1 => ⟨18, [], []⟩) (fun v2 h => ?_) (fun j1 h => ?_)
  refine swp_blk (a := v2) ?_
  refine swp_lpL (r := v2) (s := (0, ())) _ (fun s3 => ⟨18, [(0, vl eS aList), (1, vs aS), (5, vi s3.1)], []⟩) _ (Le.sub0) h (fun s3 v4 h => ?_)
  refine swp_seq ?_
  refine srk tbokGB ⟨18, [(0, vl eS aList), (1, vs aS), (5, vi s3.1), (9, vb (decide (s3.1 < (aList.length : Int))))], []⟩ ?_
  refine swp_cd h (fun h => ?_) fun h => ?_
  refine swp_skip ?_
  refine nx_n ?_
  refine swp_seq ?_
  refine swp_seqL (r := v4) h (fun j5 => ⟨18, [(0, vl eS aList), (1, vs aS), (5, vi s3.1)], []⟩) (fun v6 h => ?_) (fun j5 h => ?_)
  refine swp_blk (a := v6) ?_
  refine sr ?_
  refine SRun.ck tbokGB 2 ⟨18, [(0, vl eS aList), (1, vs aS), (5, vi s3.1), (12, vl eS aList), (13, vi s3.1)], []⟩ ?_
  obtain ⟨x7, hx7, h⟩ := bind_some h
  refine SRun.ls (x_index (L := aList) (f := eS) (ti := ti53) (tj := ti9) (e := 9) (k := .i64) tbokGB rfl hx7) ?_
  refine ckn tbokGB 3 ⟨18, [(0, vl eS aList), (1, vs aS), (5, vi s3.1), (17, vb (x7.toList == aS.toList))], []⟩ ?_
  refine swp_cd h (fun h => ?_) fun h => ?_
  refine srk tbokGB ⟨18, [(4, vb true)], []⟩ ?_
  refine swp_ret ?_
  obtain rfl := inj h
  exact q_br (q_rr (q_rr (q_br (q_rr (q_fr (f1 fv))))))
  refine swp_skip ?_
  obtain rfl := inj h
  exact q_bn (q_l (Le.sub0))
  refine swp_reg ?_
  refine SRun.ck tbokGB 3 ⟨18, [(0, vl eS aList), (1, vs aS), (5, vi (w64 (s3.1 + 1)))], []⟩ ?_
  refine SRun.nil ?_
  obtain rfl := inj h
  exact q_l (Le.sub0)
  refine swp_exit ?_
  obtain rfl := inj h
  exact nx_e (q_re (q_bh (q_l (Le.sub0))))
  refine srk tbokGB ⟨18, [(4, vb false)], []⟩ ?_
  refine swp_ret ?_
  obtain rfl := inj h
  exact q_fr (f1 fv)
theorem ents33 : Ents Tryz.prog 33 := ents_of Tryz.func33 (by kernel_rfl) rfl
noncomputable def impl_PlacesNamed_1 (aP : Place) (c0 : ByteArray) (c1 : Int) : Option (Bool) :=
  ((impl_Place_isNamed aP c0 c1).bind fun x1 => some x1)
theorem impl_PlacesNamed_1_run (aP : Place) (c0 : ByteArray) (c1 : Int) (r : Bool) (h : impl_PlacesNamed_1 aP c0 c1 = some r) : SCall Tryz.prog 85 [.v (.agg (tc ePlace aP)), .v (.ptr [vs c0] 0), .v (.ptr [vi c1] 0)] ⟨[.v (vb r)], [], false⟩ := by
  refine scall_in Tryz.func85 rfl [(.tmp 4)] rfl (fun r => ⟨[.v (vb r)], [], false⟩) (r := r) ?_
  unfold impl_PlacesNamed_1 at h
  refine srk tbokGB ⟨9, [(1, .ptr [vs c0] 0), (2, .ptr [vi c1] 0), (3, .ref 3 0)], [(3, .box (tc ePlace aP))]⟩ ?_
  refine sr ?_
  refine SRun.ck tbokGB 3 ⟨9, [(5, .agg (tc ePlace aP)), (6, vs c0), (7, vi c1)], []⟩ ?_
  obtain ⟨x1, hx1, h⟩ := bind_some h
  refine SRun.ls (xc ents69 (impl_Place_isNamed_run aP c0 c1 _ hx1)) ?_
  refine ckn tbokGB 1 ⟨9, [(4, vb x1)], []⟩ ?_
  refine swp_ret ?_
  obtain rfl := inj h
  exact q_fr (f1 fv)
theorem ents85 : Ents Tryz.prog 85 := ents_of Tryz.func85 (by kernel_rfl) rfl
noncomputable def impl_codesOf_impl_PlacesNamed_1 (aList : (List Place)) (aIs0 : ByteArray) (aIs1 : Int) : Option ((List ByteArray)) :=
  (((forS (aList.length : Int) (fun (i3 : Int) (s3 : (List ByteArray)) => ((at' aList i3).bind fun x7 => ((impl_PlacesNamed_1 x7 aIs0 aIs1).bind fun x8 => (bif x8 then ((app' s3 ([x7.Code] : List ByteArray)).bind fun x9 => some x9) else some s3)))) (fun (s3 : (List ByteArray)) => s3) 0 ([] : List ByteArray))).bind fun (j1 : (List ByteArray)) => some j1)
theorem impl_codesOf_impl_PlacesNamed_1_run (aList : (List Place)) (aIs0 : ByteArray) (aIs1 : Int) (r : (List ByteArray)) (h : impl_codesOf_impl_PlacesNamed_1 aList aIs0 aIs1 = some r) : SCall Tryz.prog 64 [.v (vl ePlace aList), .v (.clo 85 [.ptr [vs aIs0] 0, .ptr [vi aIs1] 0])] ⟨[.own 9 1 r.length (r.map eS)], [], false⟩ := by
  refine scall_in Tryz.func64 rfl [(.tmp 4)] rfl (fun r => ⟨[.own 9 1 r.length (r.map eS)], [], false⟩) (r := r) ?_
  unfold impl_codesOf_impl_PlacesNamed_1 at h
  refine srk tbokGB ⟨24, [(0, vl ePlace aList), (1, .clo 85 [.ptr [vs aIs0] 0, .ptr [vi aIs1] 0])], []⟩ ?_
  refine srk tbokGB ⟨24, [(0, vl ePlace aList), (1, .clo 85 [.ptr [vs aIs0] 0, .ptr [vi aIs1] 0]), (5, .own 5)], [(5, oa 9 1 eS ([] : List ByteArray))]⟩ ?_
  refine swp_seq ?_
  refine srk tbokGB ⟨24, [(1, .clo 85 [.ptr [vs aIs0] 0, .ptr [vi aIs1] 0]), (5, .own 5), (8, vl ePlace aList), (9, vi (aList.length : Int)), (10, vi 0)], [(5, oa 9 1 eS ([] : List ByteArray))]⟩ ?_
  refine swp_seqJ h (fun j1 => ⟨24, [(5, .own 5)], [(5, oa 9 1 eS j1)]⟩) (fun v2 h => ?_) (fun j1 h => ?_)
  refine swp_blk (a := v2) ?_
  refine swp_lpL (r := v2) (s := (0, ([] : List ByteArray))) _ (fun s3 => ⟨24, [(1, .clo 85 [.ptr [vs aIs0] 0, .ptr [vi aIs1] 0]), (5, .own 5), (8, vl ePlace aList), (9, vi (aList.length : Int)), (10, vi s3.1)], [(5, oa 9 1 eS s3.2)]⟩) _ (Le.sub0) h (fun s3 v4 h => ?_)
  refine srk tbokGB ⟨24, [(1, .clo 85 [.ptr [vs aIs0] 0, .ptr [vi aIs1] 0]), (5, .own 5), (8, vl ePlace aList), (9, vi (aList.length : Int)), (10, vi s3.1), (11, vb (decide (s3.1 < (aList.length : Int))))], [(5, oa 9 1 eS s3.2)]⟩ ?_
  refine swp_seq ?_
  refine swp_cd h (fun h => ?_) fun h => ?_
  refine swp_skip ?_
  refine nx_n ?_
  refine swp_seq ?_
  refine swp_seqJ h (fun j5 => ⟨24, [(1, .clo 85 [.ptr [vs aIs0] 0, .ptr [vi aIs1] 0]), (5, .own 5), (8, vl ePlace aList), (9, vi (aList.length : Int)), (10, vi s3.1)], [(5, oa 9 1 eS j5)]⟩) (fun v6 h => ?_) (fun j5 h => ?_)
  refine swp_blk (a := v6) ?_
  refine sr ?_
  obtain ⟨x7, hx7, h⟩ := bind_some h
  refine SRun.ls (x_index (L := aList) (f := ePlace) (ti := ti24) (tj := ti41) (e := 41) (k := .i64) tbokGB rfl hx7) ?_
  refine ckn tbokGB 3 ⟨24, [(1, .clo 85 [.ptr [vs aIs0] 0, .ptr [vi aIs1] 0]), (5, .own 5), (7, .ref 7 0), (8, vl ePlace aList), (9, vi (aList.length : Int)), (10, vi s3.1)], [(5, oa 9 1 eS s3.2), (7, .box (tc ePlace x7))]⟩ ?_
  refine sr ?_
  refine SRun.ck tbokGB 2 ⟨24, [(1, .clo 85 [.ptr [vs aIs0] 0, .ptr [vi aIs1] 0]), (5, .own 5), (7, .ref 7 0), (8, vl ePlace aList), (9, vi (aList.length : Int)), (10, vi s3.1), (14, .clo 85 [.ptr [vs aIs0] 0, .ptr [vi aIs1] 0]), (15, .agg (tc ePlace x7))], [(5, oa 9 1 eS s3.2), (7, .box (tc ePlace x7))]⟩ ?_
  obtain ⟨x8, hx8, h⟩ := bind_some h
  refine SRun.ls (xc ents85 (impl_PlacesNamed_1_run x7 aIs0 aIs1 _ hx8)) ?_
  refine SRun.nx ?_
  refine swp_cd h (fun h => ?_) fun h => ?_
  refine swp_reg ?_
  refine SRun.ck tbokGB 4 ⟨24, [(1, .clo 85 [.ptr [vs aIs0] 0, .ptr [vi aIs1] 0]), (8, vl ePlace aList), (9, vi (aList.length : Int)), (10, vi s3.1), (17, .own 5), (20, .own 20)], [(5, oa 9 1 eS s3.2), (20, oa 9 1 eS ([x7.Code] : List ByteArray))]⟩ ?_
  obtain ⟨x9, hx9, h⟩ := bind_some h
  refine SRun.estep (x_append (f := eS) (t := 53) (ti := ti53) (tj := ti9) (zs := [.string (ByteArray.mk #[])]) (e := 9) (m := 1) (d := 5) (xv := .own 20) hx9 tbokGB rfl rfl rfl rfl (x_src_o (e := 9))) ?_
  refine SRun.ck tbokGB 1 ⟨24, [(1, .clo 85 [.ptr [vs aIs0] 0, .ptr [vi aIs1] 0]), (5, .own 21), (8, vl ePlace aList), (9, vi (aList.length : Int)), (10, vi s3.1)], [(21, oa 9 1 eS x9)]⟩ ?_
  refine SRun.nil ?_
  obtain rfl := inj h
  exact q_bn (q_j (Le.rr [21] [(21, 5)]))
  refine swp_skip ?_
  obtain rfl := inj h
  exact q_bn (q_j (Le.sub0))
  refine swp_reg ?_
  refine SRun.ck tbokGB 2 ⟨24, [(1, .clo 85 [.ptr [vs aIs0] 0, .ptr [vi aIs1] 0]), (5, .own 5), (8, vl ePlace aList), (9, vi (aList.length : Int)), (10, vi (w64 (s3.1 + 1)))], [(5, oa 9 1 eS j5)]⟩ ?_
  refine SRun.nil ?_
  obtain rfl := inj h
  exact q_l (Le.sub0)
  refine swp_exit ?_
  obtain rfl := inj h
  exact nx_e (q_re (q_bh (q_j (Le.sub0))))
  refine srk tbokGB ⟨24, [(4, .own 5)], [(5, oa 9 1 eS j1)]⟩ ?_
  refine swp_ret ?_
  obtain rfl := inj h
  exact q_fr (f1 (fo eS_flat))
noncomputable def impl_PlacesNamed (aList : (List Place)) (aText : ByteArray) (aYear : Int) : Option ((List ByteArray) × Int) :=
  ((impl_IsPhrase aText).bind fun x1 => ((impl_registerCode aList x1 aYear).bind fun x2 => (bif (x2 != 0) then some (([] : List ByteArray), x2) else ((impl_codesOf_impl_PlacesNamed_1 aList aText aYear).bind fun x3 => some (x3, 0)))))
theorem impl_PlacesNamed_run (aList : (List Place)) (aText : ByteArray) (aYear : Int) (r : (List ByteArray) × Int) (h : impl_PlacesNamed aList aText aYear = some r) : SCall Tryz.prog 34 [.v (vl ePlace aList), .v (vs aText), .v (vi aYear)] ⟨[.own 9 1 r.1.length (r.1.map eS), .v (vi r.2)], [], false⟩ := by
  refine scall_in Tryz.func34 rfl [(.tmp 6), (.tmp 7)] rfl (fun r => ⟨[.own 9 1 r.1.length (r.1.map eS), .v (vi r.2)], [], false⟩) (r := r) ?_
  unfold impl_PlacesNamed at h
  refine srk tbokGB ⟨20, [(0, vl ePlace aList), (4, .ref 4 0), (5, .ref 5 0)], [(4, .box [vs aText]), (5, .box [vi aYear])]⟩ ?_
  refine swp_seq ?_
  refine swp_seq ?_
  refine swp_dr mixed ?_
  refine DGo.ck tbokGB false 2 ⟨20, [(0, vl ePlace aList), (4, .ref 4 0), (5, .ref 5 0), (9, vl ePlace aList), (10, vs aText)], [(4, .box [vs aText]), (5, .box [vi aYear])]⟩ ?_
  obtain ⟨x1, hx1, h⟩ := bind_some h
  refine DGo.step (xc ents84 (impl_IsPhrase_run aText _ hx1)) ?_
  refine DGo.ck tbokGB false 1 ⟨20, [(0, vl ePlace aList), (4, .ref 4 0), (5, .ref 5 0), (9, vl ePlace aList), (11, vb x1), (12, vi aYear)], [(4, .box [vs aText]), (5, .box [vi aYear])]⟩ ?_
  obtain ⟨x2, hx2, h⟩ := bind_some h
  refine DGo.step (xc ents41 (impl_registerCode_run aList x1 aYear _ hx2)) ?_
  refine DGo.ck tbokGB false 1 ⟨20, [(0, vl ePlace aList), (4, .ref 4 0), (5, .ref 5 0), (8, vi x2)], [(4, .box [vs aText]), (5, .box [vi aYear])]⟩ ?_
  refine DGo.nx ?_
  refine srk tbokGB ⟨20, [(0, vl ePlace aList), (4, .ref 4 0), (5, .ref 5 0), (8, vi x2), (15, vb (x2 != 0))], [(4, .box [vs aText]), (5, .box [vi aYear])]⟩ ?_
  refine swp_cd h (fun h => ?_) fun h => ?_
  refine srk tbokGB ⟨20, [(6, .own 6), (7, vi x2)], [(6, oa 9 1 eS ([] : List ByteArray))]⟩ ?_
  refine swp_ret ?_
  obtain rfl := inj h
  exact nx_r (q_fr (f2 (fo eS_flat) fv))
  refine swp_skip ?_
  refine nx_n ?_
  refine sr ?_
  refine SRun.ck tbokGB 2 ⟨20, [(17, vl ePlace aList), (18, .clo 85 [.ref 4 0, .ref 5 0])], [(4, .box [vs aText]), (5, .box [vi aYear])]⟩ ?_
  obtain ⟨x3, hx3, h⟩ := bind_some h
  refine SRun.ls (xc ents64 (impl_codesOf_impl_PlacesNamed_1_run aList aText aYear _ hx3)) ?_
  refine ckn tbokGB 2 ⟨20, [(6, .own 19), (7, vi 0)], [(19, oa 9 1 eS x3)]⟩ ?_
  refine swp_ret ?_
  obtain rfl := inj h
  exact q_fr (f2 (fo eS_flat) fv)
theorem ents34 : Ents Tryz.prog 34 := ents_of Tryz.func34 (by kernel_rfl) rfl
noncomputable def impl_FindPlace (aList : (List Place)) (aCode : ByteArray) : Option (Int × Int) :=
  ((((impl_IsRegister aList).bind fun x1 => (bif (!x1) then some true else ((impl_IsWord aCode).bind fun x2 => some (!x2))))).bind fun (j3 : Bool) => (bif j3 then some (0, 1) else ((impl_findPlace aList aCode).bind fun x5 => (bif (!x5.2) then some (0, 4) else some (x5.1, 0)))))
theorem impl_FindPlace_run (aList : (List Place)) (aCode : ByteArray) (r : Int × Int) (h : impl_FindPlace aList aCode = some r) : SCall Tryz.prog 35 [.v (vl ePlace aList), .v (vs aCode)] ⟨[.v (vi r.1), .v (vi r.2)], [], false⟩ := by
  refine scall_in Tryz.func35 rfl [(.tmp 4), (.tmp 5)] rfl (fun r => ⟨[.v (vi r.1), .v (vi r.2)], [], false⟩) (r := r) ?_
  unfold impl_FindPlace at h
  refine srk tbokGB ⟨25, [(0, vl ePlace aList), (1, vs aCode)], []⟩ ?_
  refine swp_seq ?_
  refine swp_seq ?_
  refine swp_regJ h (fun j3 => ⟨25, [(0, vl ePlace aList), (1, vs aCode), (15, vb j3)], []⟩) (fun v4 h => ?_) (fun j3 h => ?_)
  refine SRun.ck tbokGB 1 ⟨25, [(0, vl ePlace aList), (1, vs aCode), (8, vl ePlace aList)], []⟩ ?_
  obtain ⟨x1, hx1, h⟩ := bind_some h
  refine SRun.ls (xc ents29 (impl_IsRegister_run aList _ hx1)) ?_
  refine SRun.ck tbokGB 2 ⟨25, [(0, vl ePlace aList), (1, vs aCode), (11, vb (!x1))], []⟩ ?_
  refine SRun.cu [(11, fun b => b)] h (fun h => ?_) fun h => ?_
  refine SRun.ck tbokGB 4 ⟨25, [(0, vl ePlace aList), (1, vs aCode), (15, vb true)], []⟩ ?_
  refine SRun.nil ?_
  obtain rfl := inj h
  exact Le.sub0
  refine SRun.ck tbokGB 1 ⟨25, [(0, vl ePlace aList), (1, vs aCode), (11, vb false), (12, vs aCode)], []⟩ ?_
  obtain ⟨x2, hx2, h⟩ := bind_some h
  refine SRun.ls (xc ents42 (impl_IsWord_run aCode _ hx2)) ?_
  refine SRun.ck tbokGB 2 ⟨25, [(0, vl ePlace aList), (1, vs aCode), (15, vb (!x2))], []⟩ ?_
  refine SRun.nil ?_
  obtain rfl := inj h
  exact Le.sub0
  refine swp_cd h (fun h => ?_) fun h => ?_
  refine srk tbokGB ⟨25, [(4, vi 0), (5, vi 1)], []⟩ ?_
  refine swp_ret ?_
  obtain rfl := inj h
  exact nx_r (q_fr (f2 fv fv))
  refine swp_skip ?_
  refine nx_n ?_
  refine sr ?_
  refine SRun.ck tbokGB 2 ⟨25, [(17, vl ePlace aList), (18, vs aCode)], []⟩ ?_
  obtain ⟨x5, hx5, h⟩ := bind_some h
  refine SRun.ls (xc ents43 (impl_findPlace_run aList aCode _ hx5)) ?_
  refine ckn tbokGB 5 ⟨25, [(6, vi x5.1), (7, vb x5.2)], []⟩ ?_
  refine swp_seq ?_
  refine srk tbokGB ⟨25, [(6, vi x5.1), (23, vb (!x5.2))], []⟩ ?_
  refine swp_cd h (fun h => ?_) fun h => ?_
  refine srk tbokGB ⟨25, [(4, vi 0), (5, vi 4)], []⟩ ?_
  refine swp_ret ?_
  obtain rfl := inj h
  exact nx_r (q_fr (f2 fv fv))
  refine swp_skip ?_
  refine nx_n ?_
  refine srk tbokGB ⟨25, [(4, vi x5.1), (5, vi 0)], []⟩ ?_
  refine swp_ret ?_
  obtain rfl := inj h
  exact q_fr (f2 fv fv)
theorem ents35 : Ents Tryz.prog 35 := ents_of Tryz.func35 (by kernel_rfl) rfl
noncomputable def laws_FnPlaces (aCode : (List Int)) : Option (Bool) :=
  ((laws_big aCode).bind fun x1 => (bif x1 then some true else ((spec_DrawAddPlace aCode).bind fun x2 => ((impl_AddPlace x2.1 x2.2).bind fun x3 => ((spec_AddPlace x2.1 x2.2).bind fun x4 => ((spec_DrawEndPlace aCode).bind fun x5 => ((impl_EndPlace x5.1 x5.2.1 x5.2.2).bind fun x6 => ((spec_EndPlace x5.1 x5.2.1 x5.2.2).bind fun x7 => ((spec_DrawPlacesIn aCode).bind fun x8 => ((impl_PlacesIn x8.1 x8.2).bind fun x9 => ((spec_PlacesIn x8.1 x8.2).bind fun x10 => ((impl_HomonymsIn x8.1 x8.2).bind fun x11 => ((spec_HomonymsIn x8.1 x8.2).bind fun x12 => (((bif (x3.2 != x4.2) then some true else ((laws_likePlaces x3.1 x4.1).bind fun x13 => (bif (!x13) then some true else (bif (x6.2 != x7.2) then some true else ((laws_likePlaces x6.1 x7.1).bind fun x14 => (bif (!x14) then some true else (bif (x9.2 != x10.2) then some true else ((laws_likeTexts x9.1 x10.1).bind fun x15 => (bif (!x15) then some true else (bif (x11.2 != x12.2) then some true else ((laws_likeTexts x11.1 x12.1).bind fun x16 => (bif (!x16) then some true else ((impl_IsRegister x8.1).bind fun x17 => ((spec_IsRegister x8.1).bind fun x18 => (bif (!(x17 == x18)) then some true else ((impl_IsPlace x2.2).bind fun x19 => ((spec_IsPlace x2.2).bind fun x20 => some (!(x19 == x20)))))))))))))))))))).bind fun (j21 : Bool) => (bif j21 then some false else (((bif (x6.2 == 0) then ((impl_PlacesIn x6.1 x5.2.2).bind fun x25 => ((impl_PlacesIn x6.1 (w64 (x5.2.2 - 1))).bind fun x26 => (((bif (x25.2 != 0) then some true else (bif (x26.2 != 0) then some true else ((laws_hasText x25.1 x5.2.1).bind fun x27 => (bif x27 then some true else ((laws_hasText x26.1 x5.2.1).bind fun x28 => (bif (!x28) then some true else ((impl_IsRegister x6.1).bind fun x29 => some (!x29))))))))).bind fun (j30 : Bool) => (bif j30 then some (.inr false) else some (.inl ()))))) else some (.inl ()))).bind (Sum.elim (fun (_ : Unit) => (((forG (fun (i34 : Int) (_ : Unit) => ((x11.2 == 0) && (decide (i34 < (x11.1.length : Int))))) (fun (i34 : Int) (_ : Unit) => ((at' x11.1 i34).bind fun x38 => ((impl_PlacesNamed x8.1 x38 x8.2).bind fun x39 => (bif ((x39.2 != 0) || (decide ((x39.1.length : Int) < 2))) then some (.inr (.inr false)) else some (.inl ()))))) (fun (_ : Unit) => .inl ()) 0 ())).bind (Sum.elim (fun (_ : Unit) => (bif (x3.2 != 0) then some true else ((impl_FindPlace x3.1 x2.2.Code).bind fun x40 => (((bif (x40.2 == 0) then ((at' x3.1 x40.1).bind fun x41 => (bif (x41.Code.toList == x2.2.Code.toList) then some ((x3.1.length : Int) == (w64 ((x2.1.length : Int) + 1))) else some false)) else some false)).bind fun (j42 : Bool) => some j42)))) some))) some)))))))))))))))))
theorem laws_FnPlaces_run (aCode : (List Int)) (r : Bool) (h : laws_FnPlaces aCode = some r) : SCall Tryz.prog 5 [.v (vl (eI .u8) aCode)] ⟨[.v (vb r)], [], false⟩ := by
  refine scall_in Tryz.func5 rfl [(.tmp 2)] rfl (fun r => ⟨[.v (vb r)], [], false⟩) (r := r) ?_
  unfold laws_FnPlaces at h
  refine srk tbokGB ⟨252, [(0, vl (eI .u8) aCode)], []⟩ ?_
  refine swp_seq ?_
  refine sr ?_
  refine SRun.ck tbokGB 1 ⟨252, [(0, vl (eI .u8) aCode), (35, vl (eI .u8) aCode)], []⟩ ?_
  obtain ⟨x1, hx1, h⟩ := bind_some h
  refine SRun.ls (xc ents19 (laws_big_run aCode _ hx1)) ?_
  refine SRun.nx ?_
  refine swp_cd h (fun h => ?_) fun h => ?_
  refine srk tbokGB ⟨252, [(2, vb true)], []⟩ ?_
  refine swp_ret ?_
  obtain rfl := inj h
  exact nx_r (q_fr (f1 fv))
  refine swp_skip ?_
  refine nx_n ?_
  refine sr ?_
  refine SRun.ck tbokGB 1 ⟨252, [(0, vl (eI .u8) aCode), (38, vl (eI .u8) aCode)], []⟩ ?_
  obtain ⟨x2, hx2, h⟩ := bind_some h
  refine SRun.ls (xc ents20 (spec_DrawAddPlace_run aCode _ hx2)) ?_
  refine ckn tbokGB 6 ⟨252, [(0, vl (eI .u8) aCode), (3, .own 39), (4, .ref 4 0)], [(4, .box (tc ePlace x2.2)), (39, oa 41 5 ePlace x2.1)]⟩ ?_
  refine sr ?_
  refine SRun.ck tbokGB 2 ⟨252, [(0, vl (eI .u8) aCode), (3, .own 39), (4, .ref 4 0), (43, .own 39), (44, .agg (tc ePlace x2.2))], [(4, .box (tc ePlace x2.2)), (39, oa 41 5 ePlace x2.1)]⟩ ?_
  obtain ⟨x3, hx3, h⟩ := bind_some h
  refine SRun.ls (xc ents16 (impl_AddPlace_run x2.1 x2.2 _ hx3)) ?_
  refine ckn tbokGB 5 ⟨252, [(0, vl (eI .u8) aCode), (3, .own 39), (4, .ref 4 0), (5, .own 45), (6, vi x3.2)], [(4, .box (tc ePlace x2.2)), (39, oa 41 5 ePlace x2.1), (45, .deep 41 5 x3.1.length [.flat, .flat, .flat, .flat, (.sl 95 5 [.flat, .flat, .flat, .flat, .flat])] (x3.1.map ePlace))]⟩ ?_
  refine sr ?_
  refine SRun.ck tbokGB 2 ⟨252, [(0, vl (eI .u8) aCode), (3, .own 39), (4, .ref 4 0), (5, .own 45), (6, vi x3.2), (49, .own 39), (50, .agg (tc ePlace x2.2))], [(4, .box (tc ePlace x2.2)), (39, oa 41 5 ePlace x2.1), (45, .deep 41 5 x3.1.length [.flat, .flat, .flat, .flat, (.sl 95 5 [.flat, .flat, .flat, .flat, .flat])] (x3.1.map ePlace))]⟩ ?_
  obtain ⟨x4, hx4, h⟩ := bind_some h
  refine SRun.ls (xc ents14 (spec_AddPlace_run x2.1 x2.2 _ hx4)) ?_
  refine ckn tbokGB 5 ⟨252, [(0, vl (eI .u8) aCode), (3, .own 39), (4, .ref 4 0), (5, .own 45), (6, vi x3.2), (7, .own 51), (8, vi x4.2)], [(4, .box (tc ePlace x2.2)), (39, oa 41 5 ePlace x2.1), (45, .deep 41 5 x3.1.length [.flat, .flat, .flat, .flat, (.sl 95 5 [.flat, .flat, .flat, .flat, .flat])] (x3.1.map ePlace)), (51, .deep 41 5 x4.1.length [.flat, .flat, .flat, .flat, (.sl 95 5 [.flat, .flat, .flat, .flat, .flat])] (x4.1.map ePlace))]⟩ ?_
  refine sr ?_
  refine SRun.ck tbokGB 1 ⟨252, [(0, vl (eI .u8) aCode), (3, .own 39), (4, .ref 4 0), (5, .own 45), (6, vi x3.2), (7, .own 51), (8, vi x4.2), (55, vl (eI .u8) aCode)], [(4, .box (tc ePlace x2.2)), (39, oa 41 5 ePlace x2.1), (45, .deep 41 5 x3.1.length [.flat, .flat, .flat, .flat, (.sl 95 5 [.flat, .flat, .flat, .flat, .flat])] (x3.1.map ePlace)), (51, .deep 41 5 x4.1.length [.flat, .flat, .flat, .flat, (.sl 95 5 [.flat, .flat, .flat, .flat, .flat])] (x4.1.map ePlace))]⟩ ?_
  obtain ⟨x5, hx5, h⟩ := bind_some h
  refine SRun.ls (xc ents21 (spec_DrawEndPlace_run aCode _ hx5)) ?_
  refine ckn tbokGB 7 ⟨252, [(0, vl (eI .u8) aCode), (3, .own 39), (4, .ref 4 0), (5, .own 45), (6, vi x3.2), (7, .own 51), (8, vi x4.2), (9, vl ePlace x5.1), (10, vs x5.2.1), (11, vi x5.2.2)], [(4, .box (tc ePlace x2.2)), (39, oa 41 5 ePlace x2.1), (45, .deep 41 5 x3.1.length [.flat, .flat, .flat, .flat, (.sl 95 5 [.flat, .flat, .flat, .flat, .flat])] (x3.1.map ePlace)), (51, .deep 41 5 x4.1.length [.flat, .flat, .flat, .flat, (.sl 95 5 [.flat, .flat, .flat, .flat, .flat])] (x4.1.map ePlace))]⟩ ?_
  refine sr ?_
  refine SRun.ck tbokGB 3 ⟨252, [(0, vl (eI .u8) aCode), (3, .own 39), (4, .ref 4 0), (5, .own 45), (6, vi x3.2), (7, .own 51), (8, vi x4.2), (9, vl ePlace x5.1), (10, vs x5.2.1), (11, vi x5.2.2), (61, vl ePlace x5.1), (62, vs x5.2.1), (63, vi x5.2.2)], [(4, .box (tc ePlace x2.2)), (39, oa 41 5 ePlace x2.1), (45, .deep 41 5 x3.1.length [.flat, .flat, .flat, .flat, (.sl 95 5 [.flat, .flat, .flat, .flat, .flat])] (x3.1.map ePlace)), (51, .deep 41 5 x4.1.length [.flat, .flat, .flat, .flat, (.sl 95 5 [.flat, .flat, .flat, .flat, .flat])] (x4.1.map ePlace))]⟩ ?_
  obtain ⟨x6, hx6, h⟩ := bind_some h
  refine SRun.ls (xc ents9 (impl_EndPlace_run x5.1 x5.2.1 x5.2.2 _ hx6)) ?_
  refine ckn tbokGB 5 ⟨252, [(0, vl (eI .u8) aCode), (3, .own 39), (4, .ref 4 0), (5, .own 45), (6, vi x3.2), (7, .own 51), (8, vi x4.2), (9, vl ePlace x5.1), (10, vs x5.2.1), (11, vi x5.2.2), (12, .own 64), (13, vi x6.2)], [(4, .box (tc ePlace x2.2)), (39, oa 41 5 ePlace x2.1), (45, .deep 41 5 x3.1.length [.flat, .flat, .flat, .flat, (.sl 95 5 [.flat, .flat, .flat, .flat, .flat])] (x3.1.map ePlace)), (51, .deep 41 5 x4.1.length [.flat, .flat, .flat, .flat, (.sl 95 5 [.flat, .flat, .flat, .flat, .flat])] (x4.1.map ePlace)), (64, .deep 41 5 x6.1.length [.flat, .flat, .flat, .flat, (.sl 95 5 [.flat, .flat, .flat, .flat, .flat])] (x6.1.map ePlace))]⟩ ?_
  refine sr ?_
  refine SRun.ck tbokGB 3 ⟨252, [(0, vl (eI .u8) aCode), (3, .own 39), (4, .ref 4 0), (5, .own 45), (6, vi x3.2), (7, .own 51), (8, vi x4.2), (10, vs x5.2.1), (11, vi x5.2.2), (12, .own 64), (13, vi x6.2), (68, vl ePlace x5.1), (69, vs x5.2.1), (70, vi x5.2.2)], [(4, .box (tc ePlace x2.2)), (39, oa 41 5 ePlace x2.1), (45, .deep 41 5 x3.1.length [.flat, .flat, .flat, .flat, (.sl 95 5 [.flat, .flat, .flat, .flat, .flat])] (x3.1.map ePlace)), (51, .deep 41 5 x4.1.length [.flat, .flat, .flat, .flat, (.sl 95 5 [.flat, .flat, .flat, .flat, .flat])] (x4.1.map ePlace)), (64, .deep 41 5 x6.1.length [.flat, .flat, .flat, .flat, (.sl 95 5 [.flat, .flat, .flat, .flat, .flat])] (x6.1.map ePlace))]⟩ ?_
  obtain ⟨x7, hx7, h⟩ := bind_some h
  refine SRun.ls (xc ents7 (spec_EndPlace_run x5.1 x5.2.1 x5.2.2 _ hx7)) ?_
  refine ckn tbokGB 5 ⟨252, [(0, vl (eI .u8) aCode), (3, .own 39), (4, .ref 4 0), (5, .own 45), (6, vi x3.2), (7, .own 51), (8, vi x4.2), (10, vs x5.2.1), (11, vi x5.2.2), (12, .own 64), (13, vi x6.2), (14, .own 71), (15, vi x7.2)], [(4, .box (tc ePlace x2.2)), (39, oa 41 5 ePlace x2.1), (45, .deep 41 5 x3.1.length [.flat, .flat, .flat, .flat, (.sl 95 5 [.flat, .flat, .flat, .flat, .flat])] (x3.1.map ePlace)), (51, .deep 41 5 x4.1.length [.flat, .flat, .flat, .flat, (.sl 95 5 [.flat, .flat, .flat, .flat, .flat])] (x4.1.map ePlace)), (64, .deep 41 5 x6.1.length [.flat, .flat, .flat, .flat, (.sl 95 5 [.flat, .flat, .flat, .flat, .flat])] (x6.1.map ePlace)), (71, .deep 41 5 x7.1.length [.flat, .flat, .flat, .flat, (.sl 95 5 [.flat, .flat, .flat, .flat, .flat])] (x7.1.map ePlace))]⟩ ?_
  refine sr ?_
  refine SRun.ck tbokGB 1 ⟨252, [(3, .own 39), (4, .ref 4 0), (5, .own 45), (6, vi x3.2), (7, .own 51), (8, vi x4.2), (10, vs x5.2.1), (11, vi x5.2.2), (12, .own 64), (13, vi x6.2), (14, .own 71), (15, vi x7.2), (75, vl (eI .u8) aCode)], [(4, .box (tc ePlace x2.2)), (39, oa 41 5 ePlace x2.1), (45, .deep 41 5 x3.1.length [.flat, .flat, .flat, .flat, (.sl 95 5 [.flat, .flat, .flat, .flat, .flat])] (x3.1.map ePlace)), (51, .deep 41 5 x4.1.length [.flat, .flat, .flat, .flat, (.sl 95 5 [.flat, .flat, .flat, .flat, .flat])] (x4.1.map ePlace)), (64, .deep 41 5 x6.1.length [.flat, .flat, .flat, .flat, (.sl 95 5 [.flat, .flat, .flat, .flat, .flat])] (x6.1.map ePlace)), (71, .deep 41 5 x7.1.length [.flat, .flat, .flat, .flat, (.sl 95 5 [.flat, .flat, .flat, .flat, .flat])] (x7.1.map ePlace))]⟩ ?_
  obtain ⟨x8, hx8, h⟩ := bind_some h
  refine SRun.ls (xc ents22 (spec_DrawPlacesIn_run aCode _ hx8)) ?_
  refine ckn tbokGB 5 ⟨252, [(3, .own 39), (4, .ref 4 0), (5, .own 45), (6, vi x3.2), (7, .own 51), (8, vi x4.2), (10, vs x5.2.1), (11, vi x5.2.2), (12, .own 64), (13, vi x6.2), (14, .own 71), (15, vi x7.2), (16, .own 76), (17, vi x8.2)], [(4, .box (tc ePlace x2.2)), (39, oa 41 5 ePlace x2.1), (45, .deep 41 5 x3.1.length [.flat, .flat, .flat, .flat, (.sl 95 5 [.flat, .flat, .flat, .flat, .flat])] (x3.1.map ePlace)), (51, .deep 41 5 x4.1.length [.flat, .flat, .flat, .flat, (.sl 95 5 [.flat, .flat, .flat, .flat, .flat])] (x4.1.map ePlace)), (64, .deep 41 5 x6.1.length [.flat, .flat, .flat, .flat, (.sl 95 5 [.flat, .flat, .flat, .flat, .flat])] (x6.1.map ePlace)), (71, .deep 41 5 x7.1.length [.flat, .flat, .flat, .flat, (.sl 95 5 [.flat, .flat, .flat, .flat, .flat])] (x7.1.map ePlace)), (76, oa 41 5 ePlace x8.1)]⟩ ?_
  refine sr ?_
  refine SRun.ck tbokGB 2 ⟨252, [(3, .own 39), (4, .ref 4 0), (5, .own 45), (6, vi x3.2), (7, .own 51), (8, vi x4.2), (10, vs x5.2.1), (11, vi x5.2.2), (12, .own 64), (13, vi x6.2), (14, .own 71), (15, vi x7.2), (16, .own 76), (17, vi x8.2), (80, .own 76), (81, vi x8.2)], [(4, .box (tc ePlace x2.2)), (39, oa 41 5 ePlace x2.1), (45, .deep 41 5 x3.1.length [.flat, .flat, .flat, .flat, (.sl 95 5 [.flat, .flat, .flat, .flat, .flat])] (x3.1.map ePlace)), (51, .deep 41 5 x4.1.length [.flat, .flat, .flat, .flat, (.sl 95 5 [.flat, .flat, .flat, .flat, .flat])] (x4.1.map ePlace)), (64, .deep 41 5 x6.1.length [.flat, .flat, .flat, .flat, (.sl 95 5 [.flat, .flat, .flat, .flat, .flat])] (x6.1.map ePlace)), (71, .deep 41 5 x7.1.length [.flat, .flat, .flat, .flat, (.sl 95 5 [.flat, .flat, .flat, .flat, .flat])] (x7.1.map ePlace)), (76, oa 41 5 ePlace x8.1)]⟩ ?_
  obtain ⟨x9, hx9, h⟩ := bind_some h
  refine SRun.ls (xc ents23 (impl_PlacesIn_run x8.1 x8.2 _ hx9)) ?_
  refine ckn tbokGB 5 ⟨252, [(3, .own 39), (4, .ref 4 0), (5, .own 45), (6, vi x3.2), (7, .own 51), (8, vi x4.2), (10, vs x5.2.1), (11, vi x5.2.2), (12, .own 64), (13, vi x6.2), (14, .own 71), (15, vi x7.2), (16, .own 76), (17, vi x8.2), (18, .own 82), (19, vi x9.2)], [(4, .box (tc ePlace x2.2)), (39, oa 41 5 ePlace x2.1), (45, .deep 41 5 x3.1.length [.flat, .flat, .flat, .flat, (.sl 95 5 [.flat, .flat, .flat, .flat, .flat])] (x3.1.map ePlace)), (51, .deep 41 5 x4.1.length [.flat, .flat, .flat, .flat, (.sl 95 5 [.flat, .flat, .flat, .flat, .flat])] (x4.1.map ePlace)), (64, .deep 41 5 x6.1.length [.flat, .flat, .flat, .flat, (.sl 95 5 [.flat, .flat, .flat, .flat, .flat])] (x6.1.map ePlace)), (71, .deep 41 5 x7.1.length [.flat, .flat, .flat, .flat, (.sl 95 5 [.flat, .flat, .flat, .flat, .flat])] (x7.1.map ePlace)), (76, oa 41 5 ePlace x8.1), (82, oa 9 1 eS x9.1)]⟩ ?_
  refine sr ?_
  refine SRun.ck tbokGB 2 ⟨252, [(3, .own 39), (4, .ref 4 0), (5, .own 45), (6, vi x3.2), (7, .own 51), (8, vi x4.2), (10, vs x5.2.1), (11, vi x5.2.2), (12, .own 64), (13, vi x6.2), (14, .own 71), (15, vi x7.2), (16, .own 76), (17, vi x8.2), (18, .own 82), (19, vi x9.2), (86, .own 76), (87, vi x8.2)], [(4, .box (tc ePlace x2.2)), (39, oa 41 5 ePlace x2.1), (45, .deep 41 5 x3.1.length [.flat, .flat, .flat, .flat, (.sl 95 5 [.flat, .flat, .flat, .flat, .flat])] (x3.1.map ePlace)), (51, .deep 41 5 x4.1.length [.flat, .flat, .flat, .flat, (.sl 95 5 [.flat, .flat, .flat, .flat, .flat])] (x4.1.map ePlace)), (64, .deep 41 5 x6.1.length [.flat, .flat, .flat, .flat, (.sl 95 5 [.flat, .flat, .flat, .flat, .flat])] (x6.1.map ePlace)), (71, .deep 41 5 x7.1.length [.flat, .flat, .flat, .flat, (.sl 95 5 [.flat, .flat, .flat, .flat, .flat])] (x7.1.map ePlace)), (76, oa 41 5 ePlace x8.1), (82, oa 9 1 eS x9.1)]⟩ ?_
  obtain ⟨x10, hx10, h⟩ := bind_some h
  refine SRun.ls (xc ents24 (spec_PlacesIn_run x8.1 x8.2 _ hx10)) ?_
  refine ckn tbokGB 5 ⟨252, [(3, .own 39), (4, .ref 4 0), (5, .own 45), (6, vi x3.2), (7, .own 51), (8, vi x4.2), (10, vs x5.2.1), (11, vi x5.2.2), (12, .own 64), (13, vi x6.2), (14, .own 71), (15, vi x7.2), (16, .own 76), (17, vi x8.2), (18, .own 82), (19, vi x9.2), (20, .own 88), (21, vi x10.2)], [(4, .box (tc ePlace x2.2)), (39, oa 41 5 ePlace x2.1), (45, .deep 41 5 x3.1.length [.flat, .flat, .flat, .flat, (.sl 95 5 [.flat, .flat, .flat, .flat, .flat])] (x3.1.map ePlace)), (51, .deep 41 5 x4.1.length [.flat, .flat, .flat, .flat, (.sl 95 5 [.flat, .flat, .flat, .flat, .flat])] (x4.1.map ePlace)), (64, .deep 41 5 x6.1.length [.flat, .flat, .flat, .flat, (.sl 95 5 [.flat, .flat, .flat, .flat, .flat])] (x6.1.map ePlace)), (71, .deep 41 5 x7.1.length [.flat, .flat, .flat, .flat, (.sl 95 5 [.flat, .flat, .flat, .flat, .flat])] (x7.1.map ePlace)), (76, oa 41 5 ePlace x8.1), (82, oa 9 1 eS x9.1), (88, oa 9 1 eS x10.1)]⟩ ?_
  refine sr ?_
  refine SRun.ck tbokGB 2 ⟨252, [(3, .own 39), (4, .ref 4 0), (5, .own 45), (6, vi x3.2), (7, .own 51), (8, vi x4.2), (10, vs x5.2.1), (11, vi x5.2.2), (12, .own 64), (13, vi x6.2), (14, .own 71), (15, vi x7.2), (16, .own 76), (17, vi x8.2), (18, .own 82), (19, vi x9.2), (20, .own 88), (21, vi x10.2), (92, .own 76), (93, vi x8.2)], [(4, .box (tc ePlace x2.2)), (39, oa 41 5 ePlace x2.1), (45, .deep 41 5 x3.1.length [.flat, .flat, .flat, .flat, (.sl 95 5 [.flat, .flat, .flat, .flat, .flat])] (x3.1.map ePlace)), (51, .deep 41 5 x4.1.length [.flat, .flat, .flat, .flat, (.sl 95 5 [.flat, .flat, .flat, .flat, .flat])] (x4.1.map ePlace)), (64, .deep 41 5 x6.1.length [.flat, .flat, .flat, .flat, (.sl 95 5 [.flat, .flat, .flat, .flat, .flat])] (x6.1.map ePlace)), (71, .deep 41 5 x7.1.length [.flat, .flat, .flat, .flat, (.sl 95 5 [.flat, .flat, .flat, .flat, .flat])] (x7.1.map ePlace)), (76, oa 41 5 ePlace x8.1), (82, oa 9 1 eS x9.1), (88, oa 9 1 eS x10.1)]⟩ ?_
  obtain ⟨x11, hx11, h⟩ := bind_some h
  refine SRun.ls (xc ents25 (impl_HomonymsIn_run x8.1 x8.2 _ hx11)) ?_
  refine ckn tbokGB 5 ⟨252, [(3, .own 39), (4, .ref 4 0), (5, .own 45), (6, vi x3.2), (7, .own 51), (8, vi x4.2), (10, vs x5.2.1), (11, vi x5.2.2), (12, .own 64), (13, vi x6.2), (14, .own 71), (15, vi x7.2), (16, .own 76), (17, vi x8.2), (18, .own 82), (19, vi x9.2), (20, .own 88), (21, vi x10.2), (22, .own 94), (23, vi x11.2)], [(4, .box (tc ePlace x2.2)), (39, oa 41 5 ePlace x2.1), (45, .deep 41 5 x3.1.length [.flat, .flat, .flat, .flat, (.sl 95 5 [.flat, .flat, .flat, .flat, .flat])] (x3.1.map ePlace)), (51, .deep 41 5 x4.1.length [.flat, .flat, .flat, .flat, (.sl 95 5 [.flat, .flat, .flat, .flat, .flat])] (x4.1.map ePlace)), (64, .deep 41 5 x6.1.length [.flat, .flat, .flat, .flat, (.sl 95 5 [.flat, .flat, .flat, .flat, .flat])] (x6.1.map ePlace)), (71, .deep 41 5 x7.1.length [.flat, .flat, .flat, .flat, (.sl 95 5 [.flat, .flat, .flat, .flat, .flat])] (x7.1.map ePlace)), (76, oa 41 5 ePlace x8.1), (82, oa 9 1 eS x9.1), (88, oa 9 1 eS x10.1), (94, oa 9 1 eS x11.1)]⟩ ?_
  refine sr ?_
  refine SRun.ck tbokGB 2 ⟨252, [(3, .own 39), (4, .ref 4 0), (5, .own 45), (6, vi x3.2), (7, .own 51), (8, vi x4.2), (10, vs x5.2.1), (11, vi x5.2.2), (12, .own 64), (13, vi x6.2), (14, .own 71), (15, vi x7.2), (16, .own 76), (17, vi x8.2), (18, .own 82), (19, vi x9.2), (20, .own 88), (21, vi x10.2), (22, .own 94), (23, vi x11.2), (98, .own 76), (99, vi x8.2)], [(4, .box (tc ePlace x2.2)), (39, oa 41 5 ePlace x2.1), (45, .deep 41 5 x3.1.length [.flat, .flat, .flat, .flat, (.sl 95 5 [.flat, .flat, .flat, .flat, .flat])] (x3.1.map ePlace)), (51, .deep 41 5 x4.1.length [.flat, .flat, .flat, .flat, (.sl 95 5 [.flat, .flat, .flat, .flat, .flat])] (x4.1.map ePlace)), (64, .deep 41 5 x6.1.length [.flat, .flat, .flat, .flat, (.sl 95 5 [.flat, .flat, .flat, .flat, .flat])] (x6.1.map ePlace)), (71, .deep 41 5 x7.1.length [.flat, .flat, .flat, .flat, (.sl 95 5 [.flat, .flat, .flat, .flat, .flat])] (x7.1.map ePlace)), (76, oa 41 5 ePlace x8.1), (82, oa 9 1 eS x9.1), (88, oa 9 1 eS x10.1), (94, oa 9 1 eS x11.1)]⟩ ?_
  refine SRun.le (Le.frz' (d := 76) (e := 41) (m := 5) (n := x8.1.length) (es := x8.1.map ePlace) (by kernel_rfl) (by kernel_rfl)) ?_
  obtain ⟨x12, hx12, h⟩ := bind_some h
  refine SRun.ls (xc ents26 (spec_HomonymsIn_run x8.1 x8.2 _ hx12)) ?_
  refine ckn tbokGB 5 ⟨252, [(3, .own 39), (4, .ref 4 0), (5, .own 45), (6, vi x3.2), (7, .own 51), (8, vi x4.2), (10, vs x5.2.1), (11, vi x5.2.2), (12, .own 64), (13, vi x6.2), (14, .own 71), (15, vi x7.2), (16, vl ePlace x8.1), (17, vi x8.2), (18, .own 82), (19, vi x9.2), (20, .own 88), (21, vi x10.2), (22, .own 94), (23, vi x11.2), (24, vl eS x12.1), (25, vi x12.2)], [(4, .box (tc ePlace x2.2)), (39, oa 41 5 ePlace x2.1), (45, .deep 41 5 x3.1.length [.flat, .flat, .flat, .flat, (.sl 95 5 [.flat, .flat, .flat, .flat, .flat])] (x3.1.map ePlace)), (51, .deep 41 5 x4.1.length [.flat, .flat, .flat, .flat, (.sl 95 5 [.flat, .flat, .flat, .flat, .flat])] (x4.1.map ePlace)), (64, .deep 41 5 x6.1.length [.flat, .flat, .flat, .flat, (.sl 95 5 [.flat, .flat, .flat, .flat, .flat])] (x6.1.map ePlace)), (71, .deep 41 5 x7.1.length [.flat, .flat, .flat, .flat, (.sl 95 5 [.flat, .flat, .flat, .flat, .flat])] (x7.1.map ePlace)), (82, oa 9 1 eS x9.1), (88, oa 9 1 eS x10.1), (94, oa 9 1 eS x11.1)]⟩ ?_
  refine swp_seq ?_
  refine swp_seq ?_
  refine swp_drJ mixed h (fun j21 => ⟨252, [(3, .own 3), (4, .ref 4 0), (5, .own 5), (6, vi x3.2), (10, vs x5.2.1), (11, vi x5.2.2), (12, .own 12), (13, vi x6.2), (16, vl ePlace x8.1), (17, vi x8.2), (22, .own 22), (23, vi x11.2), (158, vb j21)], [(4, .box (tc ePlace x2.2)), (3, oa 41 5 ePlace x2.1), (5, .deep 41 5 x3.1.length [.flat, .flat, .flat, .flat, (.sl 95 5 [.flat, .flat, .flat, .flat, .flat])] (x3.1.map ePlace)), (12, .deep 41 5 x6.1.length [.flat, .flat, .flat, .flat, (.sl 95 5 [.flat, .flat, .flat, .flat, .flat])] (x6.1.map ePlace)), (22, oa 9 1 eS x11.1)]⟩) (fun v22 h => ?_) (fun j21 h => ?_)
  refine DGo.ck tbokGB false 4 ⟨252, [(3, .own 39), (4, .ref 4 0), (5, .own 45), (6, vi x3.2), (7, .own 51), (10, vs x5.2.1), (11, vi x5.2.2), (12, .own 64), (13, vi x6.2), (14, .own 71), (15, vi x7.2), (16, vl ePlace x8.1), (17, vi x8.2), (18, .own 82), (19, vi x9.2), (20, .own 88), (21, vi x10.2), (22, .own 94), (23, vi x11.2), (24, vl eS x12.1), (25, vi x12.2), (106, vb (x3.2 != x4.2))], [(4, .box (tc ePlace x2.2)), (39, oa 41 5 ePlace x2.1), (45, .deep 41 5 x3.1.length [.flat, .flat, .flat, .flat, (.sl 95 5 [.flat, .flat, .flat, .flat, .flat])] (x3.1.map ePlace)), (51, .deep 41 5 x4.1.length [.flat, .flat, .flat, .flat, (.sl 95 5 [.flat, .flat, .flat, .flat, .flat])] (x4.1.map ePlace)), (64, .deep 41 5 x6.1.length [.flat, .flat, .flat, .flat, (.sl 95 5 [.flat, .flat, .flat, .flat, .flat])] (x6.1.map ePlace)), (71, .deep 41 5 x7.1.length [.flat, .flat, .flat, .flat, (.sl 95 5 [.flat, .flat, .flat, .flat, .flat])] (x7.1.map ePlace)), (82, oa 9 1 eS x9.1), (88, oa 9 1 eS x10.1), (94, oa 9 1 eS x11.1)]⟩ ?_
  refine DGo.cu [(106, fun b => b)] h (fun h => ?_) fun h => ?_
  refine DGo.ck tbokGB false 52 ⟨252, [(3, .own 39), (4, .ref 4 0), (5, .own 45), (6, vi x3.2), (10, vs x5.2.1), (11, vi x5.2.2), (12, .own 64), (13, vi x6.2), (16, vl ePlace x8.1), (17, vi x8.2), (22, .own 94), (23, vi x11.2), (158, vb true)], [(4, .box (tc ePlace x2.2)), (39, oa 41 5 ePlace x2.1), (45, .deep 41 5 x3.1.length [.flat, .flat, .flat, .flat, (.sl 95 5 [.flat, .flat, .flat, .flat, .flat])] (x3.1.map ePlace)), (64, .deep 41 5 x6.1.length [.flat, .flat, .flat, .flat, (.sl 95 5 [.flat, .flat, .flat, .flat, .flat])] (x6.1.map ePlace)), (94, oa 9 1 eS x11.1)]⟩ ?_
  refine DGo.nil (by kernel_rfl) ?_
  obtain rfl := inj h
  exact Le.rr [4, 39, 45, 64, 94] [(39, 3), (45, 5), (64, 12), (94, 22)]
  refine DGo.ck tbokGB false 2 ⟨252, [(3, .own 39), (4, .ref 4 0), (5, .own 45), (6, vi x3.2), (10, vs x5.2.1), (11, vi x5.2.2), (12, .own 64), (13, vi x6.2), (14, .own 71), (15, vi x7.2), (16, vl ePlace x8.1), (17, vi x8.2), (18, .own 82), (19, vi x9.2), (20, .own 88), (21, vi x10.2), (22, .own 94), (23, vi x11.2), (24, vl eS x12.1), (25, vi x12.2), (106, vb false), (107, .own 45), (108, .own 51)], [(4, .box (tc ePlace x2.2)), (39, oa 41 5 ePlace x2.1), (45, .deep 41 5 x3.1.length [.flat, .flat, .flat, .flat, (.sl 95 5 [.flat, .flat, .flat, .flat, .flat])] (x3.1.map ePlace)), (51, .deep 41 5 x4.1.length [.flat, .flat, .flat, .flat, (.sl 95 5 [.flat, .flat, .flat, .flat, .flat])] (x4.1.map ePlace)), (64, .deep 41 5 x6.1.length [.flat, .flat, .flat, .flat, (.sl 95 5 [.flat, .flat, .flat, .flat, .flat])] (x6.1.map ePlace)), (71, .deep 41 5 x7.1.length [.flat, .flat, .flat, .flat, (.sl 95 5 [.flat, .flat, .flat, .flat, .flat])] (x7.1.map ePlace)), (82, oa 9 1 eS x9.1), (88, oa 9 1 eS x10.1), (94, oa 9 1 eS x11.1)]⟩ ?_
  obtain ⟨x13, hx13, h⟩ := bind_some h
  refine DGo.step (xc ents27 (laws_likePlaces_run x3.1 x4.1 _ hx13)) ?_
  refine DGo.ck tbokGB false 3 ⟨252, [(3, .own 39), (4, .ref 4 0), (5, .own 45), (6, vi x3.2), (10, vs x5.2.1), (11, vi x5.2.2), (12, .own 64), (13, vi x6.2), (14, .own 71), (15, vi x7.2), (16, vl ePlace x8.1), (17, vi x8.2), (18, .own 82), (19, vi x9.2), (20, .own 88), (21, vi x10.2), (22, .own 94), (23, vi x11.2), (24, vl eS x12.1), (25, vi x12.2), (112, vb (!x13))], [(4, .box (tc ePlace x2.2)), (39, oa 41 5 ePlace x2.1), (45, .deep 41 5 x3.1.length [.flat, .flat, .flat, .flat, (.sl 95 5 [.flat, .flat, .flat, .flat, .flat])] (x3.1.map ePlace)), (64, .deep 41 5 x6.1.length [.flat, .flat, .flat, .flat, (.sl 95 5 [.flat, .flat, .flat, .flat, .flat])] (x6.1.map ePlace)), (71, .deep 41 5 x7.1.length [.flat, .flat, .flat, .flat, (.sl 95 5 [.flat, .flat, .flat, .flat, .flat])] (x7.1.map ePlace)), (82, oa 9 1 eS x9.1), (88, oa 9 1 eS x10.1), (94, oa 9 1 eS x11.1)]⟩ ?_
  refine DGo.cu [(112, fun b => b)] h (fun h => ?_) fun h => ?_
  refine DGo.ck tbokGB false 46 ⟨252, [(3, .own 39), (4, .ref 4 0), (5, .own 45), (6, vi x3.2), (10, vs x5.2.1), (11, vi x5.2.2), (12, .own 64), (13, vi x6.2), (16, vl ePlace x8.1), (17, vi x8.2), (22, .own 94), (23, vi x11.2), (158, vb true)], [(4, .box (tc ePlace x2.2)), (39, oa 41 5 ePlace x2.1), (45, .deep 41 5 x3.1.length [.flat, .flat, .flat, .flat, (.sl 95 5 [.flat, .flat, .flat, .flat, .flat])] (x3.1.map ePlace)), (64, .deep 41 5 x6.1.length [.flat, .flat, .flat, .flat, (.sl 95 5 [.flat, .flat, .flat, .flat, .flat])] (x6.1.map ePlace)), (94, oa 9 1 eS x11.1)]⟩ ?_
  refine DGo.nil (by kernel_rfl) ?_
  obtain rfl := inj h
  exact Le.rr [4, 39, 45, 64, 94] [(39, 3), (45, 5), (64, 12), (94, 22)]
  refine DGo.ck tbokGB false 5 ⟨252, [(3, .own 39), (4, .ref 4 0), (5, .own 45), (6, vi x3.2), (10, vs x5.2.1), (11, vi x5.2.2), (12, .own 64), (13, vi x6.2), (14, .own 71), (16, vl ePlace x8.1), (17, vi x8.2), (18, .own 82), (19, vi x9.2), (20, .own 88), (21, vi x10.2), (22, .own 94), (23, vi x11.2), (24, vl eS x12.1), (25, vi x12.2), (117, vb (x6.2 != x7.2))], [(4, .box (tc ePlace x2.2)), (39, oa 41 5 ePlace x2.1), (45, .deep 41 5 x3.1.length [.flat, .flat, .flat, .flat, (.sl 95 5 [.flat, .flat, .flat, .flat, .flat])] (x3.1.map ePlace)), (64, .deep 41 5 x6.1.length [.flat, .flat, .flat, .flat, (.sl 95 5 [.flat, .flat, .flat, .flat, .flat])] (x6.1.map ePlace)), (71, .deep 41 5 x7.1.length [.flat, .flat, .flat, .flat, (.sl 95 5 [.flat, .flat, .flat, .flat, .flat])] (x7.1.map ePlace)), (82, oa 9 1 eS x9.1), (88, oa 9 1 eS x10.1), (94, oa 9 1 eS x11.1)]⟩ ?_
  refine DGo.cu [(117, fun b => b)] h (fun h => ?_) fun h => ?_
  refine DGo.ck tbokGB false 41 ⟨252, [(3, .own 39), (4, .ref 4 0), (5, .own 45), (6, vi x3.2), (10, vs x5.2.1), (11, vi x5.2.2), (12, .own 64), (13, vi x6.2), (16, vl ePlace x8.1), (17, vi x8.2), (22, .own 94), (23, vi x11.2), (158, vb true)], [(4, .box (tc ePlace x2.2)), (39, oa 41 5 ePlace x2.1), (45, .deep 41 5 x3.1.length [.flat, .flat, .flat, .flat, (.sl 95 5 [.flat, .flat, .flat, .flat, .flat])] (x3.1.map ePlace)), (64, .deep 41 5 x6.1.length [.flat, .flat, .flat, .flat, (.sl 95 5 [.flat, .flat, .flat, .flat, .flat])] (x6.1.map ePlace)), (94, oa 9 1 eS x11.1)]⟩ ?_
  refine DGo.nil (by kernel_rfl) ?_
  obtain rfl := inj h
  exact Le.rr [4, 39, 45, 64, 94] [(39, 3), (45, 5), (64, 12), (94, 22)]
  refine DGo.ck tbokGB false 2 ⟨252, [(3, .own 39), (4, .ref 4 0), (5, .own 45), (6, vi x3.2), (10, vs x5.2.1), (11, vi x5.2.2), (12, .own 64), (13, vi x6.2), (16, vl ePlace x8.1), (17, vi x8.2), (18, .own 82), (19, vi x9.2), (20, .own 88), (21, vi x10.2), (22, .own 94), (23, vi x11.2), (24, vl eS x12.1), (25, vi x12.2), (117, vb false), (118, .own 64), (119, .own 71)], [(4, .box (tc ePlace x2.2)), (39, oa 41 5 ePlace x2.1), (45, .deep 41 5 x3.1.length [.flat, .flat, .flat, .flat, (.sl 95 5 [.flat, .flat, .flat, .flat, .flat])] (x3.1.map ePlace)), (64, .deep 41 5 x6.1.length [.flat, .flat, .flat, .flat, (.sl 95 5 [.flat, .flat, .flat, .flat, .flat])] (x6.1.map ePlace)), (71, .deep 41 5 x7.1.length [.flat, .flat, .flat, .flat, (.sl 95 5 [.flat, .flat, .flat, .flat, .flat])] (x7.1.map ePlace)), (82, oa 9 1 eS x9.1), (88, oa 9 1 eS x10.1), (94, oa 9 1 eS x11.1)]⟩ ?_
  obtain ⟨x14, hx14, h⟩ := bind_some h
  refine DGo.step (xc ents27 (laws_likePlaces_run x6.1 x7.1 _ hx14)) ?_
  refine DGo.ck tbokGB false 3 ⟨252, [(3, .own 39), (4, .ref 4 0), (5, .own 45), (6, vi x3.2), (10, vs x5.2.1), (11, vi x5.2.2), (12, .own 64), (13, vi x6.2), (16, vl ePlace x8.1), (17, vi x8.2), (18, .own 82), (19, vi x9.2), (20, .own 88), (21, vi x10.2), (22, .own 94), (23, vi x11.2), (24, vl eS x12.1), (25, vi x12.2), (123, vb (!x14))], [(4, .box (tc ePlace x2.2)), (39, oa 41 5 ePlace x2.1), (45, .deep 41 5 x3.1.length [.flat, .flat, .flat, .flat, (.sl 95 5 [.flat, .flat, .flat, .flat, .flat])] (x3.1.map ePlace)), (64, .deep 41 5 x6.1.length [.flat, .flat, .flat, .flat, (.sl 95 5 [.flat, .flat, .flat, .flat, .flat])] (x6.1.map ePlace)), (82, oa 9 1 eS x9.1), (88, oa 9 1 eS x10.1), (94, oa 9 1 eS x11.1)]⟩ ?_
  refine DGo.cu [(123, fun b => b)] h (fun h => ?_) fun h => ?_
  refine DGo.ck tbokGB false 35 ⟨252, [(3, .own 39), (4, .ref 4 0), (5, .own 45), (6, vi x3.2), (10, vs x5.2.1), (11, vi x5.2.2), (12, .own 64), (13, vi x6.2), (16, vl ePlace x8.1), (17, vi x8.2), (22, .own 94), (23, vi x11.2), (158, vb true)], [(4, .box (tc ePlace x2.2)), (39, oa 41 5 ePlace x2.1), (45, .deep 41 5 x3.1.length [.flat, .flat, .flat, .flat, (.sl 95 5 [.flat, .flat, .flat, .flat, .flat])] (x3.1.map ePlace)), (64, .deep 41 5 x6.1.length [.flat, .flat, .flat, .flat, (.sl 95 5 [.flat, .flat, .flat, .flat, .flat])] (x6.1.map ePlace)), (94, oa 9 1 eS x11.1)]⟩ ?_
  refine DGo.nil (by kernel_rfl) ?_
  obtain rfl := inj h
  exact Le.rr [4, 39, 45, 64, 94] [(39, 3), (45, 5), (64, 12), (94, 22)]
  refine DGo.ck tbokGB false 5 ⟨252, [(3, .own 39), (4, .ref 4 0), (5, .own 45), (6, vi x3.2), (10, vs x5.2.1), (11, vi x5.2.2), (12, .own 64), (13, vi x6.2), (16, vl ePlace x8.1), (17, vi x8.2), (18, .own 82), (20, .own 88), (22, .own 94), (23, vi x11.2), (24, vl eS x12.1), (25, vi x12.2), (128, vb (x9.2 != x10.2))], [(4, .box (tc ePlace x2.2)), (39, oa 41 5 ePlace x2.1), (45, .deep 41 5 x3.1.length [.flat, .flat, .flat, .flat, (.sl 95 5 [.flat, .flat, .flat, .flat, .flat])] (x3.1.map ePlace)), (64, .deep 41 5 x6.1.length [.flat, .flat, .flat, .flat, (.sl 95 5 [.flat, .flat, .flat, .flat, .flat])] (x6.1.map ePlace)), (82, oa 9 1 eS x9.1), (88, oa 9 1 eS x10.1), (94, oa 9 1 eS x11.1)]⟩ ?_
  refine DGo.cu [(128, fun b => b)] h (fun h => ?_) fun h => ?_
  refine DGo.ck tbokGB false 30 ⟨252, [(3, .own 39), (4, .ref 4 0), (5, .own 45), (6, vi x3.2), (10, vs x5.2.1), (11, vi x5.2.2), (12, .own 64), (13, vi x6.2), (16, vl ePlace x8.1), (17, vi x8.2), (22, .own 94), (23, vi x11.2), (158, vb true)], [(4, .box (tc ePlace x2.2)), (39, oa 41 5 ePlace x2.1), (45, .deep 41 5 x3.1.length [.flat, .flat, .flat, .flat, (.sl 95 5 [.flat, .flat, .flat, .flat, .flat])] (x3.1.map ePlace)), (64, .deep 41 5 x6.1.length [.flat, .flat, .flat, .flat, (.sl 95 5 [.flat, .flat, .flat, .flat, .flat])] (x6.1.map ePlace)), (94, oa 9 1 eS x11.1)]⟩ ?_
  refine DGo.nil (by kernel_rfl) ?_
  obtain rfl := inj h
  exact Le.rr [4, 39, 45, 64, 94] [(39, 3), (45, 5), (64, 12), (94, 22)]
  refine DGo.ck tbokGB false 2 ⟨252, [(3, .own 39), (4, .ref 4 0), (5, .own 45), (6, vi x3.2), (10, vs x5.2.1), (11, vi x5.2.2), (12, .own 64), (13, vi x6.2), (16, vl ePlace x8.1), (17, vi x8.2), (22, .own 94), (23, vi x11.2), (24, vl eS x12.1), (25, vi x12.2), (128, vb false), (129, .own 82), (130, .own 88)], [(4, .box (tc ePlace x2.2)), (39, oa 41 5 ePlace x2.1), (45, .deep 41 5 x3.1.length [.flat, .flat, .flat, .flat, (.sl 95 5 [.flat, .flat, .flat, .flat, .flat])] (x3.1.map ePlace)), (64, .deep 41 5 x6.1.length [.flat, .flat, .flat, .flat, (.sl 95 5 [.flat, .flat, .flat, .flat, .flat])] (x6.1.map ePlace)), (82, oa 9 1 eS x9.1), (88, oa 9 1 eS x10.1), (94, oa 9 1 eS x11.1)]⟩ ?_
  obtain ⟨x15, hx15, h⟩ := bind_some h
  refine DGo.step (xc ents28 (laws_likeTexts_run x9.1 x10.1 _ hx15)) ?_
  refine DGo.ck tbokGB false 3 ⟨252, [(3, .own 39), (4, .ref 4 0), (5, .own 45), (6, vi x3.2), (10, vs x5.2.1), (11, vi x5.2.2), (12, .own 64), (13, vi x6.2), (16, vl ePlace x8.1), (17, vi x8.2), (22, .own 94), (23, vi x11.2), (24, vl eS x12.1), (25, vi x12.2), (134, vb (!x15))], [(4, .box (tc ePlace x2.2)), (39, oa 41 5 ePlace x2.1), (45, .deep 41 5 x3.1.length [.flat, .flat, .flat, .flat, (.sl 95 5 [.flat, .flat, .flat, .flat, .flat])] (x3.1.map ePlace)), (64, .deep 41 5 x6.1.length [.flat, .flat, .flat, .flat, (.sl 95 5 [.flat, .flat, .flat, .flat, .flat])] (x6.1.map ePlace)), (94, oa 9 1 eS x11.1)]⟩ ?_
  refine DGo.cu [(134, fun b => b)] h (fun h => ?_) fun h => ?_
  refine DGo.ck tbokGB false 24 ⟨252, [(3, .own 39), (4, .ref 4 0), (5, .own 45), (6, vi x3.2), (10, vs x5.2.1), (11, vi x5.2.2), (12, .own 64), (13, vi x6.2), (16, vl ePlace x8.1), (17, vi x8.2), (22, .own 94), (23, vi x11.2), (158, vb true)], [(4, .box (tc ePlace x2.2)), (39, oa 41 5 ePlace x2.1), (45, .deep 41 5 x3.1.length [.flat, .flat, .flat, .flat, (.sl 95 5 [.flat, .flat, .flat, .flat, .flat])] (x3.1.map ePlace)), (64, .deep 41 5 x6.1.length [.flat, .flat, .flat, .flat, (.sl 95 5 [.flat, .flat, .flat, .flat, .flat])] (x6.1.map ePlace)), (94, oa 9 1 eS x11.1)]⟩ ?_
  refine DGo.nil (by kernel_rfl) ?_
  obtain rfl := inj h
  exact Le.rr [4, 39, 45, 64, 94] [(39, 3), (45, 5), (64, 12), (94, 22)]
  refine DGo.ck tbokGB false 5 ⟨252, [(3, .own 39), (4, .ref 4 0), (5, .own 45), (6, vi x3.2), (10, vs x5.2.1), (11, vi x5.2.2), (12, .own 64), (13, vi x6.2), (16, vl ePlace x8.1), (17, vi x8.2), (22, .own 94), (23, vi x11.2), (24, vl eS x12.1), (139, vb (x11.2 != x12.2))], [(4, .box (tc ePlace x2.2)), (39, oa 41 5 ePlace x2.1), (45, .deep 41 5 x3.1.length [.flat, .flat, .flat, .flat, (.sl 95 5 [.flat, .flat, .flat, .flat, .flat])] (x3.1.map ePlace)), (64, .deep 41 5 x6.1.length [.flat, .flat, .flat, .flat, (.sl 95 5 [.flat, .flat, .flat, .flat, .flat])] (x6.1.map ePlace)), (94, oa 9 1 eS x11.1)]⟩ ?_
  refine DGo.cu [(139, fun b => b)] h (fun h => ?_) fun h => ?_
  refine DGo.ck tbokGB false 19 ⟨252, [(3, .own 39), (4, .ref 4 0), (5, .own 45), (6, vi x3.2), (10, vs x5.2.1), (11, vi x5.2.2), (12, .own 64), (13, vi x6.2), (16, vl ePlace x8.1), (17, vi x8.2), (22, .own 94), (23, vi x11.2), (158, vb true)], [(4, .box (tc ePlace x2.2)), (39, oa 41 5 ePlace x2.1), (45, .deep 41 5 x3.1.length [.flat, .flat, .flat, .flat, (.sl 95 5 [.flat, .flat, .flat, .flat, .flat])] (x3.1.map ePlace)), (64, .deep 41 5 x6.1.length [.flat, .flat, .flat, .flat, (.sl 95 5 [.flat, .flat, .flat, .flat, .flat])] (x6.1.map ePlace)), (94, oa 9 1 eS x11.1)]⟩ ?_
  refine DGo.nil (by kernel_rfl) ?_
  obtain rfl := inj h
  exact Le.rr [4, 39, 45, 64, 94] [(39, 3), (45, 5), (64, 12), (94, 22)]
  refine DGo.ck tbokGB false 2 ⟨252, [(3, .own 39), (4, .ref 4 0), (5, .own 45), (6, vi x3.2), (10, vs x5.2.1), (11, vi x5.2.2), (12, .own 64), (13, vi x6.2), (16, vl ePlace x8.1), (17, vi x8.2), (22, .own 94), (23, vi x11.2), (139, vb false), (140, .own 94), (141, vl eS x12.1)], [(4, .box (tc ePlace x2.2)), (39, oa 41 5 ePlace x2.1), (45, .deep 41 5 x3.1.length [.flat, .flat, .flat, .flat, (.sl 95 5 [.flat, .flat, .flat, .flat, .flat])] (x3.1.map ePlace)), (64, .deep 41 5 x6.1.length [.flat, .flat, .flat, .flat, (.sl 95 5 [.flat, .flat, .flat, .flat, .flat])] (x6.1.map ePlace)), (94, oa 9 1 eS x11.1)]⟩ ?_
  obtain ⟨x16, hx16, h⟩ := bind_some h
  refine DGo.step (xc ents28 (laws_likeTexts_run x11.1 x12.1 _ hx16)) ?_
  refine DGo.ck tbokGB false 3 ⟨252, [(3, .own 39), (4, .ref 4 0), (5, .own 45), (6, vi x3.2), (10, vs x5.2.1), (11, vi x5.2.2), (12, .own 64), (13, vi x6.2), (16, vl ePlace x8.1), (17, vi x8.2), (22, .own 94), (23, vi x11.2), (145, vb (!x16))], [(4, .box (tc ePlace x2.2)), (39, oa 41 5 ePlace x2.1), (45, .deep 41 5 x3.1.length [.flat, .flat, .flat, .flat, (.sl 95 5 [.flat, .flat, .flat, .flat, .flat])] (x3.1.map ePlace)), (64, .deep 41 5 x6.1.length [.flat, .flat, .flat, .flat, (.sl 95 5 [.flat, .flat, .flat, .flat, .flat])] (x6.1.map ePlace)), (94, oa 9 1 eS x11.1)]⟩ ?_
  refine DGo.cu [(145, fun b => b)] h (fun h => ?_) fun h => ?_
  refine DGo.ck tbokGB false 13 ⟨252, [(3, .own 39), (4, .ref 4 0), (5, .own 45), (6, vi x3.2), (10, vs x5.2.1), (11, vi x5.2.2), (12, .own 64), (13, vi x6.2), (16, vl ePlace x8.1), (17, vi x8.2), (22, .own 94), (23, vi x11.2), (158, vb true)], [(4, .box (tc ePlace x2.2)), (39, oa 41 5 ePlace x2.1), (45, .deep 41 5 x3.1.length [.flat, .flat, .flat, .flat, (.sl 95 5 [.flat, .flat, .flat, .flat, .flat])] (x3.1.map ePlace)), (64, .deep 41 5 x6.1.length [.flat, .flat, .flat, .flat, (.sl 95 5 [.flat, .flat, .flat, .flat, .flat])] (x6.1.map ePlace)), (94, oa 9 1 eS x11.1)]⟩ ?_
  refine DGo.nil (by kernel_rfl) ?_
  obtain rfl := inj h
  exact Le.rr [4, 39, 45, 64, 94] [(39, 3), (45, 5), (64, 12), (94, 22)]
  refine DGo.ck tbokGB false 1 ⟨252, [(3, .own 39), (4, .ref 4 0), (5, .own 45), (6, vi x3.2), (10, vs x5.2.1), (11, vi x5.2.2), (12, .own 64), (13, vi x6.2), (16, vl ePlace x8.1), (17, vi x8.2), (22, .own 94), (23, vi x11.2), (145, vb false), (146, vl ePlace x8.1)], [(4, .box (tc ePlace x2.2)), (39, oa 41 5 ePlace x2.1), (45, .deep 41 5 x3.1.length [.flat, .flat, .flat, .flat, (.sl 95 5 [.flat, .flat, .flat, .flat, .flat])] (x3.1.map ePlace)), (64, .deep 41 5 x6.1.length [.flat, .flat, .flat, .flat, (.sl 95 5 [.flat, .flat, .flat, .flat, .flat])] (x6.1.map ePlace)), (94, oa 9 1 eS x11.1)]⟩ ?_
  obtain ⟨x17, hx17, h⟩ := bind_some h
  refine DGo.step (xc ents29 (impl_IsRegister_run x8.1 _ hx17)) ?_
  refine DGo.ck tbokGB false 1 ⟨252, [(3, .own 39), (4, .ref 4 0), (5, .own 45), (6, vi x3.2), (10, vs x5.2.1), (11, vi x5.2.2), (12, .own 64), (13, vi x6.2), (16, vl ePlace x8.1), (17, vi x8.2), (22, .own 94), (23, vi x11.2), (145, vb false), (147, vb x17), (148, vl ePlace x8.1)], [(4, .box (tc ePlace x2.2)), (39, oa 41 5 ePlace x2.1), (45, .deep 41 5 x3.1.length [.flat, .flat, .flat, .flat, (.sl 95 5 [.flat, .flat, .flat, .flat, .flat])] (x3.1.map ePlace)), (64, .deep 41 5 x6.1.length [.flat, .flat, .flat, .flat, (.sl 95 5 [.flat, .flat, .flat, .flat, .flat])] (x6.1.map ePlace)), (94, oa 9 1 eS x11.1)]⟩ ?_
  obtain ⟨x18, hx18, h⟩ := bind_some h
  refine DGo.step (xc ents30 (spec_IsRegister_run x8.1 _ hx18)) ?_
  refine DGo.step (x_lstep_eqb tbokGB (ti := ti4) (i := x17) (j := x18) true rfl) ?_
  refine DGo.ck tbokGB false 2 ⟨252, [(3, .own 39), (4, .ref 4 0), (5, .own 45), (6, vi x3.2), (10, vs x5.2.1), (11, vi x5.2.2), (12, .own 64), (13, vi x6.2), (16, vl ePlace x8.1), (17, vi x8.2), (22, .own 94), (23, vi x11.2), (152, vb (!(x17 == x18)))], [(4, .box (tc ePlace x2.2)), (39, oa 41 5 ePlace x2.1), (45, .deep 41 5 x3.1.length [.flat, .flat, .flat, .flat, (.sl 95 5 [.flat, .flat, .flat, .flat, .flat])] (x3.1.map ePlace)), (64, .deep 41 5 x6.1.length [.flat, .flat, .flat, .flat, (.sl 95 5 [.flat, .flat, .flat, .flat, .flat])] (x6.1.map ePlace)), (94, oa 9 1 eS x11.1)]⟩ ?_
  refine DGo.cu [(152, fun b => b)] h (fun h => ?_) fun h => ?_
  refine DGo.ck tbokGB false 6 ⟨252, [(3, .own 39), (4, .ref 4 0), (5, .own 45), (6, vi x3.2), (10, vs x5.2.1), (11, vi x5.2.2), (12, .own 64), (13, vi x6.2), (16, vl ePlace x8.1), (17, vi x8.2), (22, .own 94), (23, vi x11.2), (158, vb true)], [(4, .box (tc ePlace x2.2)), (39, oa 41 5 ePlace x2.1), (45, .deep 41 5 x3.1.length [.flat, .flat, .flat, .flat, (.sl 95 5 [.flat, .flat, .flat, .flat, .flat])] (x3.1.map ePlace)), (64, .deep 41 5 x6.1.length [.flat, .flat, .flat, .flat, (.sl 95 5 [.flat, .flat, .flat, .flat, .flat])] (x6.1.map ePlace)), (94, oa 9 1 eS x11.1)]⟩ ?_
  refine DGo.nil (by kernel_rfl) ?_
  obtain rfl := inj h
  exact Le.rr [4, 39, 45, 64, 94] [(39, 3), (45, 5), (64, 12), (94, 22)]
  refine DGo.ck tbokGB false 1 ⟨252, [(3, .own 39), (4, .ref 4 0), (5, .own 45), (6, vi x3.2), (10, vs x5.2.1), (11, vi x5.2.2), (12, .own 64), (13, vi x6.2), (16, vl ePlace x8.1), (17, vi x8.2), (22, .own 94), (23, vi x11.2), (152, vb false), (153, .agg (tc ePlace x2.2))], [(4, .box (tc ePlace x2.2)), (39, oa 41 5 ePlace x2.1), (45, .deep 41 5 x3.1.length [.flat, .flat, .flat, .flat, (.sl 95 5 [.flat, .flat, .flat, .flat, .flat])] (x3.1.map ePlace)), (64, .deep 41 5 x6.1.length [.flat, .flat, .flat, .flat, (.sl 95 5 [.flat, .flat, .flat, .flat, .flat])] (x6.1.map ePlace)), (94, oa 9 1 eS x11.1)]⟩ ?_
  obtain ⟨x19, hx19, h⟩ := bind_some h
  refine DGo.step (xc ents31 (impl_IsPlace_run x2.2 _ hx19)) ?_
  refine DGo.ck tbokGB false 1 ⟨252, [(3, .own 39), (4, .ref 4 0), (5, .own 45), (6, vi x3.2), (10, vs x5.2.1), (11, vi x5.2.2), (12, .own 64), (13, vi x6.2), (16, vl ePlace x8.1), (17, vi x8.2), (22, .own 94), (23, vi x11.2), (152, vb false), (154, vb x19), (155, .agg (tc ePlace x2.2))], [(4, .box (tc ePlace x2.2)), (39, oa 41 5 ePlace x2.1), (45, .deep 41 5 x3.1.length [.flat, .flat, .flat, .flat, (.sl 95 5 [.flat, .flat, .flat, .flat, .flat])] (x3.1.map ePlace)), (64, .deep 41 5 x6.1.length [.flat, .flat, .flat, .flat, (.sl 95 5 [.flat, .flat, .flat, .flat, .flat])] (x6.1.map ePlace)), (94, oa 9 1 eS x11.1)]⟩ ?_
  obtain ⟨x20, hx20, h⟩ := bind_some h
  refine DGo.step (xc ents32 (spec_IsPlace_run x2.2 _ hx20)) ?_
  refine DGo.step (x_lstep_eqb tbokGB (ti := ti4) (i := x19) (j := x20) true rfl) ?_
  refine DGo.ck tbokGB false 1 ⟨252, [(3, .own 39), (4, .ref 4 0), (5, .own 45), (6, vi x3.2), (10, vs x5.2.1), (11, vi x5.2.2), (12, .own 64), (13, vi x6.2), (16, vl ePlace x8.1), (17, vi x8.2), (22, .own 94), (23, vi x11.2), (158, vb (!(x19 == x20)))], [(4, .box (tc ePlace x2.2)), (39, oa 41 5 ePlace x2.1), (45, .deep 41 5 x3.1.length [.flat, .flat, .flat, .flat, (.sl 95 5 [.flat, .flat, .flat, .flat, .flat])] (x3.1.map ePlace)), (64, .deep 41 5 x6.1.length [.flat, .flat, .flat, .flat, (.sl 95 5 [.flat, .flat, .flat, .flat, .flat])] (x6.1.map ePlace)), (94, oa 9 1 eS x11.1)]⟩ ?_
  refine DGo.nil (by kernel_rfl) ?_
  obtain rfl := inj h
  exact Le.rr [4, 39, 45, 64, 94] [(39, 3), (45, 5), (64, 12), (94, 22)]
  refine swp_cd h (fun h => ?_) fun h => ?_
  refine srk tbokGB ⟨252, [(2, vb false)], []⟩ ?_
  refine swp_ret ?_
  obtain rfl := inj h
  exact nx_r (q_fr (f1 fv))
  refine swp_skip ?_
  refine nx_n ?_
  refine swp_seq ?_
  refine srk tbokGB ⟨252, [(3, .own 3), (4, .ref 4 0), (5, .own 5), (6, vi x3.2), (10, vs x5.2.1), (11, vi x5.2.2), (12, .own 12), (16, vl ePlace x8.1), (17, vi x8.2), (22, .own 22), (23, vi x11.2), (160, vb (x6.2 == 0))], [(3, oa 41 5 ePlace x2.1), (4, .box (tc ePlace x2.2)), (5, .deep 41 5 x3.1.length [.flat, .flat, .flat, .flat, (.sl 95 5 [.flat, .flat, .flat, .flat, .flat])] (x3.1.map ePlace)), (12, .deep 41 5 x6.1.length [.flat, .flat, .flat, .flat, (.sl 95 5 [.flat, .flat, .flat, .flat, .flat])] (x6.1.map ePlace)), (22, oa 9 1 eS x11.1)]⟩ ?_
  refine swp_seqE (r := r) h (fun j23 => ⟨252, [(3, .own 3), (4, .ref 4 0), (5, .own 5), (6, vi x3.2), (16, vl ePlace x8.1), (17, vi x8.2), (22, .own 22), (23, vi x11.2)], [(3, oa 41 5 ePlace x2.1), (4, .box (tc ePlace x2.2)), (5, .deep 41 5 x3.1.length [.flat, .flat, .flat, .flat, (.sl 95 5 [.flat, .flat, .flat, .flat, .flat])] (x3.1.map ePlace)), (22, oa 9 1 eS x11.1)]⟩) (fun v24 h => ?_) (fun j23 h => ?_)
  refine swp_cd h (fun h => ?_) fun h => ?_
  refine sr ?_
  refine SRun.ck tbokGB 2 ⟨252, [(3, .own 3), (4, .ref 4 0), (5, .own 5), (6, vi x3.2), (10, vs x5.2.1), (11, vi x5.2.2), (12, .own 12), (16, vl ePlace x8.1), (17, vi x8.2), (22, .own 22), (23, vi x11.2), (162, .own 12), (163, vi x5.2.2)], [(3, oa 41 5 ePlace x2.1), (4, .box (tc ePlace x2.2)), (5, .deep 41 5 x3.1.length [.flat, .flat, .flat, .flat, (.sl 95 5 [.flat, .flat, .flat, .flat, .flat])] (x3.1.map ePlace)), (12, .deep 41 5 x6.1.length [.flat, .flat, .flat, .flat, (.sl 95 5 [.flat, .flat, .flat, .flat, .flat])] (x6.1.map ePlace)), (22, oa 9 1 eS x11.1)]⟩ ?_
  obtain ⟨x25, hx25, h⟩ := bind_some h
  refine SRun.ls (xc ents23 (impl_PlacesIn_run x6.1 x5.2.2 _ hx25)) ?_
  refine ckn tbokGB 5 ⟨252, [(3, .own 3), (4, .ref 4 0), (5, .own 5), (6, vi x3.2), (10, vs x5.2.1), (11, vi x5.2.2), (12, .own 12), (16, vl ePlace x8.1), (17, vi x8.2), (22, .own 22), (23, vi x11.2), (26, .own 164), (27, vi x25.2)], [(3, oa 41 5 ePlace x2.1), (4, .box (tc ePlace x2.2)), (5, .deep 41 5 x3.1.length [.flat, .flat, .flat, .flat, (.sl 95 5 [.flat, .flat, .flat, .flat, .flat])] (x3.1.map ePlace)), (12, .deep 41 5 x6.1.length [.flat, .flat, .flat, .flat, (.sl 95 5 [.flat, .flat, .flat, .flat, .flat])] (x6.1.map ePlace)), (22, oa 9 1 eS x11.1), (164, oa 9 1 eS x25.1)]⟩ ?_
  refine sr ?_
  refine SRun.ck tbokGB 3 ⟨252, [(3, .own 3), (4, .ref 4 0), (5, .own 5), (6, vi x3.2), (10, vs x5.2.1), (12, .own 12), (16, vl ePlace x8.1), (17, vi x8.2), (22, .own 22), (23, vi x11.2), (26, .own 164), (27, vi x25.2), (168, .own 12), (170, vi (w64 (x5.2.2 - 1)))], [(3, oa 41 5 ePlace x2.1), (4, .box (tc ePlace x2.2)), (5, .deep 41 5 x3.1.length [.flat, .flat, .flat, .flat, (.sl 95 5 [.flat, .flat, .flat, .flat, .flat])] (x3.1.map ePlace)), (12, .deep 41 5 x6.1.length [.flat, .flat, .flat, .flat, (.sl 95 5 [.flat, .flat, .flat, .flat, .flat])] (x6.1.map ePlace)), (22, oa 9 1 eS x11.1), (164, oa 9 1 eS x25.1)]⟩ ?_
  obtain ⟨x26, hx26, h⟩ := bind_some h
  refine SRun.ls (xc ents23 (impl_PlacesIn_run x6.1 (w64 (x5.2.2 - 1)) _ hx26)) ?_
  refine ckn tbokGB 5 ⟨252, [(3, .own 3), (4, .ref 4 0), (5, .own 5), (6, vi x3.2), (10, vs x5.2.1), (12, .own 12), (16, vl ePlace x8.1), (17, vi x8.2), (22, .own 22), (23, vi x11.2), (26, .own 164), (27, vi x25.2), (28, .own 171), (29, vi x26.2)], [(3, oa 41 5 ePlace x2.1), (4, .box (tc ePlace x2.2)), (5, .deep 41 5 x3.1.length [.flat, .flat, .flat, .flat, (.sl 95 5 [.flat, .flat, .flat, .flat, .flat])] (x3.1.map ePlace)), (12, .deep 41 5 x6.1.length [.flat, .flat, .flat, .flat, (.sl 95 5 [.flat, .flat, .flat, .flat, .flat])] (x6.1.map ePlace)), (22, oa 9 1 eS x11.1), (164, oa 9 1 eS x25.1), (171, oa 9 1 eS x26.1)]⟩ ?_
  refine swp_seq ?_
  refine swp_regJ h (fun j30 => ⟨252, [(3, .own 3), (4, .ref 4 0), (5, .own 5), (6, vi x3.2), (16, vl ePlace x8.1), (17, vi x8.2), (22, .own 22), (23, vi x11.2), (195, vb j30)], [(3, oa 41 5 ePlace x2.1), (4, .box (tc ePlace x2.2)), (5, .deep 41 5 x3.1.length [.flat, .flat, .flat, .flat, (.sl 95 5 [.flat, .flat, .flat, .flat, .flat])] (x3.1.map ePlace)), (22, oa 9 1 eS x11.1)]⟩) (fun v31 h => ?_) (fun j30 h => ?_)
  refine SRun.ck tbokGB 3 ⟨252, [(3, .own 3), (4, .ref 4 0), (5, .own 5), (6, vi x3.2), (10, vs x5.2.1), (12, .own 12), (16, vl ePlace x8.1), (17, vi x8.2), (22, .own 22), (23, vi x11.2), (26, .own 164), (28, .own 171), (29, vi x26.2), (176, vb (x25.2 != 0))], [(3, oa 41 5 ePlace x2.1), (4, .box (tc ePlace x2.2)), (5, .deep 41 5 x3.1.length [.flat, .flat, .flat, .flat, (.sl 95 5 [.flat, .flat, .flat, .flat, .flat])] (x3.1.map ePlace)), (12, .deep 41 5 x6.1.length [.flat, .flat, .flat, .flat, (.sl 95 5 [.flat, .flat, .flat, .flat, .flat])] (x6.1.map ePlace)), (22, oa 9 1 eS x11.1), (164, oa 9 1 eS x25.1), (171, oa 9 1 eS x26.1)]⟩ ?_
  refine SRun.cu [(176, fun b => b)] h (fun h => ?_) fun h => ?_
  refine SRun.ck tbokGB 19 ⟨252, [(3, .own 3), (4, .ref 4 0), (5, .own 5), (6, vi x3.2), (16, vl ePlace x8.1), (17, vi x8.2), (22, .own 22), (23, vi x11.2), (195, vb true)], [(3, oa 41 5 ePlace x2.1), (4, .box (tc ePlace x2.2)), (5, .deep 41 5 x3.1.length [.flat, .flat, .flat, .flat, (.sl 95 5 [.flat, .flat, .flat, .flat, .flat])] (x3.1.map ePlace)), (22, oa 9 1 eS x11.1)]⟩ ?_
  refine SRun.nil ?_
  obtain rfl := inj h
  exact Le.sub0
  refine SRun.ck tbokGB 4 ⟨252, [(3, .own 3), (4, .ref 4 0), (5, .own 5), (6, vi x3.2), (10, vs x5.2.1), (12, .own 12), (16, vl ePlace x8.1), (17, vi x8.2), (22, .own 22), (23, vi x11.2), (26, .own 164), (28, .own 171), (180, vb (x26.2 != 0))], [(3, oa 41 5 ePlace x2.1), (4, .box (tc ePlace x2.2)), (5, .deep 41 5 x3.1.length [.flat, .flat, .flat, .flat, (.sl 95 5 [.flat, .flat, .flat, .flat, .flat])] (x3.1.map ePlace)), (12, .deep 41 5 x6.1.length [.flat, .flat, .flat, .flat, (.sl 95 5 [.flat, .flat, .flat, .flat, .flat])] (x6.1.map ePlace)), (22, oa 9 1 eS x11.1), (164, oa 9 1 eS x25.1), (171, oa 9 1 eS x26.1)]⟩ ?_
  refine SRun.cu [(180, fun b => b)] h (fun h => ?_) fun h => ?_
  refine SRun.ck tbokGB 15 ⟨252, [(3, .own 3), (4, .ref 4 0), (5, .own 5), (6, vi x3.2), (16, vl ePlace x8.1), (17, vi x8.2), (22, .own 22), (23, vi x11.2), (195, vb true)], [(3, oa 41 5 ePlace x2.1), (4, .box (tc ePlace x2.2)), (5, .deep 41 5 x3.1.length [.flat, .flat, .flat, .flat, (.sl 95 5 [.flat, .flat, .flat, .flat, .flat])] (x3.1.map ePlace)), (22, oa 9 1 eS x11.1)]⟩ ?_
  refine SRun.nil ?_
  obtain rfl := inj h
  exact Le.sub0
  refine SRun.ck tbokGB 2 ⟨252, [(3, .own 3), (4, .ref 4 0), (5, .own 5), (6, vi x3.2), (10, vs x5.2.1), (12, .own 12), (16, vl ePlace x8.1), (17, vi x8.2), (22, .own 22), (23, vi x11.2), (28, .own 171), (180, vb false), (181, .own 164), (182, vs x5.2.1)], [(3, oa 41 5 ePlace x2.1), (4, .box (tc ePlace x2.2)), (5, .deep 41 5 x3.1.length [.flat, .flat, .flat, .flat, (.sl 95 5 [.flat, .flat, .flat, .flat, .flat])] (x3.1.map ePlace)), (12, .deep 41 5 x6.1.length [.flat, .flat, .flat, .flat, (.sl 95 5 [.flat, .flat, .flat, .flat, .flat])] (x6.1.map ePlace)), (22, oa 9 1 eS x11.1), (164, oa 9 1 eS x25.1), (171, oa 9 1 eS x26.1)]⟩ ?_
  obtain ⟨x27, hx27, h⟩ := bind_some h
  refine SRun.ls (xc ents33 (laws_hasText_run x25.1 x5.2.1 _ hx27)) ?_
  refine SRun.ck tbokGB 2 ⟨252, [(3, .own 3), (4, .ref 4 0), (5, .own 5), (6, vi x3.2), (10, vs x5.2.1), (12, .own 12), (16, vl ePlace x8.1), (17, vi x8.2), (22, .own 22), (23, vi x11.2), (28, .own 171), (185, vb x27)], [(3, oa 41 5 ePlace x2.1), (4, .box (tc ePlace x2.2)), (5, .deep 41 5 x3.1.length [.flat, .flat, .flat, .flat, (.sl 95 5 [.flat, .flat, .flat, .flat, .flat])] (x3.1.map ePlace)), (12, .deep 41 5 x6.1.length [.flat, .flat, .flat, .flat, (.sl 95 5 [.flat, .flat, .flat, .flat, .flat])] (x6.1.map ePlace)), (22, oa 9 1 eS x11.1), (171, oa 9 1 eS x26.1)]⟩ ?_
  refine SRun.cu [(185, fun b => b)] h (fun h => ?_) fun h => ?_
  refine SRun.ck tbokGB 10 ⟨252, [(3, .own 3), (4, .ref 4 0), (5, .own 5), (6, vi x3.2), (16, vl ePlace x8.1), (17, vi x8.2), (22, .own 22), (23, vi x11.2), (195, vb true)], [(3, oa 41 5 ePlace x2.1), (4, .box (tc ePlace x2.2)), (5, .deep 41 5 x3.1.length [.flat, .flat, .flat, .flat, (.sl 95 5 [.flat, .flat, .flat, .flat, .flat])] (x3.1.map ePlace)), (22, oa 9 1 eS x11.1)]⟩ ?_
  refine SRun.nil ?_
  obtain rfl := inj h
  exact Le.sub0
  refine SRun.ck tbokGB 2 ⟨252, [(3, .own 3), (4, .ref 4 0), (5, .own 5), (6, vi x3.2), (12, .own 12), (16, vl ePlace x8.1), (17, vi x8.2), (22, .own 22), (23, vi x11.2), (185, vb false), (186, .own 171), (187, vs x5.2.1)], [(3, oa 41 5 ePlace x2.1), (4, .box (tc ePlace x2.2)), (5, .deep 41 5 x3.1.length [.flat, .flat, .flat, .flat, (.sl 95 5 [.flat, .flat, .flat, .flat, .flat])] (x3.1.map ePlace)), (12, .deep 41 5 x6.1.length [.flat, .flat, .flat, .flat, (.sl 95 5 [.flat, .flat, .flat, .flat, .flat])] (x6.1.map ePlace)), (22, oa 9 1 eS x11.1), (171, oa 9 1 eS x26.1)]⟩ ?_
  obtain ⟨x28, hx28, h⟩ := bind_some h
  refine SRun.ls (xc ents33 (laws_hasText_run x26.1 x5.2.1 _ hx28)) ?_
  refine SRun.ck tbokGB 3 ⟨252, [(3, .own 3), (4, .ref 4 0), (5, .own 5), (6, vi x3.2), (12, .own 12), (16, vl ePlace x8.1), (17, vi x8.2), (22, .own 22), (23, vi x11.2), (191, vb (!x28))], [(3, oa 41 5 ePlace x2.1), (4, .box (tc ePlace x2.2)), (5, .deep 41 5 x3.1.length [.flat, .flat, .flat, .flat, (.sl 95 5 [.flat, .flat, .flat, .flat, .flat])] (x3.1.map ePlace)), (12, .deep 41 5 x6.1.length [.flat, .flat, .flat, .flat, (.sl 95 5 [.flat, .flat, .flat, .flat, .flat])] (x6.1.map ePlace)), (22, oa 9 1 eS x11.1)]⟩ ?_
  refine SRun.cu [(191, fun b => b)] h (fun h => ?_) fun h => ?_
  refine SRun.ck tbokGB 4 ⟨252, [(3, .own 3), (4, .ref 4 0), (5, .own 5), (6, vi x3.2), (16, vl ePlace x8.1), (17, vi x8.2), (22, .own 22), (23, vi x11.2), (195, vb true)], [(3, oa 41 5 ePlace x2.1), (4, .box (tc ePlace x2.2)), (5, .deep 41 5 x3.1.length [.flat, .flat, .flat, .flat, (.sl 95 5 [.flat, .flat, .flat, .flat, .flat])] (x3.1.map ePlace)), (22, oa 9 1 eS x11.1)]⟩ ?_
  refine SRun.nil ?_
  obtain rfl := inj h
  exact Le.sub0
  refine SRun.ck tbokGB 1 ⟨252, [(3, .own 3), (4, .ref 4 0), (5, .own 5), (6, vi x3.2), (16, vl ePlace x8.1), (17, vi x8.2), (22, .own 22), (23, vi x11.2), (191, vb false), (192, .own 12)], [(3, oa 41 5 ePlace x2.1), (4, .box (tc ePlace x2.2)), (5, .deep 41 5 x3.1.length [.flat, .flat, .flat, .flat, (.sl 95 5 [.flat, .flat, .flat, .flat, .flat])] (x3.1.map ePlace)), (12, .deep 41 5 x6.1.length [.flat, .flat, .flat, .flat, (.sl 95 5 [.flat, .flat, .flat, .flat, .flat])] (x6.1.map ePlace)), (22, oa 9 1 eS x11.1)]⟩ ?_
  obtain ⟨x29, hx29, h⟩ := bind_some h
  refine SRun.ls (xc ents29 (impl_IsRegister_run x6.1 _ hx29)) ?_
  refine SRun.ck tbokGB 2 ⟨252, [(3, .own 3), (4, .ref 4 0), (5, .own 5), (6, vi x3.2), (16, vl ePlace x8.1), (17, vi x8.2), (22, .own 22), (23, vi x11.2), (195, vb (!x29))], [(3, oa 41 5 ePlace x2.1), (4, .box (tc ePlace x2.2)), (5, .deep 41 5 x3.1.length [.flat, .flat, .flat, .flat, (.sl 95 5 [.flat, .flat, .flat, .flat, .flat])] (x3.1.map ePlace)), (22, oa 9 1 eS x11.1)]⟩ ?_
  refine SRun.nil ?_
  obtain rfl := inj h
  exact Le.sub0
  refine swp_cd h (fun h => ?_) fun h => ?_
  refine srk tbokGB ⟨252, [(2, vb false)], []⟩ ?_
  refine swp_ret ?_
  obtain rfl := inj h
  exact q_rr (q_fr (f1 fv))
  refine swp_skip ?_
  obtain rfl := inj h
  exact q_l (Le.sub0)
  refine swp_skip ?_
  obtain rfl := inj h
  exact q_l (Le.sub0)
  refine swp_seq ?_
  refine srk tbokGB ⟨252, [(3, .own 3), (4, .ref 4 0), (5, .own 5), (6, vi x3.2), (16, vl ePlace x8.1), (17, vi x8.2), (22, .own 22), (23, vi x11.2), (30, vi 0)], [(3, oa 41 5 ePlace x2.1), (4, .box (tc ePlace x2.2)), (5, .deep 41 5 x3.1.length [.flat, .flat, .flat, .flat, (.sl 95 5 [.flat, .flat, .flat, .flat, .flat])] (x3.1.map ePlace)), (22, oa 9 1 eS x11.1)]⟩ ?_
  refine swp_seqE (r := r) h (fun j32 => ⟨252, [(3, .own 3), (4, .ref 4 0), (5, .own 5), (6, vi x3.2)], [(3, oa 41 5 ePlace x2.1), (4, .box (tc ePlace x2.2)), (5, .deep 41 5 x3.1.length [.flat, .flat, .flat, .flat, (.sl 95 5 [.flat, .flat, .flat, .flat, .flat])] (x3.1.map ePlace))]⟩) (fun v33 h => ?_) (fun j32 h => ?_)
  refine swp_blk (a := v33) ?_
  refine swp_lpL (r := v33) (s := (0, ())) _ (fun s34 => ⟨252, [(3, .own 3), (4, .ref 4 0), (5, .own 5), (6, vi x3.2), (16, vl ePlace x8.1), (17, vi x8.2), (22, .own 22), (23, vi x11.2), (30, vi s34.1)], [(3, oa 41 5 ePlace x2.1), (4, .box (tc ePlace x2.2)), (5, .deep 41 5 x3.1.length [.flat, .flat, .flat, .flat, (.sl 95 5 [.flat, .flat, .flat, .flat, .flat])] (x3.1.map ePlace)), (22, oa 9 1 eS x11.1)]⟩) _ (Le.sub0) h (fun s34 v35 h => ?_)
  refine swp_seq ?_
  refine swp_seq ?_
  refine swp_regP ⟨252, [(3, .own 3), (4, .ref 4 0), (5, .own 5), (6, vi x3.2), (16, vl ePlace x8.1), (17, vi x8.2), (22, .own 22), (23, vi x11.2), (30, vi s34.1), (203, vb ((x11.2 == 0) && (decide (s34.1 < (x11.1.length : Int)))))], [(3, oa 41 5 ePlace x2.1), (4, .box (tc ePlace x2.2)), (5, .deep 41 5 x3.1.length [.flat, .flat, .flat, .flat, (.sl 95 5 [.flat, .flat, .flat, .flat, .flat])] (x3.1.map ePlace)), (22, oa 9 1 eS x11.1)]⟩ ?_ ?_
  refine SRun.ck tbokGB 3 ⟨252, [(3, .own 3), (4, .ref 4 0), (5, .own 5), (6, vi x3.2), (16, vl ePlace x8.1), (17, vi x8.2), (22, .own 22), (23, vi x11.2), (30, vi s34.1), (198, vb (x11.2 == 0))], [(3, oa 41 5 ePlace x2.1), (4, .box (tc ePlace x2.2)), (5, .deep 41 5 x3.1.length [.flat, .flat, .flat, .flat, (.sl 95 5 [.flat, .flat, .flat, .flat, .flat])] (x3.1.map ePlace)), (22, oa 9 1 eS x11.1)]⟩ ?_
  generalize (x11.2 == 0) = bb
  cases bb
  refine SRun.ck tbokGB 5 ⟨252, [(3, .own 3), (4, .ref 4 0), (5, .own 5), (6, vi x3.2), (16, vl ePlace x8.1), (17, vi x8.2), (22, .own 22), (23, vi x11.2), (30, vi s34.1), (203, vb false)], [(3, oa 41 5 ePlace x2.1), (4, .box (tc ePlace x2.2)), (5, .deep 41 5 x3.1.length [.flat, .flat, .flat, .flat, (.sl 95 5 [.flat, .flat, .flat, .flat, .flat])] (x3.1.map ePlace)), (22, oa 9 1 eS x11.1)]⟩ ?_
  exact SRun.nil (Le.sub0)
  refine SRun.ck tbokGB 5 ⟨252, [(3, .own 3), (4, .ref 4 0), (5, .own 5), (6, vi x3.2), (16, vl ePlace x8.1), (17, vi x8.2), (22, .own 22), (23, vi x11.2), (30, vi s34.1), (203, vb (decide (s34.1 < (x11.1.length : Int))))], [(3, oa 41 5 ePlace x2.1), (4, .box (tc ePlace x2.2)), (5, .deep 41 5 x3.1.length [.flat, .flat, .flat, .flat, (.sl 95 5 [.flat, .flat, .flat, .flat, .flat])] (x3.1.map ePlace)), (22, oa 9 1 eS x11.1)]⟩ ?_
  exact SRun.nil (Le.sub0)
  refine swp_cd h (fun h => ?_) fun h => ?_
  refine swp_skip ?_
  refine nx_n ?_
  refine swp_seq ?_
  refine swp_seqL (r := v35) h (fun j36 => ⟨252, [(3, .own 3), (4, .ref 4 0), (5, .own 5), (6, vi x3.2), (16, vl ePlace x8.1), (17, vi x8.2), (22, .own 22), (23, vi x11.2), (30, vi s34.1)], [(3, oa 41 5 ePlace x2.1), (4, .box (tc ePlace x2.2)), (5, .deep 41 5 x3.1.length [.flat, .flat, .flat, .flat, (.sl 95 5 [.flat, .flat, .flat, .flat, .flat])] (x3.1.map ePlace)), (22, oa 9 1 eS x11.1)]⟩) (fun v37 h => ?_) (fun j36 h => ?_)
  refine swp_blk (a := v37) ?_
  refine sr ?_
  refine SRun.ck tbokGB 3 ⟨252, [(3, .own 3), (4, .ref 4 0), (5, .own 5), (6, vi x3.2), (16, vl ePlace x8.1), (17, vi x8.2), (22, .own 22), (23, vi x11.2), (30, vi s34.1), (207, vl ePlace x8.1), (208, .own 22), (209, vi s34.1)], [(3, oa 41 5 ePlace x2.1), (4, .box (tc ePlace x2.2)), (5, .deep 41 5 x3.1.length [.flat, .flat, .flat, .flat, (.sl 95 5 [.flat, .flat, .flat, .flat, .flat])] (x3.1.map ePlace)), (22, oa 9 1 eS x11.1)]⟩ ?_
  obtain ⟨x38, hx38, h⟩ := bind_some h
  refine SRun.ls (x_index_own (d := 22) (L := x11.1) (f := eS) (ti := ti53) (tj := ti9) (e := 9) (e' := 9) (m := 1) (k := .i64) tbokGB rfl hx38) ?_
  refine SRun.ls (x_load_own (d := 22) (m := 1) (j := 0) (L := x11.1) (f := eS) (ti := ti9) (e := 9) (v := vs x38) tbokGB rfl hx38) ?_
  refine SRun.ck tbokGB 1 ⟨252, [(3, .own 3), (4, .ref 4 0), (5, .own 5), (6, vi x3.2), (16, vl ePlace x8.1), (17, vi x8.2), (22, .own 22), (23, vi x11.2), (30, vi s34.1), (207, vl ePlace x8.1), (211, vs x38), (212, vi x8.2)], [(3, oa 41 5 ePlace x2.1), (4, .box (tc ePlace x2.2)), (5, .deep 41 5 x3.1.length [.flat, .flat, .flat, .flat, (.sl 95 5 [.flat, .flat, .flat, .flat, .flat])] (x3.1.map ePlace)), (22, oa 9 1 eS x11.1)]⟩ ?_
  obtain ⟨x39, hx39, h⟩ := bind_some h
  refine SRun.ls (xc ents34 (impl_PlacesNamed_run x8.1 x38 x8.2 _ hx39)) ?_
  refine ckn tbokGB 5 ⟨252, [(3, .own 3), (4, .ref 4 0), (5, .own 5), (6, vi x3.2), (16, vl ePlace x8.1), (17, vi x8.2), (22, .own 22), (23, vi x11.2), (30, vi s34.1), (31, .own 213), (32, vi x39.2)], [(3, oa 41 5 ePlace x2.1), (4, .box (tc ePlace x2.2)), (5, .deep 41 5 x3.1.length [.flat, .flat, .flat, .flat, (.sl 95 5 [.flat, .flat, .flat, .flat, .flat])] (x3.1.map ePlace)), (22, oa 9 1 eS x11.1), (213, oa 9 1 eS x39.1)]⟩ ?_
  refine swp_seq ?_
  refine swp_regP ⟨252, [(3, .own 3), (4, .ref 4 0), (5, .own 5), (6, vi x3.2), (16, vl ePlace x8.1), (17, vi x8.2), (22, .own 22), (23, vi x11.2), (30, vi s34.1), (222, vb ((x39.2 != 0) || (decide ((x39.1.length : Int) < 2))))], [(3, oa 41 5 ePlace x2.1), (4, .box (tc ePlace x2.2)), (5, .deep 41 5 x3.1.length [.flat, .flat, .flat, .flat, (.sl 95 5 [.flat, .flat, .flat, .flat, .flat])] (x3.1.map ePlace)), (22, oa 9 1 eS x11.1)]⟩ ?_ ?_
  refine SRun.ck tbokGB 3 ⟨252, [(3, .own 3), (4, .ref 4 0), (5, .own 5), (6, vi x3.2), (16, vl ePlace x8.1), (17, vi x8.2), (22, .own 22), (23, vi x11.2), (30, vi s34.1), (31, .own 213), (218, vb (x39.2 != 0))], [(3, oa 41 5 ePlace x2.1), (4, .box (tc ePlace x2.2)), (5, .deep 41 5 x3.1.length [.flat, .flat, .flat, .flat, (.sl 95 5 [.flat, .flat, .flat, .flat, .flat])] (x3.1.map ePlace)), (22, oa 9 1 eS x11.1), (213, oa 9 1 eS x39.1)]⟩ ?_
  generalize (x39.2 != 0) = bb
  cases bb
  refine SRun.ck tbokGB 4 ⟨252, [(3, .own 3), (4, .ref 4 0), (5, .own 5), (6, vi x3.2), (16, vl ePlace x8.1), (17, vi x8.2), (22, .own 22), (23, vi x11.2), (30, vi s34.1), (222, vb (decide ((x39.1.length : Int) < 2)))], [(3, oa 41 5 ePlace x2.1), (4, .box (tc ePlace x2.2)), (5, .deep 41 5 x3.1.length [.flat, .flat, .flat, .flat, (.sl 95 5 [.flat, .flat, .flat, .flat, .flat])] (x3.1.map ePlace)), (22, oa 9 1 eS x11.1)]⟩ ?_
  exact SRun.nil (Le.sub0)
  refine SRun.ck tbokGB 4 ⟨252, [(3, .own 3), (4, .ref 4 0), (5, .own 5), (6, vi x3.2), (16, vl ePlace x8.1), (17, vi x8.2), (22, .own 22), (23, vi x11.2), (30, vi s34.1), (222, vb true)], [(3, oa 41 5 ePlace x2.1), (4, .box (tc ePlace x2.2)), (5, .deep 41 5 x3.1.length [.flat, .flat, .flat, .flat, (.sl 95 5 [.flat, .flat, .flat, .flat, .flat])] (x3.1.map ePlace)), (22, oa 9 1 eS x11.1)]⟩ ?_
  exact SRun.nil (Le.sub0)
  refine swp_cd h (fun h => ?_) fun h => ?_
  refine srk tbokGB ⟨252, [(2, vb false)], []⟩ ?_
  refine swp_ret ?_
  obtain rfl := inj h
  exact q_br (q_rr (q_rr (q_br (q_rr (q_fr (f1 fv))))))
  refine swp_skip ?_
  obtain rfl := inj h
  exact q_bn (q_l (Le.sub0))
  refine swp_reg ?_
  refine SRun.ck tbokGB 3 ⟨252, [(3, .own 3), (4, .ref 4 0), (5, .own 5), (6, vi x3.2), (16, vl ePlace x8.1), (17, vi x8.2), (22, .own 22), (23, vi x11.2), (30, vi (w64 (s34.1 + 1)))], [(3, oa 41 5 ePlace x2.1), (4, .box (tc ePlace x2.2)), (5, .deep 41 5 x3.1.length [.flat, .flat, .flat, .flat, (.sl 95 5 [.flat, .flat, .flat, .flat, .flat])] (x3.1.map ePlace)), (22, oa 9 1 eS x11.1)]⟩ ?_
  refine SRun.nil ?_
  obtain rfl := inj h
  exact q_l (Le.sub0)
  refine swp_exit ?_
  obtain rfl := inj h
  exact nx_e (q_re (q_bh (q_l (Le.sub0))))
  refine swp_seq ?_
  refine srk tbokGB ⟨252, [(3, .own 3), (4, .ref 4 0), (5, .own 5), (224, vb (x3.2 != 0))], [(3, oa 41 5 ePlace x2.1), (4, .box (tc ePlace x2.2)), (5, .deep 41 5 x3.1.length [.flat, .flat, .flat, .flat, (.sl 95 5 [.flat, .flat, .flat, .flat, .flat])] (x3.1.map ePlace))]⟩ ?_
  refine swp_cd h (fun h => ?_) fun h => ?_
  refine srk tbokGB ⟨252, [(2, vb true)], []⟩ ?_
  refine swp_ret ?_
  obtain rfl := inj h
  exact nx_r (q_fr (f1 fv))
  refine swp_skip ?_
  refine nx_n ?_
  refine sr ?_
  refine SRun.ck tbokGB 3 ⟨252, [(3, .own 3), (4, .ref 4 0), (5, .own 5), (226, .own 5), (228, vs x2.2.Code)], [(3, oa 41 5 ePlace x2.1), (4, .box (tc ePlace x2.2)), (5, .deep 41 5 x3.1.length [.flat, .flat, .flat, .flat, (.sl 95 5 [.flat, .flat, .flat, .flat, .flat])] (x3.1.map ePlace))]⟩ ?_
  obtain ⟨x40, hx40, h⟩ := bind_some h
  refine SRun.ls (xc ents35 (impl_FindPlace_run x3.1 x2.2.Code _ hx40)) ?_
  refine ckn tbokGB 5 ⟨252, [(3, .own 3), (4, .ref 4 0), (5, .own 5), (33, vi x40.1), (34, vi x40.2)], [(3, oa 41 5 ePlace x2.1), (4, .box (tc ePlace x2.2)), (5, .deep 41 5 x3.1.length [.flat, .flat, .flat, .flat, (.sl 95 5 [.flat, .flat, .flat, .flat, .flat])] (x3.1.map ePlace))]⟩ ?_
  refine swp_seq ?_
  refine swp_le (Le.frzD' (d := 5) (e := 41) (m := 5) (n := x3.1.length) (ss := [.flat, .flat, .flat, .flat, (.sl 95 5 [.flat, .flat, .flat, .flat, .flat])]) (es := x3.1.map ePlace) (by kernel_rfl) (by kernel_rfl)) ?_
  refine swp_drJ mixed h (fun j42 => ⟨252, [(2, vb j42)], []⟩) (fun v43 h => ?_) (fun j42 h => ?_)
  refine DGo.ck tbokGB false 3 ⟨252, [(3, .own 3), (4, .ref 4 0), (5, vl ePlace x3.1), (33, vi x40.1), (234, vb (x40.2 == 0))], [(3, oa 41 5 ePlace x2.1), (4, .box (tc ePlace x2.2))]⟩ ?_
  refine DGo.cu [(234, fun b => b)] h (fun h => ?_) fun h => ?_
  refine DGo.ck tbokGB false 2 ⟨252, [(3, .own 3), (4, .ref 4 0), (5, vl ePlace x3.1), (234, vb true), (235, vl ePlace x3.1), (236, vi x40.1)], [(3, oa 41 5 ePlace x2.1), (4, .box (tc ePlace x2.2))]⟩ ?_
  obtain ⟨x41, hx41, h⟩ := bind_some h
  refine DGo.step (x_index (L := x3.1) (f := ePlace) (ti := ti24) (tj := ti41) (e := 41) (k := .i64) tbokGB rfl hx41) ?_
  refine DGo.ck tbokGB false 7 ⟨252, [(3, .own 3), (5, vl ePlace x3.1), (244, vb (x41.Code.toList == x2.2.Code.toList))], [(3, oa 41 5 ePlace x2.1)]⟩ ?_
  refine DGo.cu [(244, fun b => b)] h (fun h => ?_) fun h => ?_
  refine DGo.ck tbokGB false 8 ⟨252, [(2, vb ((x3.1.length : Int) == (w64 ((x2.1.length : Int) + 1))))], []⟩ ?_
  refine DGo.nil (by kernel_rfl) ?_
  obtain rfl := inj h
  exact Le.sub0
  refine DGo.ck tbokGB false 8 ⟨252, [(2, vb false)], []⟩ ?_
  refine DGo.nil (by kernel_rfl) ?_
  obtain rfl := inj h
  exact Le.sub0
  refine DGo.ck tbokGB false 18 ⟨252, [(2, vb false)], []⟩ ?_
  refine DGo.nil (by kernel_rfl) ?_
  obtain rfl := inj h
  exact Le.sub0
  refine swp_ret ?_
  obtain rfl := inj h
  exact q_fr (f1 fv)
end Go.Proofs.YtpohkmbkohjahaaGreatDoor.Sh
