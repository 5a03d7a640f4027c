/- Typed functions and the calls that do what they say. -/
import Derived.Test.YtojhgfkohbfhhaaDoorGAp0
import Derived.Test.YtojhgfkohbfhhaaDoorKA
import Derived.Test.YtojhgfkohbfhhaaDoorKR
import Derived.Test.YtojhgfkohbfhhaaDoorKS
import Derived.Test.YtojhgfkohbfhhaaDoorH1
namespace Go.Proofs.YtojhgfkohbfhhaaDoor.Sh
open Go.RowKit
noncomputable def spec_l01Phrase (aS : ByteArray) : Option ((List ByteArray) × Bool) :=
  ((spec_l01Split aS 32).bind fun x1 => (((forN (x1.length : Int) (fun (i4 : Int) (_ : Unit) => ((at' x1 i4).bind fun x8 => ((spec_IsWord x8).bind fun x9 => (bif (!x9) then some (.inr (.inr (([] : List ByteArray), false))) else some (.inl ()))))) (fun (_ : Unit) => .inl ()) 0 ())).bind (Sum.elim (fun (_ : Unit) => some (x1, (decide ((x1.length : Int) ≤ 8)))) some)))
set_option maxRecDepth 100000 in
set_option maxHeartbeats 4000000 in
theorem spec_l01Phrase_run (aS : ByteArray) (r : (List ByteArray) × Bool) (h : spec_l01Phrase aS = some r) : SCall Tryd.prog 57 [.v (vs aS)] ⟨[.own 9 1 r.1.length (r.1.map eS), .v (vb r.2)], [], false⟩ := by
  refine scall_in Tryd.func57 rfl [(.tmp 2), (.tmp 3)] rfl (fun r => ⟨[.own 9 1 r.1.length (r.1.map eS), .v (vb r.2)], [], false⟩) (r := r) ?_
  unfold spec_l01Phrase at h
  refine swp_seq ?_
  refine swp_reg ?_
  refine SRun.ck tbok 2 ⟨24, [(0, vs aS)], []⟩ ?_
  refine SRun.nil ?_
  refine nx_n ?_
  refine swp_seq ?_
  refine swp_reg ?_
  refine SRun.ck tbok 1 ⟨24, [(6, vs aS)], []⟩ ?_
  obtain ⟨x1, hx1, h⟩ := bind_some h
  refine SRun.ls (x_lstep_call (f := 65) (caps := []) (xs := [vs aS, .tr (.int .u8 32)]) (ys := [vs aS, .tr (.int .u8 32)]) (res := ⟨[.own 9 1 x1.length (x1.map eS)], [], false⟩) (x := .own 7) (y := some (.arr 9 1 x1.length (x1.map eS))) rfl ents65 (spec_l01Split_run aS 32 _ hx1) rfl (by intro hc; cases hc)) ?_
  refine SRun.ck tbok 1 ⟨24, [(4, .own 7)], [(7, .arr 9 1 x1.length (x1.map eS))]⟩ ?_
  refine SRun.nil ?_
  refine nx_n ?_
  refine swp_seq ?_
  refine swp_seq ?_
  refine swp_reg ?_
  refine SRun.ck tbok 1 ⟨24, [(4, .own 7), (5, vi 0)], [(7, .arr 9 1 x1.length (x1.map eS))]⟩ ?_
  refine SRun.nil ?_
  refine nx_n ?_
  refine swp_seqE (r := r) h (fun j2 => ⟨24, [(4, .own 4)], [(4, .arr 9 1 x1.length (x1.map eS))]⟩) (fun v3 h => ?_) (fun j2 h => ?_)
  refine swp_blk (a := v3) ?_
  refine swp_lpL (r := v3) (s := (0, ())) _ (fun s4 => ⟨24, [(4, .own 4), (5, vi s4.1)], [(4, .arr 9 1 x1.length (x1.map eS))]⟩) _ ((Le.sub' ([(4, .own 7), (5, vi 0)] : List (Nat × SV)) ([(7, .arr 9 1 x1.length (x1.map eS))] : List (Nat × SO)) (by kernel_rfl) (by kernel_rfl)).trans ((Le.ren' (d := 7) (e := 4) (by kernel_rfl) (by kernel_rfl) (by kernel_rfl)).trans (Le.sub0))) h (fun s4 v5 h => ?_)
  refine swp_seq ?_
  refine swp_seq ?_
  refine swp_reg ?_
  refine SRun.ck tbok 4 ⟨24, [(4, .own 4), (5, vi s4.1), (11, vb (decide (s4.1 < (x1.length : Int))))], [(4, .arr 9 1 x1.length (x1.map eS))]⟩ ?_
  refine SRun.nil ?_
  refine nx_n ?_
  refine swp_cond (b := (decide (s4.1 < (x1.length : Int)))) (by kernel_rfl) (fun hb => ?_) (fun hb => ?_)
  replace h := cond_t hb h
  refine swp_skip ?_
  refine nx_n ?_
  refine swp_seq ?_
  refine swp_seqL (r := v5) h (fun j6 => ⟨24, [(4, .own 4), (5, vi s4.1)], [(4, .arr 9 1 x1.length (x1.map eS))]⟩) (fun v7 h => ?_) (fun j6 h => ?_)
  refine swp_blk (a := v7) ?_
  refine swp_seq ?_
  refine swp_reg ?_
  refine SRun.ck tbok 2 ⟨24, [(4, .own 4), (5, vi s4.1), (14, .own 4), (15, vi s4.1)], [(4, .arr 9 1 x1.length (x1.map eS))]⟩ ?_
  obtain ⟨x8, hx8, h⟩ := bind_some h
  refine SRun.ls (x_index_own (d := 4) (L := x1) (f := eS) (ti := ti66) (tj := ti9) (e := 9) (e' := 9) (m := 1) (k := .i64) tbok rfl hx8) ?_
  refine SRun.ls (x_load_own (d := 4) (m := 1) (j := 0) (L := x1) (f := eS) (ti := ti9) (e := 9) (v := vs x8) tbok rfl hx8) ?_
  obtain ⟨x9, hx9, h⟩ := bind_some h
  refine SRun.ls (x_lstep_call (f := 34) (caps := []) (xs := [vs x8]) (ys := [vs x8]) (res := ⟨[.v (vb x9)], [], false⟩) (x := vb x9) (y := none) rfl ents34 (spec_IsWord_run x8 _ hx9) rfl (by intro hc; cases hc)) ?_
  refine SRun.ck tbok 1 ⟨24, [(4, .own 4), (5, vi s4.1), (19, vb (!x9))], [(4, .arr 9 1 x1.length (x1.map eS))]⟩ ?_
  refine SRun.nil ?_
  refine nx_n ?_
  refine swp_cond (b := (!x9)) (by kernel_rfl) (fun hb => ?_) (fun hb => ?_)
  replace h := cond_t hb h
  refine swp_seq ?_
  refine swp_reg ?_
  refine SRun.ck tbok 2 ⟨24, [(2, .own 2), (3, vb false)], [(2, .arr 9 1 ([] : List ByteArray).length (([] : List ByteArray).map eS))]⟩ ?_
  refine SRun.nil ?_
  refine nx_n ?_
  refine swp_ret ?_
  replace h := Option.some.inj h
  subst h
  exact q_br (q_rr (q_rr (q_br (q_rr (q_fr (fin2 (by kernel_rfl) (finO (d := 2) (holds_t (by kernel_rfl)) (by kernel_rfl) (flat_map eS_flat _) (by kernel_rfl)) (finV rfl SV.flat_of (holds_t (by kernel_rfl)))))))))
  replace h := cond_f hb h
  refine swp_skip ?_
  replace h := Option.some.inj h
  subst h
  exact q_bn (q_l (Le.sub0))
  refine swp_reg ?_
  refine SRun.ck tbok 3 ⟨24, [(4, .own 4), (5, vi (w64 (s4.1 + 1)))], [(4, .arr 9 1 x1.length (x1.map eS))]⟩ ?_
  refine SRun.nil ?_
  replace h := Option.some.inj h
  subst h
  exact q_l (Le.sub0)
  replace h := cond_f hb h
  refine swp_exit ?_
  replace h := Option.some.inj h
  subst h
  exact nx_e (q_re (q_bh (q_l (Le.sub0))))
  refine swp_seq ?_
  refine swp_reg ?_
  refine SRun.ck tbok 6 ⟨24, [(2, .own 4), (3, vb (decide ((x1.length : Int) ≤ 8)))], [(4, .arr 9 1 x1.length (x1.map eS))]⟩ ?_
  refine SRun.nil ?_
  refine nx_n ?_
  refine swp_ret ?_
  replace h := Option.some.inj h
  subst h
  exact q_fr (fin2 (by kernel_rfl) (finO (d := 4) (holds_t (by kernel_rfl)) (by kernel_rfl) (flat_map eS_flat _) (by kernel_rfl)) (finV rfl SV.flat_of (holds_t (by kernel_rfl))))
theorem ents57 : Ents Tryd.prog 57 := ents_of Tryd.func57 (by kernel_rfl) rfl
noncomputable def spec_IsPhrase (aS : ByteArray) : Option (Bool) :=
  ((spec_l01Phrase aS).bind fun x1 => some x1.2)
set_option maxRecDepth 100000 in
set_option maxHeartbeats 4000000 in
theorem spec_IsPhrase_run (aS : ByteArray) (r : Bool) (h : spec_IsPhrase aS = some r) : SCall Tryd.prog 35 [.v (vs aS)] ⟨[.v (vb r)], [], false⟩ := by
  refine scall_in Tryd.func35 rfl [(.tmp 2)] rfl (fun r => ⟨[.v (vb r)], [], false⟩) (r := r) ?_
  unfold spec_IsPhrase at h
  refine swp_seq ?_
  refine swp_reg ?_
  refine SRun.ck tbok 1 ⟨11, [(0, vs aS)], []⟩ ?_
  refine SRun.nil ?_
  refine nx_n ?_
  refine swp_seq ?_
  refine swp_reg ?_
  refine SRun.ck tbok 1 ⟨11, [(6, vs aS)], []⟩ ?_
  obtain ⟨x1, hx1, h⟩ := bind_some h
  refine SRun.ls (x_lstep_call (f := 57) (caps := []) (xs := [vs aS]) (ys := [vs aS]) (res := ⟨[.own 9 1 x1.1.length (x1.1.map eS), .v (vb x1.2)], [], false⟩) (x := .tup [.own 7, vb x1.2]) (y := some (.arr 9 1 x1.1.length (x1.1.map eS))) rfl ents57 (spec_l01Phrase_run aS _ hx1) rfl (by intro hc; cases hc)) ?_
  refine SRun.ck tbok 5 ⟨11, [(4, vb x1.2)], []⟩ ?_
  refine SRun.nil ?_
  refine nx_n ?_
  refine swp_seq ?_
  refine swp_reg ?_
  refine SRun.ck tbok 2 ⟨11, [(2, vb x1.2)], []⟩ ?_
  refine SRun.nil ?_
  refine nx_n ?_
  refine swp_ret ?_
  replace h := Option.some.inj h
  subst h
  exact q_fr (fin1 (by kernel_rfl) (finV rfl SV.flat_of (holds_t (by kernel_rfl))))
theorem ents35 : Ents Tryd.prog 35 := ents_of Tryd.func35 (by kernel_rfl) rfl
noncomputable def spec_IsPoint (aP : Point) : Option (Bool) :=
  ((((spec_l01In aP.X (-1000) 1000).bind fun x1 => (bif x1 then ((spec_l01In aP.Y (-1000) 1000).bind fun x2 => some x2) else some false))).bind fun (j3 : Bool) => some j3)
set_option maxRecDepth 100000 in
set_option maxHeartbeats 4000000 in
theorem spec_IsPoint_run (aP : Point) (r : Bool) (h : spec_IsPoint aP = some r) : SCall Tryd.prog 36 [.v (.agg [vi aP.X, vi aP.Y])] ⟨[.v (vb r)], [], false⟩ := by
  refine scall_in Tryd.func36 rfl [(.tmp 2)] rfl (fun r => ⟨[.v (vb r)], [], false⟩) (r := r) ?_
  unfold spec_IsPoint at h
  refine swp_seq ?_
  refine swp_reg ?_
  refine SRun.ck tbok 2 ⟨11, [(1, .ref 1 0)], [(1, .box [vi aP.X, vi aP.Y])]⟩ ?_
  refine SRun.nil ?_
  refine nx_n ?_
  refine swp_seq ?_
  refine swp_regJ h (fun j3 => ⟨11, [(2, vb j3)], []⟩) (fun v4 h => ?_) (fun j3 h => ?_)
  refine SRun.ck tbok 2 ⟨11, [(1, .ref 1 0), (4, vi aP.X)], [(1, .box [vi aP.X, vi aP.Y])]⟩ ?_
  obtain ⟨x1, hx1, h⟩ := bind_some h
  refine SRun.ls (x_lstep_call (f := 47) (caps := []) (xs := [vi aP.X, vi (-1000), vi 1000]) (ys := [vi aP.X, vi (-1000), vi 1000]) (res := ⟨[.v (vb x1)], [], false⟩) (x := vb x1) (y := none) rfl ents47 (spec_l01In_run aP.X (-1000) 1000 _ hx1) rfl (by intro hc; cases hc)) ?_
  refine SRun.ck tbok 1 ⟨11, [(1, .ref 1 0), (6, vb x1)], [(1, .box [vi aP.X, vi aP.Y])]⟩ ?_
  refine SRun.cut [(6, fun b => b)] (b := x1) (by kernel_rfl) (fun hb => ?_) (fun hb => ?_)
  replace h := cond_t hb h
  refine SRun.ck tbok 2 ⟨11, [(6, vb true), (8, vi aP.Y)], []⟩ ?_
  obtain ⟨x2, hx2, h⟩ := bind_some h
  refine SRun.ls (x_lstep_call (f := 47) (caps := []) (xs := [vi aP.Y, vi (-1000), vi 1000]) (ys := [vi aP.Y, vi (-1000), vi 1000]) (res := ⟨[.v (vb x2)], [], false⟩) (x := vb x2) (y := none) rfl ents47 (spec_l01In_run aP.Y (-1000) 1000 _ hx2) rfl (by intro hc; cases hc)) ?_
  refine SRun.ck tbok 2 ⟨11, [(2, vb x2)], []⟩ ?_
  refine SRun.nil ?_
  replace h := Option.some.inj h
  subst h
  exact Le.sub0
  replace h := cond_f hb h
  refine SRun.ck tbok 5 ⟨11, [(2, vb false)], []⟩ ?_
  refine SRun.nil ?_
  replace h := Option.some.inj h
  subst h
  exact Le.sub0
  refine swp_ret ?_
  replace h := Option.some.inj h
  subst h
  exact q_fr (fin1 (by kernel_rfl) (finV rfl SV.flat_of (holds_t (by kernel_rfl))))
theorem ents36 : Ents Tryd.prog 36 := ents_of Tryd.func36 (by kernel_rfl) rfl
noncomputable def spec_l30Find (aList : (List Candidate)) (aCode : ByteArray) : Option (Int) :=
  (((forN (aList.length : Int) (fun (i3 : Int) (_ : Unit) => ((at' aList i3).bind fun x7 => (bif (x7.Code.toList == aCode.toList) then some (.inr (.inr i3)) else some (.inl ())))) (fun (_ : Unit) => .inl ()) 0 ())).bind (Sum.elim (fun (_ : Unit) => some (-1)) some))
set_option maxRecDepth 100000 in
set_option maxHeartbeats 4000000 in
theorem spec_l30Find_run (aList : (List Candidate)) (aCode : ByteArray) (r : Int) (h : spec_l30Find aList aCode = some r) : SCall Tryd.prog 37 [.v (vl eCandidate aList), .v (vs aCode)] ⟨[.v (vi r)], [], false⟩ := by
  refine scall_in Tryd.func37 rfl [(.tmp 4)] rfl (fun r => ⟨[.v (vi r)], [], false⟩) (r := r) ?_
  unfold spec_l30Find at h
  refine swp_seq ?_
  refine swp_reg ?_
  refine SRun.ck tbok 1 ⟨20, [(0, vl eCandidate aList), (1, vs aCode)], []⟩ ?_
  refine SRun.nil ?_
  refine nx_n ?_
  refine swp_seq ?_
  refine swp_seq ?_
  refine swp_reg ?_
  refine SRun.ck tbok 1 ⟨20, [(0, vl eCandidate aList), (1, vs aCode), (5, vi 0)], []⟩ ?_
  refine SRun.nil ?_
  refine nx_n ?_
  refine swp_seqE (r := r) h (fun j1 => ⟨20, [], []⟩) (fun v2 h => ?_) (fun j1 h => ?_)
  refine swp_blk (a := v2) ?_
  refine swp_lpL (r := v2) (s := (0, ())) _ (fun s3 => ⟨20, [(0, vl eCandidate aList), (1, vs aCode), (5, vi s3.1)], []⟩) _ (Le.sub0) h (fun s3 v4 h => ?_)
  refine swp_seq ?_
  refine swp_seq ?_
  refine swp_reg ?_
  refine SRun.ck tbok 4 ⟨20, [(0, vl eCandidate aList), (1, vs aCode), (5, vi s3.1), (9, vb (decide (s3.1 < (aList.length : Int))))], []⟩ ?_
  refine SRun.nil ?_
  refine nx_n ?_
  refine swp_cond (b := (decide (s3.1 < (aList.length : Int)))) (by kernel_rfl) (fun hb => ?_) (fun hb => ?_)
  replace h := cond_t hb h
  refine swp_skip ?_
  refine nx_n ?_
  refine swp_seq ?_
  refine swp_seqL (r := v4) h (fun j5 => ⟨20, [(0, vl eCandidate aList), (1, vs aCode), (5, vi s3.1)], []⟩) (fun v6 h => ?_) (fun j5 h => ?_)
  refine swp_blk (a := v6) ?_
  refine swp_seq ?_
  refine swp_reg ?_
  refine SRun.ck tbok 2 ⟨20, [(0, vl eCandidate aList), (1, vs aCode), (5, vi s3.1), (12, vl eCandidate aList), (13, vi s3.1)], []⟩ ?_
  obtain ⟨x7, hx7, h⟩ := bind_some h
  refine SRun.ls (x_index (L := aList) (f := eCandidate) (ti := ti37) (tj := ti61) (e := 61) (k := .i64) tbok rfl hx7) ?_
  refine SRun.ck tbok 4 ⟨20, [(0, vl eCandidate aList), (1, vs aCode), (5, vi s3.1), (18, vb (x7.Code.toList == aCode.toList))], []⟩ ?_
  refine SRun.nil ?_
  refine nx_n ?_
  refine swp_cond (b := (x7.Code.toList == aCode.toList)) (by kernel_rfl) (fun hb => ?_) (fun hb => ?_)
  replace h := cond_t hb h
  refine swp_seq ?_
  refine swp_reg ?_
  refine SRun.ck tbok 2 ⟨20, [(4, vi s3.1)], []⟩ ?_
  refine SRun.nil ?_
  refine nx_n ?_
  refine swp_ret ?_
  replace h := Option.some.inj h
  subst h
  exact q_br (q_rr (q_rr (q_br (q_rr (q_fr (fin1 (by kernel_rfl) (finV rfl SV.flat_of (holds_t (by kernel_rfl)))))))))
  replace h := cond_f hb h
  refine swp_skip ?_
  replace h := Option.some.inj h
  subst h
  exact q_bn (q_l (Le.sub0))
  refine swp_reg ?_
  refine SRun.ck tbok 3 ⟨20, [(0, vl eCandidate aList), (1, vs aCode), (5, vi (w64 (s3.1 + 1)))], []⟩ ?_
  refine SRun.nil ?_
  replace h := Option.some.inj h
  subst h
  exact q_l (Le.sub0)
  replace h := cond_f hb h
  refine swp_exit ?_
  replace h := Option.some.inj h
  subst h
  exact nx_e (q_re (q_bh (q_l (Le.sub0))))
  refine swp_seq ?_
  refine swp_reg ?_
  refine SRun.ck tbok 1 ⟨20, [(4, vi (-1))], []⟩ ?_
  refine SRun.nil ?_
  refine nx_n ?_
  refine swp_ret ?_
  replace h := Option.some.inj h
  subst h
  exact q_fr (fin1 (by kernel_rfl) (finV rfl SV.flat_of (holds_t (by kernel_rfl))))
theorem ents37 : Ents Tryd.prog 37 := ents_of Tryd.func37 (by kernel_rfl) rfl
noncomputable def spec_AreCandidates (aList : (List Candidate)) : Option (Bool) :=
  (((forN (aList.length : Int) (fun (i3 : Int) (_ : Unit) => ((at' aList i3).bind fun x7 => ((((spec_IsWord x7.Code).bind fun x8 => (bif (!x8) then some true else ((spec_IsPhrase x7.Text).bind fun x9 => (bif (!x9) then some true else ((spec_IsPoint x7.At).bind fun x10 => (bif (!x10) then some true else ((spec_l30Find aList x7.Code).bind fun x11 => some (x11 != i3))))))))).bind fun (j12 : Bool) => (bif j12 then some (.inr (.inr false)) else some (.inl ()))))) (fun (_ : Unit) => .inl ()) 0 ())).bind (Sum.elim (fun (_ : Unit) => some (decide ((aList.length : Int) ≤ 10))) some))
set_option maxRecDepth 100000 in
set_option maxHeartbeats 4000000 in
theorem spec_AreCandidates_run (aList : (List Candidate)) (r : Bool) (h : spec_AreCandidates aList = some r) : SCall Tryd.prog 16 [.v (vl eCandidate aList)] ⟨[.v (vb r)], [], false⟩ := by
  refine scall_in Tryd.func16 rfl [(.tmp 2)] rfl (fun r => ⟨[.v (vb r)], [], false⟩) (r := r) ?_
  unfold spec_AreCandidates at h
  refine swp_seq ?_
  refine swp_reg ?_
  refine SRun.ck tbok 1 ⟨42, [(0, vl eCandidate aList)], []⟩ ?_
  refine SRun.nil ?_
  refine nx_n ?_
  refine swp_seq ?_
  refine swp_seq ?_
  refine swp_reg ?_
  refine SRun.ck tbok 1 ⟨42, [(0, vl eCandidate aList), (3, vi 0)], []⟩ ?_
  refine SRun.nil ?_
  refine nx_n ?_
  refine swp_seqE (r := r) h (fun j1 => ⟨42, [(0, vl eCandidate aList)], []⟩) (fun v2 h => ?_) (fun j1 h => ?_)
  refine swp_blk (a := v2) ?_
  refine swp_lpL (r := v2) (s := (0, ())) _ (fun s3 => ⟨42, [(0, vl eCandidate aList), (3, vi s3.1)], []⟩) _ (Le.sub0) h (fun s3 v4 h => ?_)
  refine swp_seq ?_
  refine swp_seq ?_
  refine swp_reg ?_
  refine SRun.ck tbok 4 ⟨42, [(0, vl eCandidate aList), (3, vi s3.1), (8, vb (decide (s3.1 < (aList.length : Int))))], []⟩ ?_
  refine SRun.nil ?_
  refine nx_n ?_
  refine swp_cond (b := (decide (s3.1 < (aList.length : Int)))) (by kernel_rfl) (fun hb => ?_) (fun hb => ?_)
  replace h := cond_t hb h
  refine swp_skip ?_
  refine nx_n ?_
  refine swp_seq ?_
  refine swp_seqL (r := v4) h (fun j5 => ⟨42, [(0, vl eCandidate aList), (3, vi s3.1)], []⟩) (fun v6 h => ?_) (fun j5 h => ?_)
  refine swp_blk (a := v6) ?_
  refine swp_seq ?_
  refine swp_reg ?_
  refine SRun.ck tbok 2 ⟨42, [(0, vl eCandidate aList), (3, vi s3.1), (11, vl eCandidate aList), (12, vi s3.1)], []⟩ ?_
  obtain ⟨x7, hx7, h⟩ := bind_some h
  refine SRun.ls (x_index (L := aList) (f := eCandidate) (ti := ti37) (tj := ti61) (e := 61) (k := .i64) tbok rfl hx7) ?_
  refine SRun.ck tbok 2 ⟨42, [(0, vl eCandidate aList), (3, vi s3.1), (4, .ref 4 0), (14, .agg [vs x7.Code, vs x7.Text, vi x7.At.X, vi x7.At.Y])], [(4, .box [vs (ByteArray.mk #[]), vs (ByteArray.mk #[]), vi 0, vi 0])]⟩ ?_
  refine SRun.estep (x_estep_store (d := 4) (k := 0) (ti := ti61) (cs := [vs (ByteArray.mk #[]), vs (ByteArray.mk #[]), vi 0, vi 0]) (vs := [vs x7.Code, vs x7.Text, vi x7.At.X, vi x7.At.Y]) (v := .agg [vs x7.Code, vs x7.Text, vi x7.At.X, vi x7.At.Y]) tbok rfl rfl) ?_
  refine SRun.nil ?_
  refine nx_n ?_
  refine swp_seq ?_
  refine swp_regJ h (fun j12 => ⟨42, [(0, vl eCandidate aList), (3, vi s3.1), (38, vb j12)], []⟩) (fun v13 h => ?_) (fun j12 h => ?_)
  refine SRun.ck tbok 2 ⟨42, [(0, vl eCandidate aList), (3, vi s3.1), (4, .ref 4 0), (16, vs x7.Code)], [(4, .box [vs x7.Code, vs x7.Text, vi x7.At.X, vi x7.At.Y])]⟩ ?_
  obtain ⟨x8, hx8, h⟩ := bind_some h
  refine SRun.ls (x_lstep_call (f := 34) (caps := []) (xs := [vs x7.Code]) (ys := [vs x7.Code]) (res := ⟨[.v (vb x8)], [], false⟩) (x := vb x8) (y := none) rfl ents34 (spec_IsWord_run x7.Code _ hx8) rfl (by intro hc; cases hc)) ?_
  refine SRun.ck tbok 2 ⟨42, [(0, vl eCandidate aList), (3, vi s3.1), (4, .ref 4 0), (19, vb (!x8))], [(4, .box [vs x7.Code, vs x7.Text, vi x7.At.X, vi x7.At.Y])]⟩ ?_
  refine SRun.cut [(19, fun b => b)] (b := (!x8)) (by kernel_rfl) (fun hb => ?_) (fun hb => ?_)
  replace h := cond_t hb h
  refine SRun.ck tbok 19 ⟨42, [(0, vl eCandidate aList), (3, vi s3.1), (38, vb true)], []⟩ ?_
  refine SRun.nil ?_
  replace h := Option.some.inj h
  subst h
  exact Le.sub0
  replace h := cond_f hb h
  refine SRun.ck tbok 2 ⟨42, [(0, vl eCandidate aList), (3, vi s3.1), (4, .ref 4 0), (19, vb false), (21, vs x7.Text)], [(4, .box [vs x7.Code, vs x7.Text, vi x7.At.X, vi x7.At.Y])]⟩ ?_
  obtain ⟨x9, hx9, h⟩ := bind_some h
  refine SRun.ls (x_lstep_call (f := 35) (caps := []) (xs := [vs x7.Text]) (ys := [vs x7.Text]) (res := ⟨[.v (vb x9)], [], false⟩) (x := vb x9) (y := none) rfl ents35 (spec_IsPhrase_run x7.Text _ hx9) rfl (by intro hc; cases hc)) ?_
  refine SRun.ck tbok 3 ⟨42, [(0, vl eCandidate aList), (3, vi s3.1), (4, .ref 4 0), (25, vb (!x9))], [(4, .box [vs x7.Code, vs x7.Text, vi x7.At.X, vi x7.At.Y])]⟩ ?_
  refine SRun.cut [(25, fun b => b)] (b := (!x9)) (by kernel_rfl) (fun hb => ?_) (fun hb => ?_)
  replace h := cond_t hb h
  refine SRun.ck tbok 13 ⟨42, [(0, vl eCandidate aList), (3, vi s3.1), (38, vb true)], []⟩ ?_
  refine SRun.nil ?_
  replace h := Option.some.inj h
  subst h
  exact Le.sub0
  replace h := cond_f hb h
  refine SRun.ck tbok 2 ⟨42, [(0, vl eCandidate aList), (3, vi s3.1), (4, .ref 4 0), (25, vb false), (27, .agg [vi x7.At.X, vi x7.At.Y])], [(4, .box [vs x7.Code, vs x7.Text, vi x7.At.X, vi x7.At.Y])]⟩ ?_
  obtain ⟨x10, hx10, h⟩ := bind_some h
  refine SRun.ls (x_lstep_call (f := 36) (caps := []) (xs := [.agg [vi x7.At.X, vi x7.At.Y]]) (ys := [.agg [vi x7.At.X, vi x7.At.Y]]) (res := ⟨[.v (vb x10)], [], false⟩) (x := vb x10) (y := none) rfl ents36 (spec_IsPoint_run x7.At _ hx10) rfl (by intro hc; cases hc)) ?_
  refine SRun.ck tbok 3 ⟨42, [(0, vl eCandidate aList), (3, vi s3.1), (4, .ref 4 0), (31, vb (!x10))], [(4, .box [vs x7.Code, vs x7.Text, vi x7.At.X, vi x7.At.Y])]⟩ ?_
  refine SRun.cut [(31, fun b => b)] (b := (!x10)) (by kernel_rfl) (fun hb => ?_) (fun hb => ?_)
  replace h := cond_t hb h
  refine SRun.ck tbok 7 ⟨42, [(0, vl eCandidate aList), (3, vi s3.1), (38, vb true)], []⟩ ?_
  refine SRun.nil ?_
  replace h := Option.some.inj h
  subst h
  exact Le.sub0
  replace h := cond_f hb h
  refine SRun.ck tbok 3 ⟨42, [(0, vl eCandidate aList), (3, vi s3.1), (31, vb false), (32, vl eCandidate aList), (34, vs x7.Code)], []⟩ ?_
  obtain ⟨x11, hx11, h⟩ := bind_some h
  refine SRun.ls (x_lstep_call (f := 37) (caps := []) (xs := [vl eCandidate aList, vs x7.Code]) (ys := [vl eCandidate aList, vs x7.Code]) (res := ⟨[.v (vi x11)], [], false⟩) (x := vi x11) (y := none) rfl ents37 (spec_l30Find_run aList x7.Code _ hx11) rfl (by intro hc; cases hc)) ?_
  refine SRun.ck tbok 3 ⟨42, [(0, vl eCandidate aList), (3, vi s3.1), (38, vb (x11 != s3.1))], []⟩ ?_
  refine SRun.nil ?_
  replace h := Option.some.inj h
  subst h
  exact Le.sub0
  refine swp_cond (b := j12) (by kernel_rfl) (fun hb => ?_) (fun hb => ?_)
  replace h := cond_t hb h
  refine swp_seq ?_
  refine swp_reg ?_
  refine SRun.ck tbok 1 ⟨42, [(2, vb false)], []⟩ ?_
  refine SRun.nil ?_
  refine nx_n ?_
  refine swp_ret ?_
  replace h := Option.some.inj h
  subst h
  exact q_br (q_rr (q_rr (q_br (q_rr (q_fr (fin1 (by kernel_rfl) (finV rfl SV.flat_of (holds_t (by kernel_rfl)))))))))
  replace h := cond_f hb h
  refine swp_skip ?_
  replace h := Option.some.inj h
  subst h
  exact q_bn (q_l (Le.sub0))
  refine swp_reg ?_
  refine SRun.ck tbok 3 ⟨42, [(0, vl eCandidate aList), (3, vi (w64 (s3.1 + 1)))], []⟩ ?_
  refine SRun.nil ?_
  replace h := Option.some.inj h
  subst h
  exact q_l (Le.sub0)
  replace h := cond_f hb h
  refine swp_exit ?_
  replace h := Option.some.inj h
  subst h
  exact nx_e (q_re (q_bh (q_l (Le.sub0))))
  refine swp_seq ?_
  refine swp_reg ?_
  refine SRun.ck tbok 4 ⟨42, [(2, vb (decide ((aList.length : Int) ≤ 10)))], []⟩ ?_
  refine SRun.nil ?_
  refine nx_n ?_
  refine swp_ret ?_
  replace h := Option.some.inj h
  subst h
  exact q_fr (fin1 (by kernel_rfl) (finV rfl SV.flat_of (holds_t (by kernel_rfl))))
theorem ents16 : Ents Tryd.prog 16 := ents_of Tryd.func16 (by kernel_rfl) rfl
theorem strings_Split_run (s c : ByteArray) (r : List ByteArray) (h : strings_Split s c = some r) : SCall Tryd.prog 46 [.v (.tr (.str s)), .v (.tr (.str c))] ⟨[.own 9 1 r.length (r.map eS)], [], false⟩ := split_run Tryd.lays146 (by kernel_rfl) 46 9 rfl rfl s c r h
theorem ents46 : Ents Tryd.prog 46 := ents_of Tryd.func46 (by kernel_rfl) rfl
noncomputable def impl_wordsOf (aS : ByteArray) : Option ((List ByteArray)) :=
  ((strings_Split aS (ByteArray.mk #[32])).bind fun x1 => some x1)
set_option maxRecDepth 100000 in
set_option maxHeartbeats 4000000 in
theorem impl_wordsOf_run (aS : ByteArray) (r : (List ByteArray)) (h : impl_wordsOf aS = some r) : SCall Tryd.prog 60 [.v (vs aS)] ⟨[.own 9 1 r.length (r.map eS)], [], false⟩ := by
  refine scall_in Tryd.func60 rfl [(.tmp 2)] rfl (fun r => ⟨[.own 9 1 r.length (r.map eS)], [], false⟩) (r := r) ?_
  unfold impl_wordsOf at h
  refine swp_seq ?_
  refine swp_reg ?_
  refine SRun.ck tbok 1 ⟨5, [(0, vs aS)], []⟩ ?_
  refine SRun.nil ?_
  refine nx_n ?_
  refine swp_seq ?_
  refine swp_reg ?_
  refine SRun.ck tbok 1 ⟨5, [(3, vs aS)], []⟩ ?_
  obtain ⟨x1, hx1, h⟩ := bind_some h
  refine SRun.ls (x_lstep_call (f := 46) (caps := []) (xs := [vs aS, vs (ByteArray.mk #[32])]) (ys := [vs aS, vs (ByteArray.mk #[32])]) (res := ⟨[.own 9 1 x1.length (x1.map eS)], [], false⟩) (x := .own 4) (y := some (.arr 9 1 x1.length (x1.map eS))) rfl ents46 (strings_Split_run aS (ByteArray.mk #[32]) _ hx1) rfl (by intro hc; cases hc)) ?_
  refine SRun.ck tbok 1 ⟨5, [(2, .own 4)], [(4, .arr 9 1 x1.length (x1.map eS))]⟩ ?_
  refine SRun.nil ?_
  refine nx_n ?_
  refine swp_ret ?_
  replace h := Option.some.inj h
  subst h
  exact q_fr (fin1 (by kernel_rfl) (finO (d := 4) (holds_t (by kernel_rfl)) (by kernel_rfl) (flat_map eS_flat _) (by kernel_rfl)))
theorem ents60 : Ents Tryd.prog 60 := ents_of Tryd.func60 (by kernel_rfl) rfl
noncomputable def impl_areWords (aList : (List ByteArray)) : Option (Bool) :=
  (((forN (aList.length : Int) (fun (i3 : Int) (_ : Unit) => ((at' aList i3).bind fun x7 => ((impl_IsWord x7).bind fun x8 => (bif (!x8) then some (.inr (.inr false)) else some (.inl ()))))) (fun (_ : Unit) => .inl ()) 0 ())).bind (Sum.elim (fun (_ : Unit) => some true) some))
set_option maxRecDepth 100000 in
set_option maxHeartbeats 4000000 in
theorem impl_areWords_run (aList : (List ByteArray)) (r : Bool) (h : impl_areWords aList = some r) : SCall Tryd.prog 61 [.v (vl eS aList)] ⟨[.v (vb r)], [], false⟩ := by
  refine scall_in Tryd.func61 rfl [(.tmp 2)] rfl (fun r => ⟨[.v (vb r)], [], false⟩) (r := r) ?_
  unfold impl_areWords at h
  refine swp_seq ?_
  refine swp_reg ?_
  refine SRun.ck tbok 1 ⟨15, [(0, vl eS aList)], []⟩ ?_
  refine SRun.nil ?_
  refine nx_n ?_
  refine swp_seq ?_
  refine swp_seq ?_
  refine swp_reg ?_
  refine SRun.ck tbok 3 ⟨15, [(5, vl eS aList), (6, vi (aList.length : Int)), (7, vi 0)], []⟩ ?_
  refine SRun.nil ?_
  refine nx_n ?_
  refine swp_seqE (r := r) h (fun j1 => ⟨15, [], []⟩) (fun v2 h => ?_) (fun j1 h => ?_)
  refine swp_blk (a := v2) ?_
  refine swp_lpL (r := v2) (s := (0, ())) _ (fun s3 => ⟨15, [(5, vl eS aList), (6, vi (aList.length : Int)), (7, vi s3.1)], []⟩) _ (Le.sub0) h (fun s3 v4 h => ?_)
  refine swp_seq ?_
  refine swp_reg ?_
  refine SRun.ck tbok 1 ⟨15, [(5, vl eS aList), (6, vi (aList.length : Int)), (7, vi s3.1), (8, vb (decide (s3.1 < (aList.length : Int))))], []⟩ ?_
  refine SRun.nil ?_
  refine nx_n ?_
  refine swp_seq ?_
  refine swp_cond (b := (decide (s3.1 < (aList.length : Int)))) (by kernel_rfl) (fun hb => ?_) (fun hb => ?_)
  replace h := cond_t hb h
  refine swp_skip ?_
  refine nx_n ?_
  refine swp_seq ?_
  refine swp_seqL (r := v4) h (fun j5 => ⟨15, [(5, vl eS aList), (6, vi (aList.length : Int)), (7, vi s3.1)], []⟩) (fun v6 h => ?_) (fun j5 h => ?_)
  refine swp_blk (a := v6) ?_
  refine swp_seq ?_
  refine swp_reg ?_
  obtain ⟨x7, hx7, h⟩ := bind_some h
  refine SRun.ls (x_index (L := aList) (f := eS) (ti := ti66) (tj := ti9) (e := 9) (k := .i64) tbok rfl hx7) ?_
  refine SRun.ck tbok 2 ⟨15, [(4, vs x7), (5, vl eS aList), (6, vi (aList.length : Int)), (7, vi s3.1)], []⟩ ?_
  refine SRun.nil ?_
  refine nx_n ?_
  refine swp_seq ?_
  refine swp_reg ?_
  refine SRun.ck tbok 1 ⟨15, [(5, vl eS aList), (6, vi (aList.length : Int)), (7, vi s3.1), (11, vs x7)], []⟩ ?_
  obtain ⟨x8, hx8, h⟩ := bind_some h
  refine SRun.ls (x_lstep_call (f := 39) (caps := []) (xs := [vs x7]) (ys := [vs x7]) (res := ⟨[.v (vb x8)], [], false⟩) (x := vb x8) (y := none) rfl ents39 (impl_IsWord_run x7 _ hx8) rfl (by intro hc; cases hc)) ?_
  refine SRun.ck tbok 1 ⟨15, [(5, vl eS aList), (6, vi (aList.length : Int)), (7, vi s3.1), (13, vb (!x8))], []⟩ ?_
  refine SRun.nil ?_
  refine nx_n ?_
  refine swp_cond (b := (!x8)) (by kernel_rfl) (fun hb => ?_) (fun hb => ?_)
  replace h := cond_t hb h
  refine swp_seq ?_
  refine swp_reg ?_
  refine SRun.ck tbok 1 ⟨15, [(2, vb false)], []⟩ ?_
  refine SRun.nil ?_
  refine nx_n ?_
  refine swp_ret ?_
  replace h := Option.some.inj h
  subst h
  exact q_br (q_rr (q_rr (q_br (q_rr (q_fr (fin1 (by kernel_rfl) (finV rfl SV.flat_of (holds_t (by kernel_rfl)))))))))
  replace h := cond_f hb h
  refine swp_skip ?_
  replace h := Option.some.inj h
  subst h
  exact q_bn (q_l (Le.sub0))
  refine swp_reg ?_
  refine SRun.ck tbok 2 ⟨15, [(5, vl eS aList), (6, vi (aList.length : Int)), (7, vi (w64 (s3.1 + 1)))], []⟩ ?_
  refine SRun.nil ?_
  replace h := Option.some.inj h
  subst h
  exact q_l (Le.sub0)
  replace h := cond_f hb h
  refine swp_exit ?_
  replace h := Option.some.inj h
  subst h
  exact nx_e (q_re (q_bh (q_l (Le.sub0))))
  refine swp_seq ?_
  refine swp_reg ?_
  refine SRun.ck tbok 1 ⟨15, [(2, vb true)], []⟩ ?_
  refine SRun.nil ?_
  refine nx_n ?_
  refine swp_ret ?_
  replace h := Option.some.inj h
  subst h
  exact q_fr (fin1 (by kernel_rfl) (finV rfl SV.flat_of (holds_t (by kernel_rfl))))
theorem ents61 : Ents Tryd.prog 61 := ents_of Tryd.func61 (by kernel_rfl) rfl
noncomputable def impl_IsPhrase (aS : ByteArray) : Option (Bool) :=
  ((impl_wordsOf aS).bind fun x1 => (((bif (decide ((x1.length : Int) ≤ 8)) then ((impl_areWords x1).bind fun x2 => some x2) else some false)).bind fun (j3 : Bool) => some j3))
set_option maxRecDepth 100000 in
set_option maxHeartbeats 4000000 in
theorem impl_IsPhrase_run (aS : ByteArray) (r : Bool) (h : impl_IsPhrase aS = some r) : SCall Tryd.prog 40 [.v (vs aS)] ⟨[.v (vb r)], [], false⟩ := by
  refine scall_in Tryd.func40 rfl [(.tmp 2)] rfl (fun r => ⟨[.v (vb r)], [], false⟩) (r := r) ?_
  unfold impl_IsPhrase at h
  refine swp_seq ?_
  refine swp_reg ?_
  refine SRun.ck tbok 1 ⟨13, [(0, vs aS)], []⟩ ?_
  refine SRun.nil ?_
  refine nx_n ?_
  refine swp_seq ?_
  refine swp_reg ?_
  refine SRun.ck tbok 1 ⟨13, [(4, vs aS)], []⟩ ?_
  obtain ⟨x1, hx1, h⟩ := bind_some h
  refine SRun.ls (x_lstep_call (f := 60) (caps := []) (xs := [vs aS]) (ys := [vs aS]) (res := ⟨[.own 9 1 x1.length (x1.map eS)], [], false⟩) (x := .own 5) (y := some (.arr 9 1 x1.length (x1.map eS))) rfl ents60 (impl_wordsOf_run aS _ hx1) rfl (by intro hc; cases hc)) ?_
  refine SRun.ck tbok 1 ⟨13, [(3, .own 5)], [(5, .arr 9 1 x1.length (x1.map eS))]⟩ ?_
  refine SRun.nil ?_
  refine nx_n ?_
  refine swp_seq ?_
  refine swp_regJ h (fun j3 => ⟨13, [(2, vb j3)], []⟩) (fun v4 h => ?_) (fun j3 h => ?_)
  refine SRun.ck tbok 4 ⟨13, [(3, .own 5), (9, vb (decide ((x1.length : Int) ≤ 8)))], [(5, .arr 9 1 x1.length (x1.map eS))]⟩ ?_
  refine SRun.cut [(9, fun b => b)] (b := (decide ((x1.length : Int) ≤ 8))) (by kernel_rfl) (fun hb => ?_) (fun hb => ?_)
  replace h := cond_t hb h
  refine SRun.ck tbok 1 ⟨13, [(9, vb true), (10, .own 5)], [(5, .arr 9 1 x1.length (x1.map eS))]⟩ ?_
  obtain ⟨x2, hx2, h⟩ := bind_some h
  refine SRun.ls (x_lstep_call (f := 61) (caps := []) (xs := [.own 5]) (ys := [vl eS x1]) (res := ⟨[.v (vb x2)], [], false⟩) (x := vb x2) (y := none) rfl ents61 (impl_areWords_run x1 _ hx2) rfl (by intro hc; cases hc)) ?_
  refine SRun.ck tbok 2 ⟨13, [(2, vb x2)], []⟩ ?_
  refine SRun.nil ?_
  replace h := Option.some.inj h
  subst h
  exact Le.sub0
  replace h := cond_f hb h
  refine SRun.ck tbok 4 ⟨13, [(2, vb false)], []⟩ ?_
  refine SRun.nil ?_
  replace h := Option.some.inj h
  subst h
  exact Le.sub0
  refine swp_ret ?_
  replace h := Option.some.inj h
  subst h
  exact q_fr (fin1 (by kernel_rfl) (finV rfl SV.flat_of (holds_t (by kernel_rfl))))
theorem ents40 : Ents Tryd.prog 40 := ents_of Tryd.func40 (by kernel_rfl) rfl
noncomputable def impl_IsPoint (aP : Point) : Option (Bool) :=
  ((((impl_within aP.X (-1000) 1000).bind fun x1 => (bif x1 then ((impl_within aP.Y (-1000) 1000).bind fun x2 => some x2) else some false))).bind fun (j3 : Bool) => some j3)
set_option maxRecDepth 100000 in
set_option maxHeartbeats 4000000 in
theorem impl_IsPoint_run (aP : Point) (r : Bool) (h : impl_IsPoint aP = some r) : SCall Tryd.prog 41 [.v (.agg [vi aP.X, vi aP.Y])] ⟨[.v (vb r)], [], false⟩ := by
  refine scall_in Tryd.func41 rfl [(.tmp 2)] rfl (fun r => ⟨[.v (vb r)], [], false⟩) (r := r) ?_
  unfold impl_IsPoint at h
  refine swp_seq ?_
  refine swp_reg ?_
  refine SRun.ck tbok 2 ⟨11, [(1, .ref 1 0)], [(1, .box [vi aP.X, vi aP.Y])]⟩ ?_
  refine SRun.nil ?_
  refine nx_n ?_
  refine swp_seq ?_
  refine swp_regJ h (fun j3 => ⟨11, [(2, vb j3)], []⟩) (fun v4 h => ?_) (fun j3 h => ?_)
  refine SRun.ck tbok 2 ⟨11, [(1, .ref 1 0), (4, vi aP.X)], [(1, .box [vi aP.X, vi aP.Y])]⟩ ?_
  obtain ⟨x1, hx1, h⟩ := bind_some h
  refine SRun.ls (x_lstep_call (f := 49) (caps := []) (xs := [vi aP.X, vi (-1000), vi 1000]) (ys := [vi aP.X, vi (-1000), vi 1000]) (res := ⟨[.v (vb x1)], [], false⟩) (x := vb x1) (y := none) rfl ents49 (impl_within_run aP.X (-1000) 1000 _ hx1) rfl (by intro hc; cases hc)) ?_
  refine SRun.ck tbok 1 ⟨11, [(1, .ref 1 0), (6, vb x1)], [(1, .box [vi aP.X, vi aP.Y])]⟩ ?_
  refine SRun.cut [(6, fun b => b)] (b := x1) (by kernel_rfl) (fun hb => ?_) (fun hb => ?_)
  replace h := cond_t hb h
  refine SRun.ck tbok 2 ⟨11, [(6, vb true), (8, vi aP.Y)], []⟩ ?_
  obtain ⟨x2, hx2, h⟩ := bind_some h
  refine SRun.ls (x_lstep_call (f := 49) (caps := []) (xs := [vi aP.Y, vi (-1000), vi 1000]) (ys := [vi aP.Y, vi (-1000), vi 1000]) (res := ⟨[.v (vb x2)], [], false⟩) (x := vb x2) (y := none) rfl ents49 (impl_within_run aP.Y (-1000) 1000 _ hx2) rfl (by intro hc; cases hc)) ?_
  refine SRun.ck tbok 2 ⟨11, [(2, vb x2)], []⟩ ?_
  refine SRun.nil ?_
  replace h := Option.some.inj h
  subst h
  exact Le.sub0
  replace h := cond_f hb h
  refine SRun.ck tbok 5 ⟨11, [(2, vb false)], []⟩ ?_
  refine SRun.nil ?_
  replace h := Option.some.inj h
  subst h
  exact Le.sub0
  refine swp_ret ?_
  replace h := Option.some.inj h
  subst h
  exact q_fr (fin1 (by kernel_rfl) (finV rfl SV.flat_of (holds_t (by kernel_rfl))))
theorem ents41 : Ents Tryd.prog 41 := ents_of Tryd.func41 (by kernel_rfl) rfl
noncomputable def impl_findCandidate_1 (aC : Candidate) (c0 : ByteArray) : Option (Bool) :=
  some (aC.Code.toList == c0.toList)
set_option maxRecDepth 100000 in
set_option maxHeartbeats 4000000 in
theorem impl_findCandidate_1_run (aC : Candidate) (c0 : ByteArray) (r : Bool) (h : impl_findCandidate_1 aC c0 = some r) : SCall Tryd.prog 63 [.v (.agg [vs aC.Code, vs aC.Text, vi aC.At.X, vi aC.At.Y]), .v (.ptr [vs c0] 0)] ⟨[.v (vb r)], [], false⟩ := by
  refine scall_in Tryd.func63 rfl [(.tmp 3)] rfl (fun r => ⟨[.v (vb r)], [], false⟩) (r := r) ?_
  unfold impl_findCandidate_1 at h
  refine swp_seq ?_
  refine swp_reg ?_
  refine SRun.ck tbok 2 ⟨8, [(1, .ptr [vs c0] 0), (2, .ref 2 0)], [(2, .box [vs aC.Code, vs aC.Text, vi aC.At.X, vi aC.At.Y])]⟩ ?_
  refine SRun.nil ?_
  refine nx_n ?_
  refine swp_seq ?_
  refine swp_reg ?_
  refine SRun.ck tbok 5 ⟨8, [(3, vb (aC.Code.toList == c0.toList))], []⟩ ?_
  refine SRun.nil ?_
  refine nx_n ?_
  refine swp_ret ?_
  replace h := Option.some.inj h
  subst h
  exact q_fr (fin1 (by kernel_rfl) (finV rfl SV.flat_of (holds_t (by kernel_rfl))))
theorem ents63 : Ents Tryd.prog 63 := ents_of Tryd.func63 (by kernel_rfl) rfl
noncomputable def slices_IndexFunc_Candidate_impl_findCandidate_1 (aS : (List Candidate)) (aF0 : ByteArray) : Option (Int) :=
  (((forN (aS.length : Int) (fun (i3 : Int) (_ : Unit) => ((at' aS i3).bind fun x7 => ((impl_findCandidate_1 x7 aF0).bind fun x8 => (bif x8 then some (.inr (.inr i3)) else some (.inl ()))))) (fun (_ : Unit) => .inl ()) 0 ())).bind (Sum.elim (fun (_ : Unit) => some (-1)) some))
set_option maxRecDepth 100000 in
set_option maxHeartbeats 4000000 in
theorem slices_IndexFunc_Candidate_impl_findCandidate_1_run (aS : (List Candidate)) (aF0 : ByteArray) (r : Int) (h : slices_IndexFunc_Candidate_impl_findCandidate_1 aS aF0 = some r) : SCall Tryd.prog 62 [.v (vl eCandidate aS), .v (.clo 63 [.ptr [vs aF0] 0])] ⟨[.v (vi r)], [], false⟩ := by
  refine scall_in Tryd.func62 rfl [(.tmp 4)] rfl (fun r => ⟨[.v (vi r)], [], false⟩) (r := r) ?_
  unfold slices_IndexFunc_Candidate_impl_findCandidate_1 at h
  refine swp_seq ?_
  refine swp_reg ?_
  refine SRun.ck tbok 1 ⟨19, [(0, vl eCandidate aS), (1, .clo 63 [.ptr [vs aF0] 0])], []⟩ ?_
  refine SRun.nil ?_
  refine nx_n ?_
  refine swp_seq ?_
  refine swp_seq ?_
  refine swp_reg ?_
  refine SRun.ck tbok 3 ⟨19, [(0, vl eCandidate aS), (1, .clo 63 [.ptr [vs aF0] 0]), (7, vi (aS.length : Int)), (8, vi 0)], []⟩ ?_
  refine SRun.nil ?_
  refine nx_n ?_
  refine swp_seqE (r := r) h (fun j1 => ⟨19, [], []⟩) (fun v2 h => ?_) (fun j1 h => ?_)
  refine swp_blk (a := v2) ?_
  refine swp_lpL (r := v2) (s := (0, ())) _ (fun s3 => ⟨19, [(0, vl eCandidate aS), (1, .clo 63 [.ptr [vs aF0] 0]), (7, vi (aS.length : Int)), (8, vi s3.1)], []⟩) _ (Le.sub0) h (fun s3 v4 h => ?_)
  refine swp_seq ?_
  refine swp_reg ?_
  refine SRun.ck tbok 1 ⟨19, [(0, vl eCandidate aS), (1, .clo 63 [.ptr [vs aF0] 0]), (7, vi (aS.length : Int)), (8, vi s3.1), (9, vb (decide (s3.1 < (aS.length : Int))))], []⟩ ?_
  refine SRun.nil ?_
  refine nx_n ?_
  refine swp_seq ?_
  refine swp_cond (b := (decide (s3.1 < (aS.length : Int)))) (by kernel_rfl) (fun hb => ?_) (fun hb => ?_)
  replace h := cond_t hb h
  refine swp_skip ?_
  refine nx_n ?_
  refine swp_seq ?_
  refine swp_seqL (r := v4) h (fun j5 => ⟨19, [(0, vl eCandidate aS), (1, .clo 63 [.ptr [vs aF0] 0]), (7, vi (aS.length : Int)), (8, vi s3.1)], []⟩) (fun v6 h => ?_) (fun j5 h => ?_)
  refine swp_blk (a := v6) ?_
  refine swp_seq ?_
  refine swp_reg ?_
  refine SRun.ck tbok 2 ⟨19, [(0, vl eCandidate aS), (1, .clo 63 [.ptr [vs aF0] 0]), (5, vi s3.1), (7, vi (aS.length : Int)), (8, vi s3.1)], []⟩ ?_
  refine SRun.nil ?_
  refine nx_n ?_
  refine swp_seq ?_
  refine swp_reg ?_
  refine SRun.ck tbok 3 ⟨19, [(0, vl eCandidate aS), (1, .clo 63 [.ptr [vs aF0] 0]), (5, vi s3.1), (7, vi (aS.length : Int)), (8, vi s3.1), (11, .clo 63 [.ptr [vs aF0] 0]), (12, vl eCandidate aS), (13, vi s3.1)], []⟩ ?_
  obtain ⟨x7, hx7, h⟩ := bind_some h
  refine SRun.ls (x_index (L := aS) (f := eCandidate) (ti := ti37) (tj := ti61) (e := 61) (k := .i64) tbok rfl hx7) ?_
  refine SRun.ck tbok 1 ⟨19, [(0, vl eCandidate aS), (1, .clo 63 [.ptr [vs aF0] 0]), (5, vi s3.1), (7, vi (aS.length : Int)), (8, vi s3.1), (11, .clo 63 [.ptr [vs aF0] 0]), (15, .agg [vs x7.Code, vs x7.Text, vi x7.At.X, vi x7.At.Y])], []⟩ ?_
  obtain ⟨x8, hx8, h⟩ := bind_some h
  refine SRun.ls (x_lstep_call (f := 63) (caps := [.ptr [vs aF0] 0]) (xs := [.agg [vs x7.Code, vs x7.Text, vi x7.At.X, vi x7.At.Y]]) (ys := [.agg [vs x7.Code, vs x7.Text, vi x7.At.X, vi x7.At.Y], .ptr [vs aF0] 0]) (res := ⟨[.v (vb x8)], [], false⟩) (x := vb x8) (y := none) rfl ents63 (impl_findCandidate_1_run x7 aF0 _ hx8) rfl (by intro hc; cases hc)) ?_
  refine SRun.nil ?_
  refine nx_n ?_
  refine swp_cond (b := x8) (by kernel_rfl) (fun hb => ?_) (fun hb => ?_)
  replace h := cond_t hb h
  refine swp_seq ?_
  refine swp_reg ?_
  refine SRun.ck tbok 2 ⟨19, [(4, vi s3.1)], []⟩ ?_
  refine SRun.nil ?_
  refine nx_n ?_
  refine swp_ret ?_
  replace h := Option.some.inj h
  subst h
  exact q_br (q_rr (q_rr (q_br (q_rr (q_fr (fin1 (by kernel_rfl) (finV rfl SV.flat_of (holds_t (by kernel_rfl)))))))))
  replace h := cond_f hb h
  refine swp_skip ?_
  replace h := Option.some.inj h
  subst h
  exact q_bn (q_l (Le.sub0))
  refine swp_reg ?_
  refine SRun.ck tbok 2 ⟨19, [(0, vl eCandidate aS), (1, .clo 63 [.ptr [vs aF0] 0]), (7, vi (aS.length : Int)), (8, vi (w64 (s3.1 + 1)))], []⟩ ?_
  refine SRun.nil ?_
  replace h := Option.some.inj h
  subst h
  exact q_l (Le.sub0)
  replace h := cond_f hb h
  refine swp_exit ?_
  replace h := Option.some.inj h
  subst h
  exact nx_e (q_re (q_bh (q_l (Le.sub0))))
  refine swp_seq ?_
  refine swp_reg ?_
  refine SRun.ck tbok 1 ⟨19, [(4, vi (-1))], []⟩ ?_
  refine SRun.nil ?_
  refine nx_n ?_
  refine swp_ret ?_
  replace h := Option.some.inj h
  subst h
  exact q_fr (fin1 (by kernel_rfl) (finV rfl SV.flat_of (holds_t (by kernel_rfl))))
theorem ents62 : Ents Tryd.prog 62 := ents_of Tryd.func62 (by kernel_rfl) rfl
noncomputable def impl_findCandidate (aList : (List Candidate)) (aCode : ByteArray) : Option (Int) :=
  ((slices_IndexFunc_Candidate_impl_findCandidate_1 aList aCode).bind fun x1 => some x1)
set_option maxRecDepth 100000 in
set_option maxHeartbeats 4000000 in
theorem impl_findCandidate_run (aList : (List Candidate)) (aCode : ByteArray) (r : Int) (h : impl_findCandidate aList aCode = some r) : SCall Tryd.prog 42 [.v (vl eCandidate aList), .v (vs aCode)] ⟨[.v (vi r)], [], false⟩ := by
  refine scall_in Tryd.func42 rfl [(.tmp 4)] rfl (fun r => ⟨[.v (vi r)], [], false⟩) (r := r) ?_
  unfold impl_findCandidate at h
  refine swp_seq ?_
  refine swp_reg ?_
  refine SRun.ck tbok 2 ⟨8, [(0, vl eCandidate aList), (3, .ref 3 0)], [(3, .box [vs aCode])]⟩ ?_
  refine SRun.nil ?_
  refine nx_n ?_
  refine swp_seq ?_
  refine swp_reg ?_
  refine SRun.ck tbok 2 ⟨8, [(5, vl eCandidate aList), (6, .clo 63 [.ref 3 0])], [(3, .box [vs aCode])]⟩ ?_
  obtain ⟨x1, hx1, h⟩ := bind_some h
  refine SRun.ls (x_lstep_call (f := 62) (caps := []) (xs := [vl eCandidate aList, .clo 63 [.ref 3 0]]) (ys := [vl eCandidate aList, .clo 63 [.ptr [vs aCode] 0]]) (res := ⟨[.v (vi x1)], [], false⟩) (x := vi x1) (y := none) rfl ents62 (slices_IndexFunc_Candidate_impl_findCandidate_1_run aList aCode _ hx1) rfl (by intro hc; cases hc)) ?_
  refine SRun.ck tbok 1 ⟨8, [(4, vi x1)], []⟩ ?_
  refine SRun.nil ?_
  refine nx_n ?_
  refine swp_ret ?_
  replace h := Option.some.inj h
  subst h
  exact q_fr (fin1 (by kernel_rfl) (finV rfl SV.flat_of (holds_t (by kernel_rfl))))
theorem ents42 : Ents Tryd.prog 42 := ents_of Tryd.func42 (by kernel_rfl) rfl
noncomputable def impl_AreCandidates (aList : (List Candidate)) : Option (Bool) :=
  (((forN (aList.length : Int) (fun (i3 : Int) (_ : Unit) => ((at' aList i3).bind fun x7 => ((((impl_IsWord x7.Code).bind fun x8 => (bif (!x8) then some true else ((impl_IsPhrase x7.Text).bind fun x9 => (bif (!x9) then some true else ((impl_IsPoint x7.At).bind fun x10 => (bif (!x10) then some true else ((part' aList 0 i3).bind fun x11 => ((impl_findCandidate x11 x7.Code).bind fun x12 => some (decide (x12 ≥ 0))))))))))).bind fun (j13 : Bool) => (bif j13 then some (.inr (.inr false)) else some (.inl ()))))) (fun (_ : Unit) => .inl ()) 0 ())).bind (Sum.elim (fun (_ : Unit) => some (decide ((aList.length : Int) ≤ 10))) some))
set_option maxRecDepth 100000 in
set_option maxHeartbeats 4000000 in
theorem impl_AreCandidates_run (aList : (List Candidate)) (r : Bool) (h : impl_AreCandidates aList = some r) : SCall Tryd.prog 18 [.v (vl eCandidate aList)] ⟨[.v (vb r)], [], false⟩ := by
  refine scall_in Tryd.func18 rfl [(.tmp 2)] rfl (fun r => ⟨[.v (vb r)], [], false⟩) (r := r) ?_
  unfold impl_AreCandidates at h
  refine swp_seq ?_
  refine swp_reg ?_
  refine SRun.ck tbok 1 ⟨41, [(0, vl eCandidate aList)], []⟩ ?_
  refine SRun.nil ?_
  refine nx_n ?_
  refine swp_seq ?_
  refine swp_seq ?_
  refine swp_reg ?_
  refine SRun.ck tbok 3 ⟨41, [(0, vl eCandidate aList), (5, vl eCandidate aList), (6, vi (aList.length : Int)), (7, vi 0)], []⟩ ?_
  refine SRun.nil ?_
  refine nx_n ?_
  refine swp_seqE (r := r) h (fun j1 => ⟨41, [(0, vl eCandidate aList)], []⟩) (fun v2 h => ?_) (fun j1 h => ?_)
  refine swp_blk (a := v2) ?_
  refine swp_lpL (r := v2) (s := (0, ())) _ (fun s3 => ⟨41, [(0, vl eCandidate aList), (5, vl eCandidate aList), (6, vi (aList.length : Int)), (7, vi s3.1)], []⟩) _ (Le.sub0) h (fun s3 v4 h => ?_)
  refine swp_seq ?_
  refine swp_reg ?_
  refine SRun.ck tbok 1 ⟨41, [(0, vl eCandidate aList), (5, vl eCandidate aList), (6, vi (aList.length : Int)), (7, vi s3.1), (8, vb (decide (s3.1 < (aList.length : Int))))], []⟩ ?_
  refine SRun.nil ?_
  refine nx_n ?_
  refine swp_seq ?_
  refine swp_cond (b := (decide (s3.1 < (aList.length : Int)))) (by kernel_rfl) (fun hb => ?_) (fun hb => ?_)
  replace h := cond_t hb h
  refine swp_skip ?_
  refine nx_n ?_
  refine swp_seq ?_
  refine swp_seqL (r := v4) h (fun j5 => ⟨41, [(0, vl eCandidate aList), (5, vl eCandidate aList), (6, vi (aList.length : Int)), (7, vi s3.1)], []⟩) (fun v6 h => ?_) (fun j5 h => ?_)
  refine swp_blk (a := v6) ?_
  refine swp_seq ?_
  refine swp_reg ?_
  refine SRun.ck tbok 1 ⟨41, [(0, vl eCandidate aList), (5, vl eCandidate aList), (6, vi (aList.length : Int)), (7, vi s3.1), (9, vi s3.1)], []⟩ ?_
  obtain ⟨x7, hx7, h⟩ := bind_some h
  refine SRun.ls (x_index (L := aList) (f := eCandidate) (ti := ti37) (tj := ti61) (e := 61) (k := .i64) tbok rfl hx7) ?_
  refine SRun.ck tbok 3 ⟨41, [(0, vl eCandidate aList), (3, vi s3.1), (4, .ref 4 0), (5, vl eCandidate aList), (6, vi (aList.length : Int)), (7, vi s3.1), (11, .agg [vs x7.Code, vs x7.Text, vi x7.At.X, vi x7.At.Y])], [(4, .box [vs (ByteArray.mk #[]), vs (ByteArray.mk #[]), vi 0, vi 0])]⟩ ?_
  refine SRun.estep (x_estep_store (d := 4) (k := 0) (ti := ti61) (cs := [vs (ByteArray.mk #[]), vs (ByteArray.mk #[]), vi 0, vi 0]) (vs := [vs x7.Code, vs x7.Text, vi x7.At.X, vi x7.At.Y]) (v := .agg [vs x7.Code, vs x7.Text, vi x7.At.X, vi x7.At.Y]) tbok rfl rfl) ?_
  refine SRun.nil ?_
  refine nx_n ?_
  refine swp_seq ?_
  refine swp_drJ mixed h (fun j13 => ⟨41, [(0, vl eCandidate aList), (5, vl eCandidate aList), (6, vi (aList.length : Int)), (7, vi s3.1), (36, vb j13)], []⟩) (fun v14 h => ?_) (fun j13 h => ?_)
  refine DGo.chunk' tbok 2 (σ' := ⟨41, [(13, vs x7.Code), (12, .ref 4 0), (0, vl eCandidate aList), (3, vi s3.1), (4, .ref 4 0), (5, vl eCandidate aList), (6, vi (aList.length : Int)), (7, vi s3.1), (11, .agg [vs x7.Code, vs x7.Text, vi x7.At.X, vi x7.At.Y])], [(4, .box [vs x7.Code, vs x7.Text, vi x7.At.X, vi x7.At.Y])]⟩) (by kernel_rfl) ?_
  obtain ⟨x8, hx8, h⟩ := bind_some h
  refine DGo.step (x_lstep_call (f := 39) (caps := []) (xs := [vs x7.Code]) (ys := [vs x7.Code]) (res := ⟨[.v (vb x8)], [], false⟩) (x := vb x8) (y := none) rfl ents39 (impl_IsWord_run x7.Code _ hx8) rfl (by intro hc; cases hc)) ?_
  refine DGo.chunk' tbok 2 (σ' := ⟨41, [(16, vb (!x8)), (15, vb (!x8)), (14, vb x8), (13, vs x7.Code), (12, .ref 4 0), (0, vl eCandidate aList), (3, vi s3.1), (4, .ref 4 0), (5, vl eCandidate aList), (6, vi (aList.length : Int)), (7, vi s3.1), (11, .agg [vs x7.Code, vs x7.Text, vi x7.At.X, vi x7.At.Y])], [(4, .box [vs x7.Code, vs x7.Text, vi x7.At.X, vi x7.At.Y])]⟩) (by kernel_rfl) ?_
  refine DGo.cut [(16, fun b => b), (15, fun b => b)] (b := (!x8)) (by kernel_rfl) (fun hb => ?_) (fun hb => ?_)
  replace h := cond_t hb h
  refine DGo.chunk' tbok 20 (σ' := ⟨41, [(36, vb true), (35, .tup []), (34, .tup []), (33, .tup []), (32, .tup []), (31, .tup []), (30, .tup []), (29, .tup []), (28, vb true), (27, vb true), (26, .tup []), (25, .tup []), (24, .tup []), (23, .tup []), (22, vb true), (21, vb true), (20, .tup []), (19, .tup []), (18, .tup []), (17, .tup []), (16, vb true), (15, vb true), (14, vb x8), (13, vs x7.Code), (12, .ref 4 0), (0, vl eCandidate aList), (3, vi s3.1), (4, .ref 4 0), (5, vl eCandidate aList), (6, vi (aList.length : Int)), (7, vi s3.1), (11, .agg [vs x7.Code, vs x7.Text, vi x7.At.X, vi x7.At.Y])], [(4, .box [vs x7.Code, vs x7.Text, vi x7.At.X, vi x7.At.Y])]⟩) (by kernel_rfl) ?_
  refine DGo.nil (by kernel_rfl) ?_
  replace h := Option.some.inj h
  subst h
  exact Le.sub0
  replace h := cond_f hb h
  refine DGo.chunk' tbok 2 (σ' := ⟨41, [(18, vs x7.Text), (17, .ref 4 1), (16, vb false), (15, vb false), (14, vb x8), (13, vs x7.Code), (12, .ref 4 0), (0, vl eCandidate aList), (3, vi s3.1), (4, .ref 4 0), (5, vl eCandidate aList), (6, vi (aList.length : Int)), (7, vi s3.1), (11, .agg [vs x7.Code, vs x7.Text, vi x7.At.X, vi x7.At.Y])], [(4, .box [vs x7.Code, vs x7.Text, vi x7.At.X, vi x7.At.Y])]⟩) (by kernel_rfl) ?_
  obtain ⟨x9, hx9, h⟩ := bind_some h
  refine DGo.step (x_lstep_call (f := 40) (caps := []) (xs := [vs x7.Text]) (ys := [vs x7.Text]) (res := ⟨[.v (vb x9)], [], false⟩) (x := vb x9) (y := none) rfl ents40 (impl_IsPhrase_run x7.Text _ hx9) rfl (by intro hc; cases hc)) ?_
  refine DGo.chunk' tbok 3 (σ' := ⟨41, [(22, vb (!x9)), (21, vb (!x9)), (20, vb (!x9)), (19, vb x9), (18, vs x7.Text), (17, .ref 4 1), (16, vb false), (15, vb false), (14, vb x8), (13, vs x7.Code), (12, .ref 4 0), (0, vl eCandidate aList), (3, vi s3.1), (4, .ref 4 0), (5, vl eCandidate aList), (6, vi (aList.length : Int)), (7, vi s3.1), (11, .agg [vs x7.Code, vs x7.Text, vi x7.At.X, vi x7.At.Y])], [(4, .box [vs x7.Code, vs x7.Text, vi x7.At.X, vi x7.At.Y])]⟩) (by kernel_rfl) ?_
  refine DGo.cut [(22, fun b => b), (21, fun b => b), (20, fun b => b)] (b := (!x9)) (by kernel_rfl) (fun hb => ?_) (fun hb => ?_)
  replace h := cond_t hb h
  refine DGo.chunk' tbok 14 (σ' := ⟨41, [(36, vb true), (35, .tup []), (34, .tup []), (33, .tup []), (32, .tup []), (31, .tup []), (30, .tup []), (29, .tup []), (28, vb true), (27, vb true), (26, .tup []), (25, .tup []), (24, .tup []), (23, .tup []), (22, vb true), (21, vb true), (20, vb true), (19, vb x9), (18, vs x7.Text), (17, .ref 4 1), (16, vb false), (15, vb false), (14, vb x8), (13, vs x7.Code), (12, .ref 4 0), (0, vl eCandidate aList), (3, vi s3.1), (4, .ref 4 0), (5, vl eCandidate aList), (6, vi (aList.length : Int)), (7, vi s3.1), (11, .agg [vs x7.Code, vs x7.Text, vi x7.At.X, vi x7.At.Y])], [(4, .box [vs x7.Code, vs x7.Text, vi x7.At.X, vi x7.At.Y])]⟩) (by kernel_rfl) ?_
  refine DGo.nil (by kernel_rfl) ?_
  replace h := Option.some.inj h
  subst h
  exact Le.sub0
  replace h := cond_f hb h
  refine DGo.chunk' tbok 2 (σ' := ⟨41, [(24, .agg [vi x7.At.X, vi x7.At.Y]), (23, .ref 4 2), (22, vb false), (21, vb false), (20, vb false), (19, vb x9), (18, vs x7.Text), (17, .ref 4 1), (16, vb false), (15, vb false), (14, vb x8), (13, vs x7.Code), (12, .ref 4 0), (0, vl eCandidate aList), (3, vi s3.1), (4, .ref 4 0), (5, vl eCandidate aList), (6, vi (aList.length : Int)), (7, vi s3.1), (11, .agg [vs x7.Code, vs x7.Text, vi x7.At.X, vi x7.At.Y])], [(4, .box [vs x7.Code, vs x7.Text, vi x7.At.X, vi x7.At.Y])]⟩) (by kernel_rfl) ?_
  obtain ⟨x10, hx10, h⟩ := bind_some h
  refine DGo.step (x_lstep_call (f := 41) (caps := []) (xs := [.agg [vi x7.At.X, vi x7.At.Y]]) (ys := [.agg [vi x7.At.X, vi x7.At.Y]]) (res := ⟨[.v (vb x10)], [], false⟩) (x := vb x10) (y := none) rfl ents41 (impl_IsPoint_run x7.At _ hx10) rfl (by intro hc; cases hc)) ?_
  refine DGo.chunk' tbok 3 (σ' := ⟨41, [(28, vb (!x10)), (27, vb (!x10)), (26, vb (!x10)), (25, vb x10), (24, .agg [vi x7.At.X, vi x7.At.Y]), (23, .ref 4 2), (22, vb false), (21, vb false), (20, vb false), (19, vb x9), (18, vs x7.Text), (17, .ref 4 1), (16, vb false), (15, vb false), (14, vb x8), (13, vs x7.Code), (12, .ref 4 0), (0, vl eCandidate aList), (3, vi s3.1), (4, .ref 4 0), (5, vl eCandidate aList), (6, vi (aList.length : Int)), (7, vi s3.1), (11, .agg [vs x7.Code, vs x7.Text, vi x7.At.X, vi x7.At.Y])], [(4, .box [vs x7.Code, vs x7.Text, vi x7.At.X, vi x7.At.Y])]⟩) (by kernel_rfl) ?_
  refine DGo.cut [(28, fun b => b), (27, fun b => b), (26, fun b => b)] (b := (!x10)) (by kernel_rfl) (fun hb => ?_) (fun hb => ?_)
  replace h := cond_t hb h
  refine DGo.chunk' tbok 8 (σ' := ⟨41, [(36, vb true), (35, .tup []), (34, .tup []), (33, .tup []), (32, .tup []), (31, .tup []), (30, .tup []), (29, .tup []), (28, vb true), (27, vb true), (26, vb true), (25, vb x10), (24, .agg [vi x7.At.X, vi x7.At.Y]), (23, .ref 4 2), (22, vb false), (21, vb false), (20, vb false), (19, vb x9), (18, vs x7.Text), (17, .ref 4 1), (16, vb false), (15, vb false), (14, vb x8), (13, vs x7.Code), (12, .ref 4 0), (0, vl eCandidate aList), (3, vi s3.1), (4, .ref 4 0), (5, vl eCandidate aList), (6, vi (aList.length : Int)), (7, vi s3.1), (11, .agg [vs x7.Code, vs x7.Text, vi x7.At.X, vi x7.At.Y])], [(4, .box [vs x7.Code, vs x7.Text, vi x7.At.X, vi x7.At.Y])]⟩) (by kernel_rfl) ?_
  refine DGo.nil (by kernel_rfl) ?_
  replace h := Option.some.inj h
  subst h
  exact Le.sub0
  replace h := cond_f hb h
  refine DGo.chunk' tbok 2 (σ' := ⟨41, [(30, vi s3.1), (29, vl eCandidate aList), (28, vb false), (27, vb false), (26, vb false), (25, vb x10), (24, .agg [vi x7.At.X, vi x7.At.Y]), (23, .ref 4 2), (22, vb false), (21, vb false), (20, vb false), (19, vb x9), (18, vs x7.Text), (17, .ref 4 1), (16, vb false), (15, vb false), (14, vb x8), (13, vs x7.Code), (12, .ref 4 0), (0, vl eCandidate aList), (3, vi s3.1), (4, .ref 4 0), (5, vl eCandidate aList), (6, vi (aList.length : Int)), (7, vi s3.1), (11, .agg [vs x7.Code, vs x7.Text, vi x7.At.X, vi x7.At.Y])], [(4, .box [vs x7.Code, vs x7.Text, vi x7.At.X, vi x7.At.Y])]⟩) (by kernel_rfl) ?_
  obtain ⟨x11, hx11, h⟩ := bind_some h
  refine DGo.step (x_slice (m := 4) (f := eCandidate) (ti := ti37) (tj := ti61) (e := 61) hx11 (fun _ => rfl) tbok rfl) ?_
  refine DGo.chunk' tbok 2 (σ' := ⟨41, [(33, vs x7.Code), (32, .ref 4 0), (31, vl eCandidate x11), (30, vi s3.1), (29, vl eCandidate aList), (28, vb false), (27, vb false), (26, vb false), (25, vb x10), (24, .agg [vi x7.At.X, vi x7.At.Y]), (23, .ref 4 2), (22, vb false), (21, vb false), (20, vb false), (19, vb x9), (18, vs x7.Text), (17, .ref 4 1), (16, vb false), (15, vb false), (14, vb x8), (13, vs x7.Code), (12, .ref 4 0), (0, vl eCandidate aList), (3, vi s3.1), (4, .ref 4 0), (5, vl eCandidate aList), (6, vi (aList.length : Int)), (7, vi s3.1), (11, .agg [vs x7.Code, vs x7.Text, vi x7.At.X, vi x7.At.Y])], [(4, .box [vs x7.Code, vs x7.Text, vi x7.At.X, vi x7.At.Y])]⟩) (by kernel_rfl) ?_
  obtain ⟨x12, hx12, h⟩ := bind_some h
  refine DGo.step (x_lstep_call (f := 42) (caps := []) (xs := [vl eCandidate x11, vs x7.Code]) (ys := [vl eCandidate x11, vs x7.Code]) (res := ⟨[.v (vi x12)], [], false⟩) (x := vi x12) (y := none) rfl ents42 (impl_findCandidate_run x11 x7.Code _ hx12) rfl (by intro hc; cases hc)) ?_
  refine DGo.chunk' tbok 2 (σ' := ⟨41, [(36, vb (decide (x12 ≥ 0))), (35, vb (decide (x12 ≥ 0))), (34, vi x12), (33, vs x7.Code), (32, .ref 4 0), (31, vl eCandidate x11), (30, vi s3.1), (29, vl eCandidate aList), (28, vb false), (27, vb false), (26, vb false), (25, vb x10), (24, .agg [vi x7.At.X, vi x7.At.Y]), (23, .ref 4 2), (22, vb false), (21, vb false), (20, vb false), (19, vb x9), (18, vs x7.Text), (17, .ref 4 1), (16, vb false), (15, vb false), (14, vb x8), (13, vs x7.Code), (12, .ref 4 0), (0, vl eCandidate aList), (3, vi s3.1), (4, .ref 4 0), (5, vl eCandidate aList), (6, vi (aList.length : Int)), (7, vi s3.1), (11, .agg [vs x7.Code, vs x7.Text, vi x7.At.X, vi x7.At.Y])], [(4, .box [vs x7.Code, vs x7.Text, vi x7.At.X, vi x7.At.Y])]⟩) (by kernel_rfl) ?_
  refine DGo.nil (by kernel_rfl) ?_
  replace h := Option.some.inj h
  subst h
  exact Le.sub0
  refine swp_cond (b := j13) (by kernel_rfl) (fun hb => ?_) (fun hb => ?_)
  replace h := cond_t hb h
  refine swp_seq ?_
  refine swp_reg ?_
  refine SRun.ck tbok 1 ⟨41, [(2, vb false)], []⟩ ?_
  refine SRun.nil ?_
  refine nx_n ?_
  refine swp_ret ?_
  replace h := Option.some.inj h
  subst h
  exact q_br (q_rr (q_rr (q_br (q_rr (q_fr (fin1 (by kernel_rfl) (finV rfl SV.flat_of (holds_t (by kernel_rfl)))))))))
  replace h := cond_f hb h
  refine swp_skip ?_
  replace h := Option.some.inj h
  subst h
  exact q_bn (q_l (Le.sub0))
  refine swp_reg ?_
  refine SRun.ck tbok 2 ⟨41, [(0, vl eCandidate aList), (5, vl eCandidate aList), (6, vi (aList.length : Int)), (7, vi (w64 (s3.1 + 1)))], []⟩ ?_
  refine SRun.nil ?_
  replace h := Option.some.inj h
  subst h
  exact q_l (Le.sub0)
  replace h := cond_f hb h
  refine swp_exit ?_
  replace h := Option.some.inj h
  subst h
  exact nx_e (q_re (q_bh (q_l (Le.sub0))))
  refine swp_seq ?_
  refine swp_reg ?_
  refine SRun.ck tbok 4 ⟨41, [(2, vb (decide ((aList.length : Int) ≤ 10)))], []⟩ ?_
  refine SRun.nil ?_
  refine nx_n ?_
  refine swp_ret ?_
  replace h := Option.some.inj h
  subst h
  exact q_fr (fin1 (by kernel_rfl) (finV rfl SV.flat_of (holds_t (by kernel_rfl))))
theorem ents18 : Ents Tryd.prog 18 := ents_of Tryd.func18 (by kernel_rfl) rfl
noncomputable def laws_eqPoint (aA : Point) (aB : Point) : Option (Bool) :=
  (bif (aA.X != aB.X) then some false else (bif (aA.Y != aB.Y) then some false else some true))
set_option maxRecDepth 100000 in
set_option maxHeartbeats 4000000 in
theorem laws_eqPoint_run (aA : Point) (aB : Point) (r : Bool) (h : laws_eqPoint aA aB = some r) : SCall Tryd.prog 64 [.v (.agg [vi aA.X, vi aA.Y]), .v (.agg [vi aB.X, vi aB.Y])] ⟨[.v (vb r)], [], false⟩ := by
  refine scall_in Tryd.func64 rfl [(.tmp 4)] rfl (fun r => ⟨[.v (vb r)], [], false⟩) (r := r) ?_
  unfold laws_eqPoint at h
  refine swp_seq ?_
  refine swp_reg ?_
  refine SRun.ck tbok 3 ⟨15, [(2, .ref 2 0), (3, .ref 3 0)], [(2, .box [vi aA.X, vi aA.Y]), (3, .box [vi aB.X, vi aB.Y])]⟩ ?_
  refine SRun.nil ?_
  refine nx_n ?_
  refine swp_seq ?_
  refine swp_seq ?_
  refine swp_reg ?_
  refine SRun.ck tbok 5 ⟨15, [(2, .ref 2 0), (3, .ref 3 0), (9, vb (aA.X != aB.X))], [(2, .box [vi aA.X, vi aA.Y]), (3, .box [vi aB.X, vi aB.Y])]⟩ ?_
  refine SRun.nil ?_
  refine nx_n ?_
  refine swp_cond (b := (aA.X != aB.X)) (by kernel_rfl) (fun hb => ?_) (fun hb => ?_)
  replace h := cond_t hb h
  refine swp_seq ?_
  refine swp_reg ?_
  refine SRun.ck tbok 1 ⟨15, [(4, vb false)], []⟩ ?_
  refine SRun.nil ?_
  refine nx_n ?_
  refine swp_ret ?_
  replace h := Option.some.inj h
  subst h
  exact nx_r (q_fr (fin1 (by kernel_rfl) (finV rfl SV.flat_of (holds_t (by kernel_rfl)))))
  replace h := cond_f hb h
  refine swp_skip ?_
  refine nx_n ?_
  refine swp_seq ?_
  refine swp_seq ?_
  refine swp_reg ?_
  refine SRun.ck tbok 5 ⟨15, [(14, vb (aA.Y != aB.Y))], []⟩ ?_
  refine SRun.nil ?_
  refine nx_n ?_
  refine swp_cond (b := (aA.Y != aB.Y)) (by kernel_rfl) (fun hb => ?_) (fun hb => ?_)
  replace h := cond_t hb h
  refine swp_seq ?_
  refine swp_reg ?_
  refine SRun.ck tbok 1 ⟨15, [(4, vb false)], []⟩ ?_
  refine SRun.nil ?_
  refine nx_n ?_
  refine swp_ret ?_
  replace h := Option.some.inj h
  subst h
  exact nx_r (q_fr (fin1 (by kernel_rfl) (finV rfl SV.flat_of (holds_t (by kernel_rfl)))))
  replace h := cond_f hb h
  refine swp_skip ?_
  refine nx_n ?_
  refine swp_seq ?_
  refine swp_reg ?_
  refine SRun.ck tbok 1 ⟨15, [(4, vb true)], []⟩ ?_
  refine SRun.nil ?_
  refine nx_n ?_
  refine swp_ret ?_
  replace h := Option.some.inj h
  subst h
  exact q_fr (fin1 (by kernel_rfl) (finV rfl SV.flat_of (holds_t (by kernel_rfl))))
theorem ents64 : Ents Tryd.prog 64 := ents_of Tryd.func64 (by kernel_rfl) rfl
noncomputable def laws_eqCandidate (aA : Candidate) (aB : Candidate) : Option (Bool) :=
  (bif (!(aA.Code.toList == aB.Code.toList)) then some false else (bif (!(aA.Text.toList == aB.Text.toList)) then some false else ((laws_eqPoint aA.At aB.At).bind fun x1 => (bif (!x1) then some false else some true))))
set_option maxRecDepth 100000 in
set_option maxHeartbeats 4000000 in
theorem laws_eqCandidate_run (aA : Candidate) (aB : Candidate) (r : Bool) (h : laws_eqCandidate aA aB = some r) : SCall Tryd.prog 43 [.v (.agg [vs aA.Code, vs aA.Text, vi aA.At.X, vi aA.At.Y]), .v (.agg [vs aB.Code, vs aB.Text, vi aB.At.X, vi aB.At.Y])] ⟨[.v (vb r)], [], false⟩ := by
  refine scall_in Tryd.func43 rfl [(.tmp 4)] rfl (fun r => ⟨[.v (vb r)], [], false⟩) (r := r) ?_
  unfold laws_eqCandidate at h
  refine swp_seq ?_
  refine swp_reg ?_
  refine SRun.ck tbok 3 ⟨21, [(2, .ref 2 0), (3, .ref 3 0)], [(2, .box [vs aA.Code, vs aA.Text, vi aA.At.X, vi aA.At.Y]), (3, .box [vs aB.Code, vs aB.Text, vi aB.At.X, vi aB.At.Y])]⟩ ?_
  refine SRun.nil ?_
  refine nx_n ?_
  refine swp_seq ?_
  refine swp_seq ?_
  refine swp_reg ?_
  refine SRun.ck tbok 5 ⟨21, [(2, .ref 2 0), (3, .ref 3 0), (9, vb (!(aA.Code.toList == aB.Code.toList)))], [(2, .box [vs aA.Code, vs aA.Text, vi aA.At.X, vi aA.At.Y]), (3, .box [vs aB.Code, vs aB.Text, vi aB.At.X, vi aB.At.Y])]⟩ ?_
  refine SRun.nil ?_
  refine nx_n ?_
  refine swp_cond (b := (!(aA.Code.toList == aB.Code.toList))) (by kernel_rfl) (fun hb => ?_) (fun hb => ?_)
  replace h := cond_t hb h
  refine swp_seq ?_
  refine swp_reg ?_
  refine SRun.ck tbok 1 ⟨21, [(4, vb false)], []⟩ ?_
  refine SRun.nil ?_
  refine nx_n ?_
  refine swp_ret ?_
  replace h := Option.some.inj h
  subst h
  exact nx_r (q_fr (fin1 (by kernel_rfl) (finV rfl SV.flat_of (holds_t (by kernel_rfl)))))
  replace h := cond_f hb h
  refine swp_skip ?_
  refine nx_n ?_
  refine swp_seq ?_
  refine swp_seq ?_
  refine swp_reg ?_
  refine SRun.ck tbok 5 ⟨21, [(2, .ref 2 0), (3, .ref 3 0), (14, vb (!(aA.Text.toList == aB.Text.toList)))], [(2, .box [vs aA.Code, vs aA.Text, vi aA.At.X, vi aA.At.Y]), (3, .box [vs aB.Code, vs aB.Text, vi aB.At.X, vi aB.At.Y])]⟩ ?_
  refine SRun.nil ?_
  refine nx_n ?_
  refine swp_cond (b := (!(aA.Text.toList == aB.Text.toList))) (by kernel_rfl) (fun hb => ?_) (fun hb => ?_)
  replace h := cond_t hb h
  refine swp_seq ?_
  refine swp_reg ?_
  refine SRun.ck tbok 1 ⟨21, [(4, vb false)], []⟩ ?_
  refine SRun.nil ?_
  refine nx_n ?_
  refine swp_ret ?_
  replace h := Option.some.inj h
  subst h
  exact nx_r (q_fr (fin1 (by kernel_rfl) (finV rfl SV.flat_of (holds_t (by kernel_rfl)))))
  replace h := cond_f hb h
  refine swp_skip ?_
  refine nx_n ?_
  refine swp_seq ?_
  refine swp_seq ?_
  refine swp_reg ?_
  refine SRun.ck tbok 4 ⟨21, [(16, .agg [vi aA.At.X, vi aA.At.Y]), (18, .agg [vi aB.At.X, vi aB.At.Y])], []⟩ ?_
  obtain ⟨x1, hx1, h⟩ := bind_some h
  refine SRun.ls (x_lstep_call (f := 64) (caps := []) (xs := [.agg [vi aA.At.X, vi aA.At.Y], .agg [vi aB.At.X, vi aB.At.Y]]) (ys := [.agg [vi aA.At.X, vi aA.At.Y], .agg [vi aB.At.X, vi aB.At.Y]]) (res := ⟨[.v (vb x1)], [], false⟩) (x := vb x1) (y := none) rfl ents64 (laws_eqPoint_run aA.At aB.At _ hx1) rfl (by intro hc; cases hc)) ?_
  refine SRun.ck tbok 1 ⟨21, [(20, vb (!x1))], []⟩ ?_
  refine SRun.nil ?_
  refine nx_n ?_
  refine swp_cond (b := (!x1)) (by kernel_rfl) (fun hb => ?_) (fun hb => ?_)
  replace h := cond_t hb h
  refine swp_seq ?_
  refine swp_reg ?_
  refine SRun.ck tbok 1 ⟨21, [(4, vb false)], []⟩ ?_
  refine SRun.nil ?_
  refine nx_n ?_
  refine swp_ret ?_
  replace h := Option.some.inj h
  subst h
  exact nx_r (q_fr (fin1 (by kernel_rfl) (finV rfl SV.flat_of (holds_t (by kernel_rfl)))))
  replace h := cond_f hb h
  refine swp_skip ?_
  refine nx_n ?_
  refine swp_seq ?_
  refine swp_reg ?_
  refine SRun.ck tbok 1 ⟨21, [(4, vb true)], []⟩ ?_
  refine SRun.nil ?_
  refine nx_n ?_
  refine swp_ret ?_
  replace h := Option.some.inj h
  subst h
  exact q_fr (fin1 (by kernel_rfl) (finV rfl SV.flat_of (holds_t (by kernel_rfl))))
theorem ents43 : Ents Tryd.prog 43 := ents_of Tryd.func43 (by kernel_rfl) rfl
noncomputable def laws_eqCandidateS (aA : (List Candidate)) (aB : (List Candidate)) : Option (Bool) :=
  (bif ((aA.length : Int) != (aB.length : Int)) then some false else (((forN (aA.length : Int) (fun (i3 : Int) (_ : Unit) => ((at' aA i3).bind fun x7 => ((at' aB i3).bind fun x8 => ((laws_eqCandidate x7 x8).bind fun x9 => (bif (!x9) then some (.inr (.inr false)) else some (.inl ())))))) (fun (_ : Unit) => .inl ()) 0 ())).bind (Sum.elim (fun (_ : Unit) => some true) some)))
set_option maxRecDepth 100000 in
set_option maxHeartbeats 4000000 in
theorem laws_eqCandidateS_run (aA : (List Candidate)) (aB : (List Candidate)) (r : Bool) (h : laws_eqCandidateS aA aB = some r) : SCall Tryd.prog 19 [.v (vl eCandidate aA), .v (vl eCandidate aB)] ⟨[.v (vb r)], [], false⟩ := by
  refine scall_in Tryd.func19 rfl [(.tmp 4)] rfl (fun r => ⟨[.v (vb r)], [], false⟩) (r := r) ?_
  unfold laws_eqCandidateS at h
  refine swp_seq ?_
  refine swp_reg ?_
  refine SRun.ck tbok 1 ⟨27, [(0, vl eCandidate aA), (1, vl eCandidate aB)], []⟩ ?_
  refine SRun.nil ?_
  refine nx_n ?_
  refine swp_seq ?_
  refine swp_seq ?_
  refine swp_reg ?_
  refine SRun.ck tbok 5 ⟨27, [(0, vl eCandidate aA), (1, vl eCandidate aB), (10, vb ((aA.length : Int) != (aB.length : Int)))], []⟩ ?_
  refine SRun.nil ?_
  refine nx_n ?_
  refine swp_cond (b := ((aA.length : Int) != (aB.length : Int))) (by kernel_rfl) (fun hb => ?_) (fun hb => ?_)
  replace h := cond_t hb h
  refine swp_seq ?_
  refine swp_reg ?_
  refine SRun.ck tbok 1 ⟨27, [(4, vb false)], []⟩ ?_
  refine SRun.nil ?_
  refine nx_n ?_
  refine swp_ret ?_
  replace h := Option.some.inj h
  subst h
  exact nx_r (q_fr (fin1 (by kernel_rfl) (finV rfl SV.flat_of (holds_t (by kernel_rfl)))))
  replace h := cond_f hb h
  refine swp_skip ?_
  refine nx_n ?_
  refine swp_seq ?_
  refine swp_seq ?_
  refine swp_reg ?_
  refine SRun.ck tbok 1 ⟨27, [(0, vl eCandidate aA), (1, vl eCandidate aB), (5, vi 0)], []⟩ ?_
  refine SRun.nil ?_
  refine nx_n ?_
  refine swp_seqE (r := r) h (fun j1 => ⟨27, [], []⟩) (fun v2 h => ?_) (fun j1 h => ?_)
  refine swp_blk (a := v2) ?_
  refine swp_lpL (r := v2) (s := (0, ())) _ (fun s3 => ⟨27, [(0, vl eCandidate aA), (1, vl eCandidate aB), (5, vi s3.1)], []⟩) _ (Le.sub0) h (fun s3 v4 h => ?_)
  refine swp_seq ?_
  refine swp_seq ?_
  refine swp_reg ?_
  refine SRun.ck tbok 4 ⟨27, [(0, vl eCandidate aA), (1, vl eCandidate aB), (5, vi s3.1), (14, vb (decide (s3.1 < (aA.length : Int))))], []⟩ ?_
  refine SRun.nil ?_
  refine nx_n ?_
  refine swp_cond (b := (decide (s3.1 < (aA.length : Int)))) (by kernel_rfl) (fun hb => ?_) (fun hb => ?_)
  replace h := cond_t hb h
  refine swp_skip ?_
  refine nx_n ?_
  refine swp_seq ?_
  refine swp_seqL (r := v4) h (fun j5 => ⟨27, [(0, vl eCandidate aA), (1, vl eCandidate aB), (5, vi s3.1)], []⟩) (fun v6 h => ?_) (fun j5 h => ?_)
  refine swp_blk (a := v6) ?_
  refine swp_seq ?_
  refine swp_dr mixed ?_
  refine DGo.chunk' tbok 2 (σ' := ⟨27, [(18, vi s3.1), (17, vl eCandidate aA), (0, vl eCandidate aA), (1, vl eCandidate aB), (5, vi s3.1), (14, vb (decide (s3.1 < (aA.length : Int))))], []⟩) (by kernel_rfl) ?_
  obtain ⟨x7, hx7, h⟩ := bind_some h
  refine DGo.step (x_index (L := aA) (f := eCandidate) (ti := ti37) (tj := ti61) (e := 61) (k := .i64) tbok rfl hx7) ?_
  refine DGo.chunk' tbok 3 (σ' := ⟨27, [(22, vi s3.1), (21, vl eCandidate aB), (20, .agg [vs x7.Code, vs x7.Text, vi x7.At.X, vi x7.At.Y]), (19, .ptr ((eCandidate x7).map .tr) 0), (18, vi s3.1), (17, vl eCandidate aA), (0, vl eCandidate aA), (1, vl eCandidate aB), (5, vi s3.1), (14, vb (decide (s3.1 < (aA.length : Int))))], []⟩) (by kernel_rfl) ?_
  obtain ⟨x8, hx8, h⟩ := bind_some h
  refine DGo.step (x_index (L := aB) (f := eCandidate) (ti := ti37) (tj := ti61) (e := 61) (k := .i64) tbok rfl hx8) ?_
  refine DGo.chunk' tbok 1 (σ' := ⟨27, [(24, .agg [vs x8.Code, vs x8.Text, vi x8.At.X, vi x8.At.Y]), (23, .ptr ((eCandidate x8).map .tr) 0), (22, vi s3.1), (21, vl eCandidate aB), (20, .agg [vs x7.Code, vs x7.Text, vi x7.At.X, vi x7.At.Y]), (19, .ptr ((eCandidate x7).map .tr) 0), (18, vi s3.1), (17, vl eCandidate aA), (0, vl eCandidate aA), (1, vl eCandidate aB), (5, vi s3.1), (14, vb (decide (s3.1 < (aA.length : Int))))], []⟩) (by kernel_rfl) ?_
  obtain ⟨x9, hx9, h⟩ := bind_some h
  refine DGo.step (x_lstep_call (f := 43) (caps := []) (xs := [.agg [vs x7.Code, vs x7.Text, vi x7.At.X, vi x7.At.Y], .agg [vs x8.Code, vs x8.Text, vi x8.At.X, vi x8.At.Y]]) (ys := [.agg [vs x7.Code, vs x7.Text, vi x7.At.X, vi x7.At.Y], .agg [vs x8.Code, vs x8.Text, vi x8.At.X, vi x8.At.Y]]) (res := ⟨[.v (vb x9)], [], false⟩) (x := vb x9) (y := none) rfl ents43 (laws_eqCandidate_run x7 x8 _ hx9) rfl (by intro hc; cases hc)) ?_
  refine DGo.chunk' tbok 1 (σ' := ⟨27, [(26, vb (!x9)), (25, vb x9), (24, .agg [vs x8.Code, vs x8.Text, vi x8.At.X, vi x8.At.Y]), (23, .ptr ((eCandidate x8).map .tr) 0), (22, vi s3.1), (21, vl eCandidate aB), (20, .agg [vs x7.Code, vs x7.Text, vi x7.At.X, vi x7.At.Y]), (19, .ptr ((eCandidate x7).map .tr) 0), (18, vi s3.1), (17, vl eCandidate aA), (0, vl eCandidate aA), (1, vl eCandidate aB), (5, vi s3.1), (14, vb (decide (s3.1 < (aA.length : Int))))], []⟩) (by kernel_rfl) ?_
  refine DGo.nil (by kernel_rfl) ?_
  refine nx_n ?_
  refine swp_cond (b := (!x9)) (by kernel_rfl) (fun hb => ?_) (fun hb => ?_)
  replace h := cond_t hb h
  refine swp_seq ?_
  refine swp_reg ?_
  refine SRun.ck tbok 1 ⟨27, [(4, vb false)], []⟩ ?_
  refine SRun.nil ?_
  refine nx_n ?_
  refine swp_ret ?_
  replace h := Option.some.inj h
  subst h
  exact q_br (q_rr (q_rr (q_br (q_rr (q_fr (fin1 (by kernel_rfl) (finV rfl SV.flat_of (holds_t (by kernel_rfl)))))))))
  replace h := cond_f hb h
  refine swp_skip ?_
  replace h := Option.some.inj h
  subst h
  exact q_bn (q_l (Le.sub0))
  refine swp_reg ?_
  refine SRun.ck tbok 3 ⟨27, [(0, vl eCandidate aA), (1, vl eCandidate aB), (5, vi (w64 (s3.1 + 1)))], []⟩ ?_
  refine SRun.nil ?_
  replace h := Option.some.inj h
  subst h
  exact q_l (Le.sub0)
  replace h := cond_f hb h
  refine swp_exit ?_
  replace h := Option.some.inj h
  subst h
  exact nx_e (q_re (q_bh (q_l (Le.sub0))))
  refine swp_seq ?_
  refine swp_reg ?_
  refine SRun.ck tbok 1 ⟨27, [(4, vb true)], []⟩ ?_
  refine SRun.nil ?_
  refine nx_n ?_
  refine swp_ret ?_
  replace h := Option.some.inj h
  subst h
  exact q_fr (fin1 (by kernel_rfl) (finV rfl SV.flat_of (holds_t (by kernel_rfl))))
theorem ents19 : Ents Tryd.prog 19 := ents_of Tryd.func19 (by kernel_rfl) rfl
noncomputable def laws_FnExactAreCandidates (aAList : (List Candidate)) : Option (Bool) :=
  ((laws_szCandidateS aAList 1048576).bind fun x1 => (bif (decide (x1 < 0)) then some true else ((laws_toCandidateS aAList).bind fun x2 => ((spec_AreCandidates x2).bind fun x3 => ((laws_toCandidateS aAList).bind fun x4 => ((impl_AreCandidates x4).bind fun x5 => (bif (!(x5 == x3)) then some false else ((laws_toCandidateS aAList).bind fun x6 => ((laws_eqCandidateS x4 x6).bind fun x7 => (bif (!x7) then some false else some true))))))))))
set_option maxRecDepth 100000 in
set_option maxHeartbeats 4000000 in
theorem laws_FnExactAreCandidates_run (aAList : (List Candidate)) (r : Bool) (h : laws_FnExactAreCandidates aAList = some r) : SCall Tryd.prog 4 [.v (vl eCandidate aAList)] ⟨[.v (vb r)], [], false⟩ := by
  refine scall_in Tryd.func4 rfl [(.tmp 2)] rfl (fun r => ⟨[.v (vb r)], [], false⟩) (r := r) ?_
  unfold laws_FnExactAreCandidates at h
  refine swp_seq ?_
  refine swp_reg ?_
  refine SRun.ck tbok 1 ⟨27, [(0, vl eCandidate aAList)], []⟩ ?_
  refine SRun.nil ?_
  refine nx_n ?_
  refine swp_seq ?_
  refine swp_reg ?_
  refine SRun.ck tbok 1 ⟨27, [(0, vl eCandidate aAList), (3, vi 1048576)], []⟩ ?_
  refine SRun.nil ?_
  refine nx_n ?_
  refine swp_seq ?_
  refine swp_reg ?_
  refine SRun.ck tbok 2 ⟨27, [(0, vl eCandidate aAList), (7, vl eCandidate aAList), (8, vi 1048576)], []⟩ ?_
  obtain ⟨x1, hx1, h⟩ := bind_some h
  refine SRun.ls (x_lstep_call (f := 15) (caps := []) (xs := [vl eCandidate aAList, vi 1048576]) (ys := [vl eCandidate aAList, vi 1048576]) (res := ⟨[.v (vi x1)], [], false⟩) (x := vi x1) (y := none) rfl ents15 (laws_szCandidateS_run aAList 1048576 _ hx1) rfl (by intro hc; cases hc)) ?_
  refine SRun.ck tbok 1 ⟨27, [(0, vl eCandidate aAList), (3, vi x1)], []⟩ ?_
  refine SRun.nil ?_
  refine nx_n ?_
  refine swp_seq ?_
  refine swp_seq ?_
  refine swp_reg ?_
  refine SRun.ck tbok 2 ⟨27, [(0, vl eCandidate aAList), (11, vb (decide (x1 < 0)))], []⟩ ?_
  refine SRun.nil ?_
  refine nx_n ?_
  refine swp_cond (b := (decide (x1 < 0))) (by kernel_rfl) (fun hb => ?_) (fun hb => ?_)
  replace h := cond_t hb h
  refine swp_seq ?_
  refine swp_reg ?_
  refine SRun.ck tbok 1 ⟨27, [(2, vb true)], []⟩ ?_
  refine SRun.nil ?_
  refine nx_n ?_
  refine swp_ret ?_
  replace h := Option.some.inj h
  subst h
  exact nx_r (q_fr (fin1 (by kernel_rfl) (finV rfl SV.flat_of (holds_t (by kernel_rfl)))))
  replace h := cond_f hb h
  refine swp_skip ?_
  refine nx_n ?_
  refine swp_seq ?_
  refine swp_reg ?_
  refine SRun.ck tbok 1 ⟨27, [(0, vl eCandidate aAList), (12, vl eCandidate aAList)], []⟩ ?_
  obtain ⟨x2, hx2, h⟩ := bind_some h
  refine SRun.ls (x_lstep_call (f := 17) (caps := []) (xs := [vl eCandidate aAList]) (ys := [vl eCandidate aAList]) (res := ⟨[.own 61 4 x2.length (x2.map eCandidate)], [], false⟩) (x := .own 13) (y := some (.arr 61 4 x2.length (x2.map eCandidate))) rfl ents17 (laws_toCandidateS_run aAList _ hx2) rfl (by intro hc; cases hc)) ?_
  obtain ⟨x3, hx3, h⟩ := bind_some h
  refine SRun.ls (x_lstep_call (f := 16) (caps := []) (xs := [.own 13]) (ys := [vl eCandidate x2]) (res := ⟨[.v (vb x3)], [], false⟩) (x := vb x3) (y := none) rfl ents16 (spec_AreCandidates_run x2 _ hx3) rfl (by intro hc; cases hc)) ?_
  refine SRun.ck tbok 1 ⟨27, [(0, vl eCandidate aAList), (4, vb x3)], []⟩ ?_
  refine SRun.nil ?_
  refine nx_n ?_
  refine swp_seq ?_
  refine swp_reg ?_
  refine SRun.ck tbok 1 ⟨27, [(0, vl eCandidate aAList), (4, vb x3), (15, vl eCandidate aAList)], []⟩ ?_
  obtain ⟨x4, hx4, h⟩ := bind_some h
  refine SRun.ls (x_lstep_call (f := 17) (caps := []) (xs := [vl eCandidate aAList]) (ys := [vl eCandidate aAList]) (res := ⟨[.own 61 4 x4.length (x4.map eCandidate)], [], false⟩) (x := .own 16) (y := some (.arr 61 4 x4.length (x4.map eCandidate))) rfl ents17 (laws_toCandidateS_run aAList _ hx4) rfl (by intro hc; cases hc)) ?_
  refine SRun.ck tbok 1 ⟨27, [(0, vl eCandidate aAList), (4, vb x3), (5, .own 16)], [(16, .arr 61 4 x4.length (x4.map eCandidate))]⟩ ?_
  refine SRun.nil ?_
  refine nx_n ?_
  refine swp_seq ?_
  refine swp_reg ?_
  refine SRun.ck tbok 1 ⟨27, [(0, vl eCandidate aAList), (4, vb x3), (5, .own 16), (17, .own 16)], [(16, .arr 61 4 x4.length (x4.map eCandidate))]⟩ ?_
  obtain ⟨x5, hx5, h⟩ := bind_some h
  refine SRun.ls (x_lstep_call (f := 18) (caps := []) (xs := [.own 16]) (ys := [vl eCandidate x4]) (res := ⟨[.v (vb x5)], [], false⟩) (x := vb x5) (y := none) rfl ents18 (impl_AreCandidates_run x4 _ hx5) rfl (by intro hc; cases hc)) ?_
  refine SRun.ck tbok 1 ⟨27, [(0, vl eCandidate aAList), (4, vb x3), (5, .own 16), (6, vb x5)], [(16, .arr 61 4 x4.length (x4.map eCandidate))]⟩ ?_
  refine SRun.nil ?_
  refine nx_n ?_
  refine swp_seq ?_
  refine swp_seq ?_
  refine swp_reg ?_
  refine SRun.ck tbok 2 ⟨27, [(0, vl eCandidate aAList), (5, .own 16), (19, vb x5), (20, vb x3)], [(16, .arr 61 4 x4.length (x4.map eCandidate))]⟩ ?_
  refine SRun.ls (x_lstep_eqb tbok (ti := ti4) (i := x5) (j := x3) true rfl) ?_
  refine SRun.nil ?_
  refine nx_n ?_
  refine swp_cond (b := (!(x5 == x3))) (by kernel_rfl) (fun hb => ?_) (fun hb => ?_)
  replace h := cond_t hb h
  refine swp_seq ?_
  refine swp_reg ?_
  refine SRun.ck tbok 1 ⟨27, [(2, vb false)], []⟩ ?_
  refine SRun.nil ?_
  refine nx_n ?_
  refine swp_ret ?_
  replace h := Option.some.inj h
  subst h
  exact nx_r (q_fr (fin1 (by kernel_rfl) (finV rfl SV.flat_of (holds_t (by kernel_rfl)))))
  replace h := cond_f hb h
  refine swp_skip ?_
  refine nx_n ?_
  refine swp_seq ?_
  refine swp_seq ?_
  refine swp_reg ?_
  refine SRun.ck tbok 2 ⟨27, [(22, .own 16), (23, vl eCandidate aAList)], [(16, .arr 61 4 x4.length (x4.map eCandidate))]⟩ ?_
  obtain ⟨x6, hx6, h⟩ := bind_some h
  refine SRun.ls (x_lstep_call (f := 17) (caps := []) (xs := [vl eCandidate aAList]) (ys := [vl eCandidate aAList]) (res := ⟨[.own 61 4 x6.length (x6.map eCandidate)], [], false⟩) (x := .own 24) (y := some (.arr 61 4 x6.length (x6.map eCandidate))) rfl ents17 (laws_toCandidateS_run aAList _ hx6) rfl (by intro hc; cases hc)) ?_
  obtain ⟨x7, hx7, h⟩ := bind_some h
  refine SRun.ls (x_lstep_call (f := 19) (caps := []) (xs := [.own 16, .own 24]) (ys := [vl eCandidate x4, vl eCandidate x6]) (res := ⟨[.v (vb x7)], [], false⟩) (x := vb x7) (y := none) rfl ents19 (laws_eqCandidateS_run x4 x6 _ hx7) rfl (by intro hc; cases hc)) ?_
  refine SRun.ck tbok 1 ⟨27, [(26, vb (!x7))], []⟩ ?_
  refine SRun.nil ?_
  refine nx_n ?_
  refine swp_cond (b := (!x7)) (by kernel_rfl) (fun hb => ?_) (fun hb => ?_)
  replace h := cond_t hb h
  refine swp_seq ?_
  refine swp_reg ?_
  refine SRun.ck tbok 1 ⟨27, [(2, vb false)], []⟩ ?_
  refine SRun.nil ?_
  refine nx_n ?_
  refine swp_ret ?_
  replace h := Option.some.inj h
  subst h
  exact nx_r (q_fr (fin1 (by kernel_rfl) (finV rfl SV.flat_of (holds_t (by kernel_rfl)))))
  replace h := cond_f hb h
  refine swp_skip ?_
  refine nx_n ?_
  refine swp_seq ?_
  refine swp_reg ?_
  refine SRun.ck tbok 1 ⟨27, [(2, vb true)], []⟩ ?_
  refine SRun.nil ?_
  refine nx_n ?_
  refine swp_ret ?_
  replace h := Option.some.inj h
  subst h
  exact q_fr (fin1 (by kernel_rfl) (finV rfl SV.flat_of (holds_t (by kernel_rfl))))
theorem ents4 : Ents Tryd.prog 4 := ents_of Tryd.func4 (by kernel_rfl) rfl
end Go.Proofs.YtojhgfkohbfhhaaDoor.Sh
