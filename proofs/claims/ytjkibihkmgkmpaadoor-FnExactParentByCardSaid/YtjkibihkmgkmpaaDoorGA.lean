/- Typed functions and the calls that do what they say. -/
import Derived.Test.YtjkibihkmgkmpaaDoorGAp0
import Derived.Test.YtjkibihkmgkmpaaDoorKA
import Derived.Test.YtjkibihkmgkmpaaDoorKS
import Derived.Test.YtjkibihkmgkmpaaDoorH1
namespace Go.Proofs.YtjkibihkmgkmpaaDoor.Sh
open Go.RowKit
noncomputable def impl_areConsistent (aList : (List Claim)) : Option (Bool) :=
  ((((impl_hasPair aList).bind fun x1 => (bif (!x1) then ((impl_hasCircle aList).bind fun x2 => some (!x2)) else some false))).bind fun (j3 : Bool) => some j3)
set_option maxRecDepth 100000 in
set_option maxHeartbeats 4000000 in
theorem impl_areConsistent_run (aList : (List Claim)) (r : Bool) (h : impl_areConsistent aList = some r) : SCall Tryd.prog 32 [.v (vl eClaim aList)] ⟨[.v (vb r)], [], false⟩ := by
  refine scall_in Tryd.func32 rfl [(.tmp 2)] rfl (fun r => ⟨[.v (vb r)], [], false⟩) (r := r) ?_
  unfold impl_areConsistent at h
  refine swp_seq ?_
  refine swp_reg ?_
  refine SRun.ck tbok 1 ⟨11, [(0, vl eClaim aList)], []⟩ ?_
  refine SRun.nil ?_
  refine nx_n ?_
  refine swp_seq ?_
  refine swp_regJ h (fun j3 => ⟨11, [(2, vb j3)], []⟩) (fun v4 h => ?_) (fun j3 h => ?_)
  refine SRun.ck tbok 1 ⟨11, [(0, vl eClaim aList), (3, vl eClaim aList)], []⟩ ?_
  obtain ⟨x1, hx1, h⟩ := bind_some h
  refine SRun.ls (x_lstep_call (f := 42) (caps := []) (xs := [vl eClaim aList]) (ys := [vl eClaim aList]) (res := ⟨[.v (vb x1)], [], false⟩) (x := vb x1) (y := none) rfl ents42 (impl_hasPair_run aList _ hx1) rfl (by intro hc; cases hc)) ?_
  refine SRun.ck tbok 2 ⟨11, [(0, vl eClaim aList), (6, vb (!x1))], []⟩ ?_
  refine SRun.cut [(6, fun b => b)] (b := (!x1)) (by kernel_rfl) (fun hb => ?_) (fun hb => ?_)
  replace h := cond_t hb h
  refine SRun.ck tbok 1 ⟨11, [(6, vb true), (7, vl eClaim aList)], []⟩ ?_
  obtain ⟨x2, hx2, h⟩ := bind_some h
  refine SRun.ls (x_lstep_call (f := 43) (caps := []) (xs := [vl eClaim aList]) (ys := [vl eClaim aList]) (res := ⟨[.v (vb x2)], [], false⟩) (x := vb x2) (y := none) rfl ents43 (impl_hasCircle_run aList _ hx2) rfl (by intro hc; cases hc)) ?_
  refine SRun.ck tbok 3 ⟨11, [(2, vb (!x2))], []⟩ ?_
  refine SRun.nil ?_
  replace h := Option.some.inj h
  subst h
  exact Le.sub0
  replace h := cond_f hb h
  refine SRun.ck tbok 5 ⟨11, [(2, vb false)], []⟩ ?_
  refine SRun.nil ?_
  replace h := Option.some.inj h
  subst h
  exact Le.sub0
  refine swp_ret ?_
  replace h := Option.some.inj h
  subst h
  exact q_fr (fin1 (by kernel_rfl) (finV rfl SV.flat_of (holds_t (by kernel_rfl))))
theorem ents32 : Ents Tryd.prog 32 := ents_of Tryd.func32 (by kernel_rfl) rfl
noncomputable def impl_toldCode (aList : (List Claim)) (aPlace : ByteArray) (aYear : Int) : Option (Int) :=
  ((impl_aboutCode aList aPlace aYear).bind fun x1 => (((bif (x1 == 0) then ((impl_areConsistent aList).bind fun x2 => some (!x2)) else some false)).bind fun (j3 : Bool) => (bif j3 then some 5 else some x1)))
set_option maxRecDepth 100000 in
set_option maxHeartbeats 4000000 in
theorem impl_toldCode_run (aList : (List Claim)) (aPlace : ByteArray) (aYear : Int) (r : Int) (h : impl_toldCode aList aPlace aYear = some r) : SCall Tryd.prog 23 [.v (vl eClaim aList), .v (vs aPlace), .v (vi aYear)] ⟨[.v (vi r)], [], false⟩ := by
  refine scall_in Tryd.func23 rfl [(.tmp 6)] rfl (fun r => ⟨[.v (vi r)], [], false⟩) (r := r) ?_
  unfold impl_toldCode at h
  refine swp_seq ?_
  refine swp_reg ?_
  refine SRun.ck tbok 1 ⟨20, [(0, vl eClaim aList), (1, vs aPlace), (2, vi aYear)], []⟩ ?_
  refine SRun.nil ?_
  refine nx_n ?_
  refine swp_seq ?_
  refine swp_reg ?_
  refine SRun.ck tbok 3 ⟨20, [(0, vl eClaim aList), (8, vl eClaim aList), (9, vs aPlace), (10, vi aYear)], []⟩ ?_
  obtain ⟨x1, hx1, h⟩ := bind_some h
  refine SRun.ls (x_lstep_call (f := 31) (caps := []) (xs := [vl eClaim aList, vs aPlace, vi aYear]) (ys := [vl eClaim aList, vs aPlace, vi aYear]) (res := ⟨[.v (vi x1)], [], false⟩) (x := vi x1) (y := none) rfl ents31 (impl_aboutCode_run aList aPlace aYear _ hx1) rfl (by intro hc; cases hc)) ?_
  refine SRun.ck tbok 1 ⟨20, [(0, vl eClaim aList), (7, vi x1)], []⟩ ?_
  refine SRun.nil ?_
  refine nx_n ?_
  refine swp_seq ?_
  refine swp_seq ?_
  refine swp_regJ h (fun j3 => ⟨20, [(7, vi x1), (18, vb j3)], []⟩) (fun v4 h => ?_) (fun j3 h => ?_)
  refine SRun.ck tbok 3 ⟨20, [(0, vl eClaim aList), (7, vi x1), (14, vb (x1 == 0))], []⟩ ?_
  refine SRun.cut [(14, fun b => b)] (b := (x1 == 0)) (by kernel_rfl) (fun hb => ?_) (fun hb => ?_)
  replace h := cond_t hb h
  refine SRun.ck tbok 1 ⟨20, [(7, vi x1), (14, vb true), (15, vl eClaim aList)], []⟩ ?_
  obtain ⟨x2, hx2, h⟩ := bind_some h
  refine SRun.ls (x_lstep_call (f := 32) (caps := []) (xs := [vl eClaim aList]) (ys := [vl eClaim aList]) (res := ⟨[.v (vb x2)], [], false⟩) (x := vb x2) (y := none) rfl ents32 (impl_areConsistent_run aList _ hx2) rfl (by intro hc; cases hc)) ?_
  refine SRun.ck tbok 2 ⟨20, [(7, vi x1), (18, vb (!x2))], []⟩ ?_
  refine SRun.nil ?_
  replace h := Option.some.inj h
  subst h
  exact Le.sub0
  replace h := cond_f hb h
  refine SRun.ck tbok 4 ⟨20, [(7, vi x1), (18, vb false)], []⟩ ?_
  refine SRun.nil ?_
  replace h := Option.some.inj h
  subst h
  exact Le.sub0
  refine swp_cond (b := j3) (by kernel_rfl) (fun hb => ?_) (fun hb => ?_)
  replace h := cond_t hb h
  refine swp_seq ?_
  refine swp_reg ?_
  refine SRun.ck tbok 1 ⟨20, [(6, vi 5)], []⟩ ?_
  refine SRun.nil ?_
  refine nx_n ?_
  refine swp_ret ?_
  replace h := Option.some.inj h
  subst h
  exact nx_r (q_fr (fin1 (by kernel_rfl) (finV rfl SV.flat_of (holds_t (by kernel_rfl)))))
  replace h := cond_f hb h
  refine swp_skip ?_
  refine nx_n ?_
  refine swp_seq ?_
  refine swp_reg ?_
  refine SRun.ck tbok 2 ⟨20, [(6, vi x1)], []⟩ ?_
  refine SRun.nil ?_
  refine nx_n ?_
  refine swp_ret ?_
  replace h := Option.some.inj h
  subst h
  exact q_fr (fin1 (by kernel_rfl) (finV rfl SV.flat_of (holds_t (by kernel_rfl))))
theorem ents23 : Ents Tryd.prog 23 := ents_of Tryd.func23 (by kernel_rfl) rfl
noncomputable def impl_told_1 (aC : Claim) (c0 : Int) (c1 : ByteArray) (c2 : Int) : Option (Bool) :=
  (((bif (aC.Kind == c0) then (bif (aC.Place.toList == c1.toList) then ((impl_Span_has aC.Years c2).bind fun x1 => some x1) else some false) else some false)).bind fun (j2 : Bool) => some j2)
set_option maxRecDepth 100000 in
set_option maxHeartbeats 4000000 in
theorem impl_told_1_run (aC : Claim) (c0 : Int) (c1 : ByteArray) (c2 : Int) (r : Bool) (h : impl_told_1 aC c0 c1 c2 = some r) : SCall Tryd.prog 34 [.v (.agg [vs aC.Source, vi aC.Kind, vs aC.Place, vs aC.Value, vi aC.Years.From, vi aC.Years.To, vi aC.Weight]), .v (.ptr [vi c0] 0), .v (.ptr [vs c1] 0), .v (.ptr [vi c2] 0)] ⟨[.v (vb r)], [], false⟩ := by
  refine scall_in Tryd.func34 rfl [(.tmp 5)] rfl (fun r => ⟨[.v (vb r)], [], false⟩) (r := r) ?_
  unfold impl_told_1 at h
  refine swp_seq ?_
  refine swp_reg ?_
  refine SRun.ck tbok 2 ⟨22, [(1, .ptr [vi c0] 0), (2, .ptr [vs c1] 0), (3, .ptr [vi c2] 0), (4, .ref 4 0)], [(4, .box [vs aC.Source, vi aC.Kind, vs aC.Place, vs aC.Value, vi aC.Years.From, vi aC.Years.To, vi aC.Weight])]⟩ ?_
  refine SRun.nil ?_
  refine nx_n ?_
  refine swp_seq ?_
  refine swp_regJ h (fun j2 => ⟨22, [(5, vb j2)], []⟩) (fun v3 h => ?_) (fun j2 h => ?_)
  refine SRun.ck tbok 5 ⟨22, [(2, .ptr [vs c1] 0), (3, .ptr [vi c2] 0), (4, .ref 4 0), (10, vb (aC.Kind == c0))], [(4, .box [vs aC.Source, vi aC.Kind, vs aC.Place, vs aC.Value, vi aC.Years.From, vi aC.Years.To, vi aC.Weight])]⟩ ?_
  refine SRun.cut [(10, fun b => b)] (b := (aC.Kind == c0)) (by kernel_rfl) (fun hb => ?_) (fun hb => ?_)
  replace h := cond_t hb h
  refine SRun.ck tbok 6 ⟨22, [(3, .ptr [vi c2] 0), (4, .ref 4 0), (16, vb (aC.Place.toList == c1.toList))], [(4, .box [vs aC.Source, vi aC.Kind, vs aC.Place, vs aC.Value, vi aC.Years.From, vi aC.Years.To, vi aC.Weight])]⟩ ?_
  refine SRun.cut [(16, fun b => b)] (b := (aC.Place.toList == c1.toList)) (by kernel_rfl) (fun hb => ?_) (fun hb => ?_)
  replace h := cond_t hb h
  refine SRun.ck tbok 3 ⟨22, [(16, vb true), (18, .agg [vi aC.Years.From, vi aC.Years.To]), (19, vi c2)], []⟩ ?_
  obtain ⟨x1, hx1, h⟩ := bind_some h
  refine SRun.ls (x_lstep_call (f := 35) (caps := []) (xs := [.agg [vi aC.Years.From, vi aC.Years.To], vi c2]) (ys := [.agg [vi aC.Years.From, vi aC.Years.To], vi c2]) (res := ⟨[.v (vb x1)], [], false⟩) (x := vb x1) (y := none) rfl ents35 (impl_Span_has_run aC.Years c2 _ hx1) rfl (by intro hc; cases hc)) ?_
  refine SRun.ck tbok 2 ⟨22, [(5, vb x1)], []⟩ ?_
  refine SRun.nil ?_
  replace h := Option.some.inj h
  subst h
  exact Le.sub0
  replace h := cond_f hb h
  refine SRun.ck tbok 6 ⟨22, [(5, vb false)], []⟩ ?_
  refine SRun.nil ?_
  replace h := Option.some.inj h
  subst h
  exact Le.sub0
  replace h := cond_f hb h
  refine SRun.ck tbok 12 ⟨22, [(5, vb false)], []⟩ ?_
  refine SRun.nil ?_
  replace h := Option.some.inj h
  subst h
  exact Le.sub0
  refine swp_ret ?_
  replace h := Option.some.inj h
  subst h
  exact q_fr (fin1 (by kernel_rfl) (finV rfl SV.flat_of (holds_t (by kernel_rfl))))
theorem ents34 : Ents Tryd.prog 34 := ents_of Tryd.func34 (by kernel_rfl) rfl
noncomputable def slices_IndexFunc_Claim_impl_told_1 (aS : (List Claim)) (aF0 : Int) (aF1 : ByteArray) (aF2 : Int) : Option (Int) :=
  (((forN (aS.length : Int) (fun (i3 : Int) (_ : Unit) => ((at' aS i3).bind fun x7 => ((impl_told_1 x7 aF0 aF1 aF2).bind fun x8 => (bif x8 then some (.inr (.inr i3)) else some (.inl ()))))) (fun (_ : Unit) => .inl ()) 0 ())).bind (Sum.elim (fun (_ : Unit) => some (-1)) some))
set_option maxRecDepth 100000 in
set_option maxHeartbeats 4000000 in
theorem slices_IndexFunc_Claim_impl_told_1_run (aS : (List Claim)) (aF0 : Int) (aF1 : ByteArray) (aF2 : Int) (r : Int) (h : slices_IndexFunc_Claim_impl_told_1 aS aF0 aF1 aF2 = some r) : SCall Tryd.prog 33 [.v (vl eClaim aS), .v (.clo 34 [.ptr [vi aF0] 0, .ptr [vs aF1] 0, .ptr [vi aF2] 0])] ⟨[.v (vi r)], [], false⟩ := by
  refine scall_in Tryd.func33 rfl [(.tmp 4)] rfl (fun r => ⟨[.v (vi r)], [], false⟩) (r := r) ?_
  unfold slices_IndexFunc_Claim_impl_told_1 at h
  refine swp_seq ?_
  refine swp_reg ?_
  refine SRun.ck tbok 1 ⟨19, [(0, vl eClaim aS), (1, .clo 34 [.ptr [vi aF0] 0, .ptr [vs aF1] 0, .ptr [vi aF2] 0])], []⟩ ?_
  refine SRun.nil ?_
  refine nx_n ?_
  refine swp_seq ?_
  refine swp_seq ?_
  refine swp_reg ?_
  refine SRun.ck tbok 3 ⟨19, [(0, vl eClaim aS), (1, .clo 34 [.ptr [vi aF0] 0, .ptr [vs aF1] 0, .ptr [vi aF2] 0]), (7, vi (aS.length : Int)), (8, vi 0)], []⟩ ?_
  refine SRun.nil ?_
  refine nx_n ?_
  refine swp_seqE (r := r) h (fun j1 => ⟨19, [], []⟩) (fun v2 h => ?_) (fun j1 h => ?_)
  refine swp_blk (a := v2) ?_
  refine swp_lpL (r := v2) (s := (0, ())) _ (fun s3 => ⟨19, [(0, vl eClaim aS), (1, .clo 34 [.ptr [vi aF0] 0, .ptr [vs aF1] 0, .ptr [vi aF2] 0]), (7, vi (aS.length : Int)), (8, vi s3.1)], []⟩) _ (Le.sub0) h (fun s3 v4 h => ?_)
  refine swp_seq ?_
  refine swp_reg ?_
  refine SRun.ck tbok 1 ⟨19, [(0, vl eClaim aS), (1, .clo 34 [.ptr [vi aF0] 0, .ptr [vs aF1] 0, .ptr [vi aF2] 0]), (7, vi (aS.length : Int)), (8, vi s3.1), (9, vb (decide (s3.1 < (aS.length : Int))))], []⟩ ?_
  refine SRun.nil ?_
  refine nx_n ?_
  refine swp_seq ?_
  refine swp_cond (b := (decide (s3.1 < (aS.length : Int)))) (by kernel_rfl) (fun hb => ?_) (fun hb => ?_)
  replace h := cond_t hb h
  refine swp_skip ?_
  refine nx_n ?_
  refine swp_seq ?_
  refine swp_seqL (r := v4) h (fun j5 => ⟨19, [(0, vl eClaim aS), (1, .clo 34 [.ptr [vi aF0] 0, .ptr [vs aF1] 0, .ptr [vi aF2] 0]), (7, vi (aS.length : Int)), (8, vi s3.1)], []⟩) (fun v6 h => ?_) (fun j5 h => ?_)
  refine swp_blk (a := v6) ?_
  refine swp_seq ?_
  refine swp_reg ?_
  refine SRun.ck tbok 2 ⟨19, [(0, vl eClaim aS), (1, .clo 34 [.ptr [vi aF0] 0, .ptr [vs aF1] 0, .ptr [vi aF2] 0]), (5, vi s3.1), (7, vi (aS.length : Int)), (8, vi s3.1)], []⟩ ?_
  refine SRun.nil ?_
  refine nx_n ?_
  refine swp_seq ?_
  refine swp_reg ?_
  refine SRun.ck tbok 3 ⟨19, [(0, vl eClaim aS), (1, .clo 34 [.ptr [vi aF0] 0, .ptr [vs aF1] 0, .ptr [vi aF2] 0]), (5, vi s3.1), (7, vi (aS.length : Int)), (8, vi s3.1), (11, .clo 34 [.ptr [vi aF0] 0, .ptr [vs aF1] 0, .ptr [vi aF2] 0]), (12, vl eClaim aS), (13, vi s3.1)], []⟩ ?_
  obtain ⟨x7, hx7, h⟩ := bind_some h
  refine SRun.ls (x_index (L := aS) (f := eClaim) (ti := ti26) (tj := ti39) (e := 39) (k := .i64) tbok rfl hx7) ?_
  refine SRun.ck tbok 1 ⟨19, [(0, vl eClaim aS), (1, .clo 34 [.ptr [vi aF0] 0, .ptr [vs aF1] 0, .ptr [vi aF2] 0]), (5, vi s3.1), (7, vi (aS.length : Int)), (8, vi s3.1), (11, .clo 34 [.ptr [vi aF0] 0, .ptr [vs aF1] 0, .ptr [vi aF2] 0]), (15, .agg [vs x7.Source, vi x7.Kind, vs x7.Place, vs x7.Value, vi x7.Years.From, vi x7.Years.To, vi x7.Weight])], []⟩ ?_
  obtain ⟨x8, hx8, h⟩ := bind_some h
  refine SRun.ls (x_lstep_call (f := 34) (caps := [.ptr [vi aF0] 0, .ptr [vs aF1] 0, .ptr [vi aF2] 0]) (xs := [.agg [vs x7.Source, vi x7.Kind, vs x7.Place, vs x7.Value, vi x7.Years.From, vi x7.Years.To, vi x7.Weight]]) (ys := [.agg [vs x7.Source, vi x7.Kind, vs x7.Place, vs x7.Value, vi x7.Years.From, vi x7.Years.To, vi x7.Weight], .ptr [vi aF0] 0, .ptr [vs aF1] 0, .ptr [vi aF2] 0]) (res := ⟨[.v (vb x8)], [], false⟩) (x := vb x8) (y := none) rfl ents34 (impl_told_1_run x7 aF0 aF1 aF2 _ hx8) rfl (by intro hc; cases hc)) ?_
  refine SRun.nil ?_
  refine nx_n ?_
  refine swp_cond (b := x8) (by kernel_rfl) (fun hb => ?_) (fun hb => ?_)
  replace h := cond_t hb h
  refine swp_seq ?_
  refine swp_reg ?_
  refine SRun.ck tbok 2 ⟨19, [(4, vi s3.1)], []⟩ ?_
  refine SRun.nil ?_
  refine nx_n ?_
  refine swp_ret ?_
  replace h := Option.some.inj h
  subst h
  exact q_br (q_rr (q_rr (q_br (q_rr (q_fr (fin1 (by kernel_rfl) (finV rfl SV.flat_of (holds_t (by kernel_rfl)))))))))
  replace h := cond_f hb h
  refine swp_skip ?_
  replace h := Option.some.inj h
  subst h
  exact q_bn (q_l (Le.sub0))
  refine swp_reg ?_
  refine SRun.ck tbok 2 ⟨19, [(0, vl eClaim aS), (1, .clo 34 [.ptr [vi aF0] 0, .ptr [vs aF1] 0, .ptr [vi aF2] 0]), (7, vi (aS.length : Int)), (8, vi (w64 (s3.1 + 1)))], []⟩ ?_
  refine SRun.nil ?_
  replace h := Option.some.inj h
  subst h
  exact q_l (Le.sub0)
  replace h := cond_f hb h
  refine swp_exit ?_
  replace h := Option.some.inj h
  subst h
  exact nx_e (q_re (q_bh (q_l (Le.sub0))))
  refine swp_seq ?_
  refine swp_reg ?_
  refine SRun.ck tbok 1 ⟨19, [(4, vi (-1))], []⟩ ?_
  refine SRun.nil ?_
  refine nx_n ?_
  refine swp_ret ?_
  replace h := Option.some.inj h
  subst h
  exact q_fr (fin1 (by kernel_rfl) (finV rfl SV.flat_of (holds_t (by kernel_rfl))))
noncomputable def impl_told (aList : (List Claim)) (aKind : Int) (aPlace : ByteArray) (aYear : Int) : Option (ByteArray × Bool) :=
  ((slices_IndexFunc_Claim_impl_told_1 aList aKind aPlace aYear).bind fun x1 => (bif (decide (x1 < 0)) then some ((ByteArray.mk #[]), false) else ((at' aList x1).bind fun x2 => some (x2.Value, true))))
set_option maxRecDepth 100000 in
set_option maxHeartbeats 4000000 in
theorem impl_told_run (aList : (List Claim)) (aKind : Int) (aPlace : ByteArray) (aYear : Int) (r : ByteArray × Bool) (h : impl_told aList aKind aPlace aYear = some r) : SCall Tryd.prog 24 [.v (vl eClaim aList), .v (vi aKind), .v (vs aPlace), .v (vi aYear)] ⟨[.v (vs r.1), .v (vb r.2)], [], false⟩ := by
  refine scall_in Tryd.func24 rfl [(.tmp 8), (.tmp 9)] rfl (fun r => ⟨[.v (vs r.1), .v (vb r.2)], [], false⟩) (r := r) ?_
  unfold impl_told at h
  refine swp_seq ?_
  refine swp_reg ?_
  refine SRun.ck tbok 5 ⟨21, [(0, vl eClaim aList), (5, .ref 5 0), (6, .ref 6 0), (7, .ref 7 0)], [(5, .box [vi aKind]), (6, .box [vs aPlace]), (7, .box [vi aYear])]⟩ ?_
  refine SRun.nil ?_
  refine nx_n ?_
  refine swp_seq ?_
  refine swp_reg ?_
  refine SRun.ck tbok 2 ⟨21, [(0, vl eClaim aList), (11, vl eClaim aList), (12, .clo 34 [.ref 5 0, .ref 6 0, .ref 7 0])], [(5, .box [vi aKind]), (6, .box [vs aPlace]), (7, .box [vi aYear])]⟩ ?_
  obtain ⟨x1, hx1, h⟩ := bind_some h
  refine SRun.ls (x_lstep_call (f := 33) (caps := []) (xs := [vl eClaim aList, .clo 34 [.ref 5 0, .ref 6 0, .ref 7 0]]) (ys := [vl eClaim aList, .clo 34 [.ptr [vi aKind] 0, .ptr [vs aPlace] 0, .ptr [vi aYear] 0]]) (res := ⟨[.v (vi x1)], [], false⟩) (x := vi x1) (y := none) rfl ents33 (slices_IndexFunc_Claim_impl_told_1_run aList aKind aPlace aYear _ hx1) rfl (by intro hc; cases hc)) ?_
  refine SRun.ck tbok 1 ⟨21, [(0, vl eClaim aList), (10, vi x1)], []⟩ ?_
  refine SRun.nil ?_
  refine nx_n ?_
  refine swp_seq ?_
  refine swp_seq ?_
  refine swp_reg ?_
  refine SRun.ck tbok 2 ⟨21, [(0, vl eClaim aList), (10, vi x1), (15, vb (decide (x1 < 0)))], []⟩ ?_
  refine SRun.nil ?_
  refine nx_n ?_
  refine swp_cond (b := (decide (x1 < 0))) (by kernel_rfl) (fun hb => ?_) (fun hb => ?_)
  replace h := cond_t hb h
  refine swp_seq ?_
  refine swp_reg ?_
  refine SRun.ck tbok 2 ⟨21, [(8, vs (ByteArray.mk #[])), (9, vb false)], []⟩ ?_
  refine SRun.nil ?_
  refine nx_n ?_
  refine swp_ret ?_
  replace h := Option.some.inj h
  subst h
  exact nx_r (q_fr (fin2 (by kernel_rfl) (finV rfl SV.flat_of (holds_t (by kernel_rfl))) (finV rfl SV.flat_of (holds_t (by kernel_rfl)))))
  replace h := cond_f hb h
  refine swp_skip ?_
  refine nx_n ?_
  refine swp_seq ?_
  refine swp_reg ?_
  refine SRun.ck tbok 2 ⟨21, [(16, vl eClaim aList), (17, vi x1)], []⟩ ?_
  obtain ⟨x2, hx2, h⟩ := bind_some h
  refine SRun.ls (x_index (L := aList) (f := eClaim) (ti := ti26) (tj := ti39) (e := 39) (k := .i64) tbok rfl hx2) ?_
  refine SRun.ck tbok 4 ⟨21, [(8, vs x2.Value), (9, vb true)], []⟩ ?_
  refine SRun.nil ?_
  refine nx_n ?_
  refine swp_ret ?_
  replace h := Option.some.inj h
  subst h
  exact q_fr (fin2 (by kernel_rfl) (finV rfl SV.flat_of (holds_t (by kernel_rfl))) (finV rfl SV.flat_of (holds_t (by kernel_rfl))))
theorem ents24 : Ents Tryd.prog 24 := ents_of Tryd.func24 (by kernel_rfl) rfl
noncomputable def impl_toldBy (aList : (List Claim)) (aKind : Int) (aPlace : ByteArray) (aYear : Int) : Option (ByteArray × Int) :=
  ((impl_toldCode aList aPlace aYear).bind fun x1 => (bif (x1 != 0) then some ((ByteArray.mk #[]), x1) else ((impl_told aList aKind aPlace aYear).bind fun x2 => (bif (!x2.2) then some ((ByteArray.mk #[]), 4) else some (x2.1, 0)))))
set_option maxRecDepth 100000 in
set_option maxHeartbeats 4000000 in
theorem impl_toldBy_run (aList : (List Claim)) (aKind : Int) (aPlace : ByteArray) (aYear : Int) (r : ByteArray × Int) (h : impl_toldBy aList aKind aPlace aYear = some r) : SCall Tryd.prog 16 [.v (vl eClaim aList), .v (vi aKind), .v (vs aPlace), .v (vi aYear)] ⟨[.v (vs r.1), .v (vi r.2)], [], false⟩ := by
  refine scall_in Tryd.func16 rfl [(.tmp 8), (.tmp 9)] rfl (fun r => ⟨[.v (vs r.1), .v (vi r.2)], [], false⟩) (r := r) ?_
  unfold impl_toldBy at h
  refine swp_seq ?_
  refine swp_reg ?_
  refine SRun.ck tbok 2 ⟨31, [(0, vl eClaim aList), (1, vi aKind), (2, vs aPlace), (3, vi aYear)], []⟩ ?_
  refine SRun.nil ?_
  refine nx_n ?_
  refine swp_seq ?_
  refine swp_seq ?_
  refine swp_reg ?_
  refine SRun.ck tbok 3 ⟨31, [(0, vl eClaim aList), (1, vi aKind), (2, vs aPlace), (3, vi aYear), (13, vl eClaim aList), (14, vs aPlace), (15, vi aYear)], []⟩ ?_
  obtain ⟨x1, hx1, h⟩ := bind_some h
  refine SRun.ls (x_lstep_call (f := 23) (caps := []) (xs := [vl eClaim aList, vs aPlace, vi aYear]) (ys := [vl eClaim aList, vs aPlace, vi aYear]) (res := ⟨[.v (vi x1)], [], false⟩) (x := vi x1) (y := none) rfl ents23 (impl_toldCode_run aList aPlace aYear _ hx1) rfl (by intro hc; cases hc)) ?_
  refine SRun.ck tbok 1 ⟨31, [(0, vl eClaim aList), (1, vi aKind), (2, vs aPlace), (3, vi aYear), (10, vi x1)], []⟩ ?_
  refine SRun.nil ?_
  refine nx_n ?_
  refine swp_seq ?_
  refine swp_reg ?_
  refine SRun.ck tbok 2 ⟨31, [(0, vl eClaim aList), (1, vi aKind), (2, vs aPlace), (3, vi aYear), (10, vi x1), (18, vb (x1 != 0))], []⟩ ?_
  refine SRun.nil ?_
  refine nx_n ?_
  refine swp_cond (b := (x1 != 0)) (by kernel_rfl) (fun hb => ?_) (fun hb => ?_)
  replace h := cond_t hb h
  refine swp_seq ?_
  refine swp_reg ?_
  refine SRun.ck tbok 3 ⟨31, [(8, vs (ByteArray.mk #[])), (9, vi x1)], []⟩ ?_
  refine SRun.nil ?_
  refine nx_n ?_
  refine swp_ret ?_
  replace h := Option.some.inj h
  subst h
  exact nx_r (q_fr (fin2 (by kernel_rfl) (finV rfl SV.flat_of (holds_t (by kernel_rfl))) (finV rfl SV.flat_of (holds_t (by kernel_rfl)))))
  replace h := cond_f hb h
  refine swp_skip ?_
  refine nx_n ?_
  refine swp_seq ?_
  refine swp_reg ?_
  refine SRun.ck tbok 4 ⟨31, [(21, vl eClaim aList), (22, vi aKind), (23, vs aPlace), (24, vi aYear)], []⟩ ?_
  obtain ⟨x2, hx2, h⟩ := bind_some h
  refine SRun.ls (x_lstep_call (f := 24) (caps := []) (xs := [vl eClaim aList, vi aKind, vs aPlace, vi aYear]) (ys := [vl eClaim aList, vi aKind, vs aPlace, vi aYear]) (res := ⟨[.v (vs x2.1), .v (vb x2.2)], [], false⟩) (x := .tup [vs x2.1, vb x2.2]) (y := none) rfl ents24 (impl_told_run aList aKind aPlace aYear _ hx2) rfl (by intro hc; cases hc)) ?_
  refine SRun.ck tbok 5 ⟨31, [(11, vs x2.1), (12, vb x2.2)], []⟩ ?_
  refine SRun.nil ?_
  refine nx_n ?_
  refine swp_seq ?_
  refine swp_seq ?_
  refine swp_reg ?_
  refine SRun.ck tbok 2 ⟨31, [(11, vs x2.1), (29, vb (!x2.2))], []⟩ ?_
  refine SRun.nil ?_
  refine nx_n ?_
  refine swp_cond (b := (!x2.2)) (by kernel_rfl) (fun hb => ?_) (fun hb => ?_)
  replace h := cond_t hb h
  refine swp_seq ?_
  refine swp_reg ?_
  refine SRun.ck tbok 2 ⟨31, [(8, vs (ByteArray.mk #[])), (9, vi 4)], []⟩ ?_
  refine SRun.nil ?_
  refine nx_n ?_
  refine swp_ret ?_
  replace h := Option.some.inj h
  subst h
  exact nx_r (q_fr (fin2 (by kernel_rfl) (finV rfl SV.flat_of (holds_t (by kernel_rfl))) (finV rfl SV.flat_of (holds_t (by kernel_rfl)))))
  replace h := cond_f hb h
  refine swp_skip ?_
  refine nx_n ?_
  refine swp_seq ?_
  refine swp_reg ?_
  refine SRun.ck tbok 3 ⟨31, [(8, vs x2.1), (9, vi 0)], []⟩ ?_
  refine SRun.nil ?_
  refine nx_n ?_
  refine swp_ret ?_
  replace h := Option.some.inj h
  subst h
  exact q_fr (fin2 (by kernel_rfl) (finV rfl SV.flat_of (holds_t (by kernel_rfl))) (finV rfl SV.flat_of (holds_t (by kernel_rfl))))
theorem ents16 : Ents Tryd.prog 16 := ents_of Tryd.func16 (by kernel_rfl) rfl
noncomputable def impl_NameBy (aList : (List Claim)) (aPlace : ByteArray) (aYear : Int) : Option (ByteArray × Int) :=
  ((impl_toldBy aList 0 aPlace aYear).bind fun x1 => some (x1.1, x1.2))
set_option maxRecDepth 100000 in
set_option maxHeartbeats 4000000 in
theorem impl_NameBy_run (aList : (List Claim)) (aPlace : ByteArray) (aYear : Int) (r : ByteArray × Int) (h : impl_NameBy aList aPlace aYear = some r) : SCall Tryd.prog 11 [.v (vl eClaim aList), .v (vs aPlace), .v (vi aYear)] ⟨[.v (vs r.1), .v (vi r.2)], [], false⟩ := by
  refine scall_in Tryd.func11 rfl [(.tmp 6), (.tmp 7)] rfl (fun r => ⟨[.v (vs r.1), .v (vi r.2)], [], false⟩) (r := r) ?_
  unfold impl_NameBy at h
  refine swp_seq ?_
  refine swp_reg ?_
  refine SRun.ck tbok 2 ⟨14, [(0, vl eClaim aList), (1, vs aPlace), (2, vi aYear)], []⟩ ?_
  refine SRun.nil ?_
  refine nx_n ?_
  refine swp_seq ?_
  refine swp_reg ?_
  refine SRun.ck tbok 3 ⟨14, [(8, vl eClaim aList), (9, vs aPlace), (10, vi aYear)], []⟩ ?_
  obtain ⟨x1, hx1, h⟩ := bind_some h
  refine SRun.ls (x_lstep_call (f := 16) (caps := []) (xs := [vl eClaim aList, vi 0, vs aPlace, vi aYear]) (ys := [vl eClaim aList, vi 0, vs aPlace, vi aYear]) (res := ⟨[.v (vs x1.1), .v (vi x1.2)], [], false⟩) (x := .tup [vs x1.1, vi x1.2]) (y := none) rfl ents16 (impl_toldBy_run aList 0 aPlace aYear _ hx1) rfl (by intro hc; cases hc)) ?_
  refine SRun.ck tbok 4 ⟨14, [(6, vs x1.1), (7, vi x1.2)], []⟩ ?_
  refine SRun.nil ?_
  refine nx_n ?_
  refine swp_ret ?_
  replace h := Option.some.inj h
  subst h
  exact q_fr (fin2 (by kernel_rfl) (finV rfl SV.flat_of (holds_t (by kernel_rfl))) (finV rfl SV.flat_of (holds_t (by kernel_rfl))))
theorem ents11 : Ents Tryd.prog 11 := ents_of Tryd.func11 (by kernel_rfl) rfl
noncomputable def laws_eqSpan (aA : Span) (aB : Span) : Option (Bool) :=
  (bif (aA.From != aB.From) then some false else (bif (aA.To != aB.To) then some false else some true))
set_option maxRecDepth 100000 in
set_option maxHeartbeats 4000000 in
theorem laws_eqSpan_run (aA : Span) (aB : Span) (r : Bool) (h : laws_eqSpan aA aB = some r) : SCall Tryd.prog 25 [.v (.agg [vi aA.From, vi aA.To]), .v (.agg [vi aB.From, vi aB.To])] ⟨[.v (vb r)], [], false⟩ := by
  refine scall_in Tryd.func25 rfl [(.tmp 4)] rfl (fun r => ⟨[.v (vb r)], [], false⟩) (r := r) ?_
  unfold laws_eqSpan at h
  refine swp_seq ?_
  refine swp_reg ?_
  refine SRun.ck tbok 3 ⟨15, [(2, .ref 2 0), (3, .ref 3 0)], [(2, .box [vi aA.From, vi aA.To]), (3, .box [vi aB.From, vi aB.To])]⟩ ?_
  refine SRun.nil ?_
  refine nx_n ?_
  refine swp_seq ?_
  refine swp_seq ?_
  refine swp_reg ?_
  refine SRun.ck tbok 5 ⟨15, [(2, .ref 2 0), (3, .ref 3 0), (9, vb (aA.From != aB.From))], [(2, .box [vi aA.From, vi aA.To]), (3, .box [vi aB.From, vi aB.To])]⟩ ?_
  refine SRun.nil ?_
  refine nx_n ?_
  refine swp_cond (b := (aA.From != aB.From)) (by kernel_rfl) (fun hb => ?_) (fun hb => ?_)
  replace h := cond_t hb h
  refine swp_seq ?_
  refine swp_reg ?_
  refine SRun.ck tbok 1 ⟨15, [(4, vb false)], []⟩ ?_
  refine SRun.nil ?_
  refine nx_n ?_
  refine swp_ret ?_
  replace h := Option.some.inj h
  subst h
  exact nx_r (q_fr (fin1 (by kernel_rfl) (finV rfl SV.flat_of (holds_t (by kernel_rfl)))))
  replace h := cond_f hb h
  refine swp_skip ?_
  refine nx_n ?_
  refine swp_seq ?_
  refine swp_seq ?_
  refine swp_reg ?_
  refine SRun.ck tbok 5 ⟨15, [(14, vb (aA.To != aB.To))], []⟩ ?_
  refine SRun.nil ?_
  refine nx_n ?_
  refine swp_cond (b := (aA.To != aB.To)) (by kernel_rfl) (fun hb => ?_) (fun hb => ?_)
  replace h := cond_t hb h
  refine swp_seq ?_
  refine swp_reg ?_
  refine SRun.ck tbok 1 ⟨15, [(4, vb false)], []⟩ ?_
  refine SRun.nil ?_
  refine nx_n ?_
  refine swp_ret ?_
  replace h := Option.some.inj h
  subst h
  exact nx_r (q_fr (fin1 (by kernel_rfl) (finV rfl SV.flat_of (holds_t (by kernel_rfl)))))
  replace h := cond_f hb h
  refine swp_skip ?_
  refine nx_n ?_
  refine swp_seq ?_
  refine swp_reg ?_
  refine SRun.ck tbok 1 ⟨15, [(4, vb true)], []⟩ ?_
  refine SRun.nil ?_
  refine nx_n ?_
  refine swp_ret ?_
  replace h := Option.some.inj h
  subst h
  exact q_fr (fin1 (by kernel_rfl) (finV rfl SV.flat_of (holds_t (by kernel_rfl))))
theorem ents25 : Ents Tryd.prog 25 := ents_of Tryd.func25 (by kernel_rfl) rfl
noncomputable def laws_eqClaim (aA : Claim) (aB : Claim) : Option (Bool) :=
  (bif (!(aA.Source.toList == aB.Source.toList)) then some false else (bif (aA.Kind != aB.Kind) then some false else (bif (!(aA.Place.toList == aB.Place.toList)) then some false else (bif (!(aA.Value.toList == aB.Value.toList)) then some false else ((laws_eqSpan aA.Years aB.Years).bind fun x1 => (bif (!x1) then some false else (bif (aA.Weight != aB.Weight) then some false else some true)))))))
set_option maxRecDepth 100000 in
set_option maxHeartbeats 4000000 in
theorem laws_eqClaim_run (aA : Claim) (aB : Claim) (r : Bool) (h : laws_eqClaim aA aB = some r) : SCall Tryd.prog 17 [.v (.agg [vs aA.Source, vi aA.Kind, vs aA.Place, vs aA.Value, vi aA.Years.From, vi aA.Years.To, vi aA.Weight]), .v (.agg [vs aB.Source, vi aB.Kind, vs aB.Place, vs aB.Value, vi aB.Years.From, vi aB.Years.To, vi aB.Weight])] ⟨[.v (vb r)], [], false⟩ := by
  refine scall_in Tryd.func17 rfl [(.tmp 4)] rfl (fun r => ⟨[.v (vb r)], [], false⟩) (r := r) ?_
  unfold laws_eqClaim at h
  refine swp_seq ?_
  refine swp_reg ?_
  refine SRun.ck tbok 3 ⟨36, [(2, .ref 2 0), (3, .ref 3 0)], [(2, .box [vs aA.Source, vi aA.Kind, vs aA.Place, vs aA.Value, vi aA.Years.From, vi aA.Years.To, vi aA.Weight]), (3, .box [vs aB.Source, vi aB.Kind, vs aB.Place, vs aB.Value, vi aB.Years.From, vi aB.Years.To, vi aB.Weight])]⟩ ?_
  refine SRun.nil ?_
  refine nx_n ?_
  refine swp_seq ?_
  refine swp_seq ?_
  refine swp_reg ?_
  refine SRun.ck tbok 5 ⟨36, [(2, .ref 2 0), (3, .ref 3 0), (9, vb (!(aA.Source.toList == aB.Source.toList)))], [(2, .box [vs aA.Source, vi aA.Kind, vs aA.Place, vs aA.Value, vi aA.Years.From, vi aA.Years.To, vi aA.Weight]), (3, .box [vs aB.Source, vi aB.Kind, vs aB.Place, vs aB.Value, vi aB.Years.From, vi aB.Years.To, vi aB.Weight])]⟩ ?_
  refine SRun.nil ?_
  refine nx_n ?_
  refine swp_cond (b := (!(aA.Source.toList == aB.Source.toList))) (by kernel_rfl) (fun hb => ?_) (fun hb => ?_)
  replace h := cond_t hb h
  refine swp_seq ?_
  refine swp_reg ?_
  refine SRun.ck tbok 1 ⟨36, [(4, vb false)], []⟩ ?_
  refine SRun.nil ?_
  refine nx_n ?_
  refine swp_ret ?_
  replace h := Option.some.inj h
  subst h
  exact nx_r (q_fr (fin1 (by kernel_rfl) (finV rfl SV.flat_of (holds_t (by kernel_rfl)))))
  replace h := cond_f hb h
  refine swp_skip ?_
  refine nx_n ?_
  refine swp_seq ?_
  refine swp_seq ?_
  refine swp_reg ?_
  refine SRun.ck tbok 5 ⟨36, [(2, .ref 2 0), (3, .ref 3 0), (14, vb (aA.Kind != aB.Kind))], [(2, .box [vs aA.Source, vi aA.Kind, vs aA.Place, vs aA.Value, vi aA.Years.From, vi aA.Years.To, vi aA.Weight]), (3, .box [vs aB.Source, vi aB.Kind, vs aB.Place, vs aB.Value, vi aB.Years.From, vi aB.Years.To, vi aB.Weight])]⟩ ?_
  refine SRun.nil ?_
  refine nx_n ?_
  refine swp_cond (b := (aA.Kind != aB.Kind)) (by kernel_rfl) (fun hb => ?_) (fun hb => ?_)
  replace h := cond_t hb h
  refine swp_seq ?_
  refine swp_reg ?_
  refine SRun.ck tbok 1 ⟨36, [(4, vb false)], []⟩ ?_
  refine SRun.nil ?_
  refine nx_n ?_
  refine swp_ret ?_
  replace h := Option.some.inj h
  subst h
  exact nx_r (q_fr (fin1 (by kernel_rfl) (finV rfl SV.flat_of (holds_t (by kernel_rfl)))))
  replace h := cond_f hb h
  refine swp_skip ?_
  refine nx_n ?_
  refine swp_seq ?_
  refine swp_seq ?_
  refine swp_reg ?_
  refine SRun.ck tbok 5 ⟨36, [(2, .ref 2 0), (3, .ref 3 0), (19, vb (!(aA.Place.toList == aB.Place.toList)))], [(2, .box [vs aA.Source, vi aA.Kind, vs aA.Place, vs aA.Value, vi aA.Years.From, vi aA.Years.To, vi aA.Weight]), (3, .box [vs aB.Source, vi aB.Kind, vs aB.Place, vs aB.Value, vi aB.Years.From, vi aB.Years.To, vi aB.Weight])]⟩ ?_
  refine SRun.nil ?_
  refine nx_n ?_
  refine swp_cond (b := (!(aA.Place.toList == aB.Place.toList))) (by kernel_rfl) (fun hb => ?_) (fun hb => ?_)
  replace h := cond_t hb h
  refine swp_seq ?_
  refine swp_reg ?_
  refine SRun.ck tbok 1 ⟨36, [(4, vb false)], []⟩ ?_
  refine SRun.nil ?_
  refine nx_n ?_
  refine swp_ret ?_
  replace h := Option.some.inj h
  subst h
  exact nx_r (q_fr (fin1 (by kernel_rfl) (finV rfl SV.flat_of (holds_t (by kernel_rfl)))))
  replace h := cond_f hb h
  refine swp_skip ?_
  refine nx_n ?_
  refine swp_seq ?_
  refine swp_seq ?_
  refine swp_reg ?_
  refine SRun.ck tbok 5 ⟨36, [(2, .ref 2 0), (3, .ref 3 0), (24, vb (!(aA.Value.toList == aB.Value.toList)))], [(2, .box [vs aA.Source, vi aA.Kind, vs aA.Place, vs aA.Value, vi aA.Years.From, vi aA.Years.To, vi aA.Weight]), (3, .box [vs aB.Source, vi aB.Kind, vs aB.Place, vs aB.Value, vi aB.Years.From, vi aB.Years.To, vi aB.Weight])]⟩ ?_
  refine SRun.nil ?_
  refine nx_n ?_
  refine swp_cond (b := (!(aA.Value.toList == aB.Value.toList))) (by kernel_rfl) (fun hb => ?_) (fun hb => ?_)
  replace h := cond_t hb h
  refine swp_seq ?_
  refine swp_reg ?_
  refine SRun.ck tbok 1 ⟨36, [(4, vb false)], []⟩ ?_
  refine SRun.nil ?_
  refine nx_n ?_
  refine swp_ret ?_
  replace h := Option.some.inj h
  subst h
  exact nx_r (q_fr (fin1 (by kernel_rfl) (finV rfl SV.flat_of (holds_t (by kernel_rfl)))))
  replace h := cond_f hb h
  refine swp_skip ?_
  refine nx_n ?_
  refine swp_seq ?_
  refine swp_seq ?_
  refine swp_reg ?_
  refine SRun.ck tbok 4 ⟨36, [(2, .ref 2 0), (3, .ref 3 0), (26, .agg [vi aA.Years.From, vi aA.Years.To]), (28, .agg [vi aB.Years.From, vi aB.Years.To])], [(2, .box [vs aA.Source, vi aA.Kind, vs aA.Place, vs aA.Value, vi aA.Years.From, vi aA.Years.To, vi aA.Weight]), (3, .box [vs aB.Source, vi aB.Kind, vs aB.Place, vs aB.Value, vi aB.Years.From, vi aB.Years.To, vi aB.Weight])]⟩ ?_
  obtain ⟨x1, hx1, h⟩ := bind_some h
  refine SRun.ls (x_lstep_call (f := 25) (caps := []) (xs := [.agg [vi aA.Years.From, vi aA.Years.To], .agg [vi aB.Years.From, vi aB.Years.To]]) (ys := [.agg [vi aA.Years.From, vi aA.Years.To], .agg [vi aB.Years.From, vi aB.Years.To]]) (res := ⟨[.v (vb x1)], [], false⟩) (x := vb x1) (y := none) rfl ents25 (laws_eqSpan_run aA.Years aB.Years _ hx1) rfl (by intro hc; cases hc)) ?_
  refine SRun.ck tbok 1 ⟨36, [(2, .ref 2 0), (3, .ref 3 0), (30, vb (!x1))], [(2, .box [vs aA.Source, vi aA.Kind, vs aA.Place, vs aA.Value, vi aA.Years.From, vi aA.Years.To, vi aA.Weight]), (3, .box [vs aB.Source, vi aB.Kind, vs aB.Place, vs aB.Value, vi aB.Years.From, vi aB.Years.To, vi aB.Weight])]⟩ ?_
  refine SRun.nil ?_
  refine nx_n ?_
  refine swp_cond (b := (!x1)) (by kernel_rfl) (fun hb => ?_) (fun hb => ?_)
  replace h := cond_t hb h
  refine swp_seq ?_
  refine swp_reg ?_
  refine SRun.ck tbok 1 ⟨36, [(4, vb false)], []⟩ ?_
  refine SRun.nil ?_
  refine nx_n ?_
  refine swp_ret ?_
  replace h := Option.some.inj h
  subst h
  exact nx_r (q_fr (fin1 (by kernel_rfl) (finV rfl SV.flat_of (holds_t (by kernel_rfl)))))
  replace h := cond_f hb h
  refine swp_skip ?_
  refine nx_n ?_
  refine swp_seq ?_
  refine swp_seq ?_
  refine swp_reg ?_
  refine SRun.ck tbok 5 ⟨36, [(35, vb (aA.Weight != aB.Weight))], []⟩ ?_
  refine SRun.nil ?_
  refine nx_n ?_
  refine swp_cond (b := (aA.Weight != aB.Weight)) (by kernel_rfl) (fun hb => ?_) (fun hb => ?_)
  replace h := cond_t hb h
  refine swp_seq ?_
  refine swp_reg ?_
  refine SRun.ck tbok 1 ⟨36, [(4, vb false)], []⟩ ?_
  refine SRun.nil ?_
  refine nx_n ?_
  refine swp_ret ?_
  replace h := Option.some.inj h
  subst h
  exact nx_r (q_fr (fin1 (by kernel_rfl) (finV rfl SV.flat_of (holds_t (by kernel_rfl)))))
  replace h := cond_f hb h
  refine swp_skip ?_
  refine nx_n ?_
  refine swp_seq ?_
  refine swp_reg ?_
  refine SRun.ck tbok 1 ⟨36, [(4, vb true)], []⟩ ?_
  refine SRun.nil ?_
  refine nx_n ?_
  refine swp_ret ?_
  replace h := Option.some.inj h
  subst h
  exact q_fr (fin1 (by kernel_rfl) (finV rfl SV.flat_of (holds_t (by kernel_rfl))))
theorem ents17 : Ents Tryd.prog 17 := ents_of Tryd.func17 (by kernel_rfl) rfl
noncomputable def laws_eqClaimS (aA : (List Claim)) (aB : (List Claim)) : Option (Bool) :=
  (bif ((aA.length : Int) != (aB.length : Int)) then some false else (((forN (aA.length : Int) (fun (i3 : Int) (_ : Unit) => ((at' aA i3).bind fun x7 => ((at' aB i3).bind fun x8 => ((laws_eqClaim x7 x8).bind fun x9 => (bif (!x9) then some (.inr (.inr false)) else some (.inl ())))))) (fun (_ : Unit) => .inl ()) 0 ())).bind (Sum.elim (fun (_ : Unit) => some true) some)))
set_option maxRecDepth 100000 in
set_option maxHeartbeats 4000000 in
theorem laws_eqClaimS_run (aA : (List Claim)) (aB : (List Claim)) (r : Bool) (h : laws_eqClaimS aA aB = some r) : SCall Tryd.prog 9 [.v (vl eClaim aA), .v (vl eClaim aB)] ⟨[.v (vb r)], [], false⟩ := by
  refine scall_in Tryd.func9 rfl [(.tmp 4)] rfl (fun r => ⟨[.v (vb r)], [], false⟩) (r := r) ?_
  unfold laws_eqClaimS at h
  refine swp_seq ?_
  refine swp_reg ?_
  refine SRun.ck tbok 1 ⟨27, [(0, vl eClaim aA), (1, vl eClaim aB)], []⟩ ?_
  refine SRun.nil ?_
  refine nx_n ?_
  refine swp_seq ?_
  refine swp_seq ?_
  refine swp_reg ?_
  refine SRun.ck tbok 5 ⟨27, [(0, vl eClaim aA), (1, vl eClaim aB), (10, vb ((aA.length : Int) != (aB.length : Int)))], []⟩ ?_
  refine SRun.nil ?_
  refine nx_n ?_
  refine swp_cond (b := ((aA.length : Int) != (aB.length : Int))) (by kernel_rfl) (fun hb => ?_) (fun hb => ?_)
  replace h := cond_t hb h
  refine swp_seq ?_
  refine swp_reg ?_
  refine SRun.ck tbok 1 ⟨27, [(4, vb false)], []⟩ ?_
  refine SRun.nil ?_
  refine nx_n ?_
  refine swp_ret ?_
  replace h := Option.some.inj h
  subst h
  exact nx_r (q_fr (fin1 (by kernel_rfl) (finV rfl SV.flat_of (holds_t (by kernel_rfl)))))
  replace h := cond_f hb h
  refine swp_skip ?_
  refine nx_n ?_
  refine swp_seq ?_
  refine swp_seq ?_
  refine swp_reg ?_
  refine SRun.ck tbok 1 ⟨27, [(0, vl eClaim aA), (1, vl eClaim aB), (5, vi 0)], []⟩ ?_
  refine SRun.nil ?_
  refine nx_n ?_
  refine swp_seqE (r := r) h (fun j1 => ⟨27, [], []⟩) (fun v2 h => ?_) (fun j1 h => ?_)
  refine swp_blk (a := v2) ?_
  refine swp_lpL (r := v2) (s := (0, ())) _ (fun s3 => ⟨27, [(0, vl eClaim aA), (1, vl eClaim aB), (5, vi s3.1)], []⟩) _ (Le.sub0) h (fun s3 v4 h => ?_)
  refine swp_seq ?_
  refine swp_seq ?_
  refine swp_reg ?_
  refine SRun.ck tbok 4 ⟨27, [(0, vl eClaim aA), (1, vl eClaim aB), (5, vi s3.1), (14, vb (decide (s3.1 < (aA.length : Int))))], []⟩ ?_
  refine SRun.nil ?_
  refine nx_n ?_
  refine swp_cond (b := (decide (s3.1 < (aA.length : Int)))) (by kernel_rfl) (fun hb => ?_) (fun hb => ?_)
  replace h := cond_t hb h
  refine swp_skip ?_
  refine nx_n ?_
  refine swp_seq ?_
  refine swp_seqL (r := v4) h (fun j5 => ⟨27, [(0, vl eClaim aA), (1, vl eClaim aB), (5, vi s3.1)], []⟩) (fun v6 h => ?_) (fun j5 h => ?_)
  refine swp_blk (a := v6) ?_
  refine swp_seq ?_
  refine swp_dr mixed ?_
  refine DGo.chunk' tbok 2 (σ' := ⟨27, [(18, vi s3.1), (17, vl eClaim aA), (0, vl eClaim aA), (1, vl eClaim aB), (5, vi s3.1), (14, vb (decide (s3.1 < (aA.length : Int))))], []⟩) (by kernel_rfl) ?_
  obtain ⟨x7, hx7, h⟩ := bind_some h
  refine DGo.step (x_index (L := aA) (f := eClaim) (ti := ti26) (tj := ti39) (e := 39) (k := .i64) tbok rfl hx7) ?_
  refine DGo.chunk' tbok 3 (σ' := ⟨27, [(22, vi s3.1), (21, vl eClaim aB), (20, .agg [vs x7.Source, vi x7.Kind, vs x7.Place, vs x7.Value, vi x7.Years.From, vi x7.Years.To, vi x7.Weight]), (19, .ptr ((eClaim x7).map .tr) 0), (18, vi s3.1), (17, vl eClaim aA), (0, vl eClaim aA), (1, vl eClaim aB), (5, vi s3.1), (14, vb (decide (s3.1 < (aA.length : Int))))], []⟩) (by kernel_rfl) ?_
  obtain ⟨x8, hx8, h⟩ := bind_some h
  refine DGo.step (x_index (L := aB) (f := eClaim) (ti := ti26) (tj := ti39) (e := 39) (k := .i64) tbok rfl hx8) ?_
  refine DGo.chunk' tbok 1 (σ' := ⟨27, [(24, .agg [vs x8.Source, vi x8.Kind, vs x8.Place, vs x8.Value, vi x8.Years.From, vi x8.Years.To, vi x8.Weight]), (23, .ptr ((eClaim x8).map .tr) 0), (22, vi s3.1), (21, vl eClaim aB), (20, .agg [vs x7.Source, vi x7.Kind, vs x7.Place, vs x7.Value, vi x7.Years.From, vi x7.Years.To, vi x7.Weight]), (19, .ptr ((eClaim x7).map .tr) 0), (18, vi s3.1), (17, vl eClaim aA), (0, vl eClaim aA), (1, vl eClaim aB), (5, vi s3.1), (14, vb (decide (s3.1 < (aA.length : Int))))], []⟩) (by kernel_rfl) ?_
  obtain ⟨x9, hx9, h⟩ := bind_some h
  refine DGo.step (x_lstep_call (f := 17) (caps := []) (xs := [.agg [vs x7.Source, vi x7.Kind, vs x7.Place, vs x7.Value, vi x7.Years.From, vi x7.Years.To, vi x7.Weight], .agg [vs x8.Source, vi x8.Kind, vs x8.Place, vs x8.Value, vi x8.Years.From, vi x8.Years.To, vi x8.Weight]]) (ys := [.agg [vs x7.Source, vi x7.Kind, vs x7.Place, vs x7.Value, vi x7.Years.From, vi x7.Years.To, vi x7.Weight], .agg [vs x8.Source, vi x8.Kind, vs x8.Place, vs x8.Value, vi x8.Years.From, vi x8.Years.To, vi x8.Weight]]) (res := ⟨[.v (vb x9)], [], false⟩) (x := vb x9) (y := none) rfl ents17 (laws_eqClaim_run x7 x8 _ hx9) rfl (by intro hc; cases hc)) ?_
  refine DGo.chunk' tbok 1 (σ' := ⟨27, [(26, vb (!x9)), (25, vb x9), (24, .agg [vs x8.Source, vi x8.Kind, vs x8.Place, vs x8.Value, vi x8.Years.From, vi x8.Years.To, vi x8.Weight]), (23, .ptr ((eClaim x8).map .tr) 0), (22, vi s3.1), (21, vl eClaim aB), (20, .agg [vs x7.Source, vi x7.Kind, vs x7.Place, vs x7.Value, vi x7.Years.From, vi x7.Years.To, vi x7.Weight]), (19, .ptr ((eClaim x7).map .tr) 0), (18, vi s3.1), (17, vl eClaim aA), (0, vl eClaim aA), (1, vl eClaim aB), (5, vi s3.1), (14, vb (decide (s3.1 < (aA.length : Int))))], []⟩) (by kernel_rfl) ?_
  refine DGo.nil (by kernel_rfl) ?_
  refine nx_n ?_
  refine swp_cond (b := (!x9)) (by kernel_rfl) (fun hb => ?_) (fun hb => ?_)
  replace h := cond_t hb h
  refine swp_seq ?_
  refine swp_reg ?_
  refine SRun.ck tbok 1 ⟨27, [(4, vb false)], []⟩ ?_
  refine SRun.nil ?_
  refine nx_n ?_
  refine swp_ret ?_
  replace h := Option.some.inj h
  subst h
  exact q_br (q_rr (q_rr (q_br (q_rr (q_fr (fin1 (by kernel_rfl) (finV rfl SV.flat_of (holds_t (by kernel_rfl)))))))))
  replace h := cond_f hb h
  refine swp_skip ?_
  replace h := Option.some.inj h
  subst h
  exact q_bn (q_l (Le.sub0))
  refine swp_reg ?_
  refine SRun.ck tbok 3 ⟨27, [(0, vl eClaim aA), (1, vl eClaim aB), (5, vi (w64 (s3.1 + 1)))], []⟩ ?_
  refine SRun.nil ?_
  replace h := Option.some.inj h
  subst h
  exact q_l (Le.sub0)
  replace h := cond_f hb h
  refine swp_exit ?_
  replace h := Option.some.inj h
  subst h
  exact nx_e (q_re (q_bh (q_l (Le.sub0))))
  refine swp_seq ?_
  refine swp_reg ?_
  refine SRun.ck tbok 1 ⟨27, [(4, vb true)], []⟩ ?_
  refine SRun.nil ?_
  refine nx_n ?_
  refine swp_ret ?_
  replace h := Option.some.inj h
  subst h
  exact q_fr (fin1 (by kernel_rfl) (finV rfl SV.flat_of (holds_t (by kernel_rfl))))
theorem ents9 : Ents Tryd.prog 9 := ents_of Tryd.func9 (by kernel_rfl) rfl
noncomputable def laws_FnExactNameBy (aAList : (List Claim)) (aAPlace : ByteArray) (aAYear : Int) : Option (Bool) :=
  (bif (decide ((aAPlace.size : Int) > 1048576)) then some true else ((laws_szClaimS aAList 1048576).bind fun x1 => (bif (decide (x1 < 0)) then some true else ((laws_toClaimS aAList).bind fun x2 => ((spec_NameBy x2 aAPlace aAYear).bind fun x3 => ((laws_toClaimS aAList).bind fun x4 => ((impl_NameBy x4 aAPlace aAYear).bind fun x5 => (bif ((!(x5.1.toList == x3.1.toList)) || (x5.2 != x3.2)) then some false else ((laws_toClaimS aAList).bind fun x6 => ((laws_eqClaimS x4 x6).bind fun x7 => (bif (!x7) then some false else some true)))))))))))
set_option maxRecDepth 100000 in
set_option maxHeartbeats 4000000 in
theorem laws_FnExactNameBy_run (aAList : (List Claim)) (aAPlace : ByteArray) (aAYear : Int) (r : Bool) (h : laws_FnExactNameBy aAList aAPlace aAYear = some r) : SCall Tryd.prog 4 [.v (vl eClaim aAList), .v (vs aAPlace), .v (vi aAYear)] ⟨[.v (vb r)], [], false⟩ := by
  refine scall_in Tryd.func4 rfl [(.tmp 6)] rfl (fun r => ⟨[.v (vb r)], [], false⟩) (r := r) ?_
  unfold laws_FnExactNameBy at h
  refine swp_seq ?_
  refine swp_reg ?_
  refine SRun.ck tbok 1 ⟨51, [(0, vl eClaim aAList), (1, vs aAPlace), (2, vi aAYear)], []⟩ ?_
  refine SRun.nil ?_
  refine nx_n ?_
  refine swp_seq ?_
  refine swp_seq ?_
  refine swp_reg ?_
  refine SRun.ck tbok 3 ⟨51, [(0, vl eClaim aAList), (1, vs aAPlace), (2, vi aAYear), (15, vb (decide ((aAPlace.size : Int) > 1048576)))], []⟩ ?_
  refine SRun.nil ?_
  refine nx_n ?_
  refine swp_cond (b := (decide ((aAPlace.size : Int) > 1048576))) (by kernel_rfl) (fun hb => ?_) (fun hb => ?_)
  replace h := cond_t hb h
  refine swp_seq ?_
  refine swp_reg ?_
  refine SRun.ck tbok 1 ⟨51, [(6, vb true)], []⟩ ?_
  refine SRun.nil ?_
  refine nx_n ?_
  refine swp_ret ?_
  replace h := Option.some.inj h
  subst h
  exact nx_r (q_fr (fin1 (by kernel_rfl) (finV rfl SV.flat_of (holds_t (by kernel_rfl)))))
  replace h := cond_f hb h
  refine swp_skip ?_
  refine nx_n ?_
  refine swp_seq ?_
  refine swp_reg ?_
  refine SRun.ck tbok 1 ⟨51, [(0, vl eClaim aAList), (1, vs aAPlace), (2, vi aAYear), (7, vi 1048576)], []⟩ ?_
  refine SRun.nil ?_
  refine nx_n ?_
  refine swp_seq ?_
  refine swp_reg ?_
  refine SRun.ck tbok 2 ⟨51, [(0, vl eClaim aAList), (1, vs aAPlace), (2, vi aAYear), (16, vl eClaim aAList), (17, vi 1048576)], []⟩ ?_
  obtain ⟨x1, hx1, h⟩ := bind_some h
  refine SRun.ls (x_lstep_call (f := 5) (caps := []) (xs := [vl eClaim aAList, vi 1048576]) (ys := [vl eClaim aAList, vi 1048576]) (res := ⟨[.v (vi x1)], [], false⟩) (x := vi x1) (y := none) rfl ents5 (laws_szClaimS_run aAList 1048576 _ hx1) rfl (by intro hc; cases hc)) ?_
  refine SRun.ck tbok 1 ⟨51, [(0, vl eClaim aAList), (1, vs aAPlace), (2, vi aAYear), (7, vi x1)], []⟩ ?_
  refine SRun.nil ?_
  refine nx_n ?_
  refine swp_seq ?_
  refine swp_seq ?_
  refine swp_reg ?_
  refine SRun.ck tbok 2 ⟨51, [(0, vl eClaim aAList), (1, vs aAPlace), (2, vi aAYear), (20, vb (decide (x1 < 0)))], []⟩ ?_
  refine SRun.nil ?_
  refine nx_n ?_
  refine swp_cond (b := (decide (x1 < 0))) (by kernel_rfl) (fun hb => ?_) (fun hb => ?_)
  replace h := cond_t hb h
  refine swp_seq ?_
  refine swp_reg ?_
  refine SRun.ck tbok 1 ⟨51, [(6, vb true)], []⟩ ?_
  refine SRun.nil ?_
  refine nx_n ?_
  refine swp_ret ?_
  replace h := Option.some.inj h
  subst h
  exact nx_r (q_fr (fin1 (by kernel_rfl) (finV rfl SV.flat_of (holds_t (by kernel_rfl)))))
  replace h := cond_f hb h
  refine swp_skip ?_
  refine nx_n ?_
  refine swp_seq ?_
  refine swp_reg ?_
  refine SRun.ck tbok 1 ⟨51, [(0, vl eClaim aAList), (1, vs aAPlace), (2, vi aAYear), (22, vl eClaim aAList)], []⟩ ?_
  obtain ⟨x2, hx2, h⟩ := bind_some h
  refine SRun.ls (x_lstep_call (f := 7) (caps := []) (xs := [vl eClaim aAList]) (ys := [vl eClaim aAList]) (res := ⟨[.own 39 7 x2.length (x2.map eClaim)], [], false⟩) (x := .own 23) (y := some (.arr 39 7 x2.length (x2.map eClaim))) rfl ents7 (laws_toClaimS_run aAList _ hx2) rfl (by intro hc; cases hc)) ?_
  refine SRun.ck tbok 2 ⟨51, [(0, vl eClaim aAList), (1, vs aAPlace), (2, vi aAYear), (23, .own 23), (24, vs aAPlace), (25, vi aAYear)], [(23, .arr 39 7 x2.length (x2.map eClaim))]⟩ ?_
  obtain ⟨x3, hx3, h⟩ := bind_some h
  refine SRun.ls (x_lstep_call (f := 10) (caps := []) (xs := [.own 23, vs aAPlace, vi aAYear]) (ys := [vl eClaim x2, vs aAPlace, vi aAYear]) (res := ⟨[.v (vs x3.1), .v (vi x3.2)], [], false⟩) (x := .tup [vs x3.1, vi x3.2]) (y := none) rfl ents10 (spec_NameBy_run x2 aAPlace aAYear _ hx3) rfl (by intro hc; cases hc)) ?_
  refine SRun.ck tbok 5 ⟨51, [(0, vl eClaim aAList), (1, vs aAPlace), (2, vi aAYear), (8, vs x3.1), (9, vi x3.2)], []⟩ ?_
  refine SRun.nil ?_
  refine nx_n ?_
  refine swp_seq ?_
  refine swp_reg ?_
  refine SRun.ck tbok 1 ⟨51, [(0, vl eClaim aAList), (1, vs aAPlace), (2, vi aAYear), (8, vs x3.1), (9, vi x3.2), (29, vl eClaim aAList)], []⟩ ?_
  obtain ⟨x4, hx4, h⟩ := bind_some h
  refine SRun.ls (x_lstep_call (f := 7) (caps := []) (xs := [vl eClaim aAList]) (ys := [vl eClaim aAList]) (res := ⟨[.own 39 7 x4.length (x4.map eClaim)], [], false⟩) (x := .own 30) (y := some (.arr 39 7 x4.length (x4.map eClaim))) rfl ents7 (laws_toClaimS_run aAList _ hx4) rfl (by intro hc; cases hc)) ?_
  refine SRun.ck tbok 1 ⟨51, [(0, vl eClaim aAList), (1, vs aAPlace), (2, vi aAYear), (8, vs x3.1), (9, vi x3.2), (10, .own 30)], [(30, .arr 39 7 x4.length (x4.map eClaim))]⟩ ?_
  refine SRun.nil ?_
  refine nx_n ?_
  refine swp_seq ?_
  refine swp_reg ?_
  refine SRun.ck tbok 3 ⟨51, [(0, vl eClaim aAList), (8, vs x3.1), (9, vi x3.2), (10, .own 30), (32, .own 30), (33, vs aAPlace), (34, vi aAYear)], [(30, .arr 39 7 x4.length (x4.map eClaim))]⟩ ?_
  obtain ⟨x5, hx5, h⟩ := bind_some h
  refine SRun.ls (x_lstep_call (f := 11) (caps := []) (xs := [.own 30, vs aAPlace, vi aAYear]) (ys := [vl eClaim x4, vs aAPlace, vi aAYear]) (res := ⟨[.v (vs x5.1), .v (vi x5.2)], [], false⟩) (x := .tup [vs x5.1, vi x5.2]) (y := none) rfl ents11 (impl_NameBy_run x4 aAPlace aAYear _ hx5) rfl (by intro hc; cases hc)) ?_
  refine SRun.ck tbok 5 ⟨51, [(0, vl eClaim aAList), (8, vs x3.1), (9, vi x3.2), (10, .own 30), (11, vs x5.1), (12, vi x5.2)], [(30, .arr 39 7 x4.length (x4.map eClaim))]⟩ ?_
  refine SRun.nil ?_
  refine nx_n ?_
  refine swp_seq ?_
  refine swp_seq ?_
  refine swp_regP ⟨51, [(0, vl eClaim aAList), (10, .own 30), (45, vb ((!(x5.1.toList == x3.1.toList)) || (x5.2 != x3.2)))], [(30, .arr 39 7 x4.length (x4.map eClaim))]⟩ ?_ ?_
  refine SRun.ck tbok 4 ⟨51, [(0, vl eClaim aAList), (9, vi x3.2), (10, .own 30), (12, vi x5.2), (41, vb (!(x5.1.toList == x3.1.toList)))], [(30, .arr 39 7 x4.length (x4.map eClaim))]⟩ ?_
  generalize (!(x5.1.toList == x3.1.toList)) = bb
  cases bb
  refine SRun.ck tbok 4 ⟨51, [(0, vl eClaim aAList), (10, .own 30), (45, vb (x5.2 != x3.2))], [(30, .arr 39 7 x4.length (x4.map eClaim))]⟩ ?_
  exact SRun.nil (Le.sub0)
  refine SRun.ck tbok 4 ⟨51, [(0, vl eClaim aAList), (10, .own 30), (45, vb true)], [(30, .arr 39 7 x4.length (x4.map eClaim))]⟩ ?_
  exact SRun.nil (Le.sub0)
  refine swp_cond (b := ((!(x5.1.toList == x3.1.toList)) || (x5.2 != x3.2))) (by kernel_rfl) (fun hb => ?_) (fun hb => ?_)
  replace h := cond_t hb h
  refine swp_seq ?_
  refine swp_reg ?_
  refine SRun.ck tbok 1 ⟨51, [(6, vb false)], []⟩ ?_
  refine SRun.nil ?_
  refine nx_n ?_
  refine swp_ret ?_
  replace h := Option.some.inj h
  subst h
  exact nx_r (q_fr (fin1 (by kernel_rfl) (finV rfl SV.flat_of (holds_t (by kernel_rfl)))))
  replace h := cond_f hb h
  refine swp_skip ?_
  refine nx_n ?_
  refine swp_seq ?_
  refine swp_seq ?_
  refine swp_reg ?_
  refine SRun.ck tbok 2 ⟨51, [(46, .own 30), (47, vl eClaim aAList)], [(30, .arr 39 7 x4.length (x4.map eClaim))]⟩ ?_
  obtain ⟨x6, hx6, h⟩ := bind_some h
  refine SRun.ls (x_lstep_call (f := 7) (caps := []) (xs := [vl eClaim aAList]) (ys := [vl eClaim aAList]) (res := ⟨[.own 39 7 x6.length (x6.map eClaim)], [], false⟩) (x := .own 48) (y := some (.arr 39 7 x6.length (x6.map eClaim))) rfl ents7 (laws_toClaimS_run aAList _ hx6) rfl (by intro hc; cases hc)) ?_
  obtain ⟨x7, hx7, h⟩ := bind_some h
  refine SRun.ls (x_lstep_call (f := 9) (caps := []) (xs := [.own 30, .own 48]) (ys := [vl eClaim x4, vl eClaim x6]) (res := ⟨[.v (vb x7)], [], false⟩) (x := vb x7) (y := none) rfl ents9 (laws_eqClaimS_run x4 x6 _ hx7) rfl (by intro hc; cases hc)) ?_
  refine SRun.ck tbok 1 ⟨51, [(50, vb (!x7))], []⟩ ?_
  refine SRun.nil ?_
  refine nx_n ?_
  refine swp_cond (b := (!x7)) (by kernel_rfl) (fun hb => ?_) (fun hb => ?_)
  replace h := cond_t hb h
  refine swp_seq ?_
  refine swp_reg ?_
  refine SRun.ck tbok 1 ⟨51, [(6, vb false)], []⟩ ?_
  refine SRun.nil ?_
  refine nx_n ?_
  refine swp_ret ?_
  replace h := Option.some.inj h
  subst h
  exact nx_r (q_fr (fin1 (by kernel_rfl) (finV rfl SV.flat_of (holds_t (by kernel_rfl)))))
  replace h := cond_f hb h
  refine swp_skip ?_
  refine nx_n ?_
  refine swp_seq ?_
  refine swp_reg ?_
  refine SRun.ck tbok 1 ⟨51, [(6, vb true)], []⟩ ?_
  refine SRun.nil ?_
  refine nx_n ?_
  refine swp_ret ?_
  replace h := Option.some.inj h
  subst h
  exact q_fr (fin1 (by kernel_rfl) (finV rfl SV.flat_of (holds_t (by kernel_rfl))))
theorem ents4 : Ents Tryd.prog 4 := ents_of Tryd.func4 (by kernel_rfl) rfl
noncomputable def spec_ParentBy (aList : (List Claim)) (aPlace : ByteArray) (aYear : Int) : Option (ByteArray × Int) :=
  ((spec_l21Sound aList aPlace aYear).bind fun x1 => (bif (x1 != 0) then some ((ByteArray.mk #[]), x1) else ((spec_l21Parent aList aPlace aYear).bind fun x2 => (bif (x2.toList == (ByteArray.mk #[]).toList) then some ((ByteArray.mk #[]), 4) else some (x2, 0)))))
set_option maxRecDepth 100000 in
set_option maxHeartbeats 4000000 in
theorem spec_ParentBy_run (aList : (List Claim)) (aPlace : ByteArray) (aYear : Int) (r : ByteArray × Int) (h : spec_ParentBy aList aPlace aYear = some r) : SCall Tryd.prog 6 [.v (vl eClaim aList), .v (vs aPlace), .v (vi aYear)] ⟨[.v (vs r.1), .v (vi r.2)], [], false⟩ := by
  refine scall_in Tryd.func6 rfl [(.tmp 6), (.tmp 7)] rfl (fun r => ⟨[.v (vs r.1), .v (vi r.2)], [], false⟩) (r := r) ?_
  unfold spec_ParentBy at h
  refine swp_seq ?_
  refine swp_reg ?_
  refine SRun.ck tbok 2 ⟨24, [(0, vl eClaim aList), (1, vs aPlace), (2, vi aYear)], []⟩ ?_
  refine SRun.nil ?_
  refine nx_n ?_
  refine swp_seq ?_
  refine swp_reg ?_
  refine SRun.ck tbok 3 ⟨24, [(0, vl eClaim aList), (1, vs aPlace), (2, vi aYear), (10, vl eClaim aList), (11, vs aPlace), (12, vi aYear)], []⟩ ?_
  obtain ⟨x1, hx1, h⟩ := bind_some h
  refine SRun.ls (x_lstep_call (f := 13) (caps := []) (xs := [vl eClaim aList, vs aPlace, vi aYear]) (ys := [vl eClaim aList, vs aPlace, vi aYear]) (res := ⟨[.v (vi x1)], [], false⟩) (x := vi x1) (y := none) rfl ents13 (spec_l21Sound_run aList aPlace aYear _ hx1) rfl (by intro hc; cases hc)) ?_
  refine SRun.ck tbok 1 ⟨24, [(0, vl eClaim aList), (1, vs aPlace), (2, vi aYear), (8, vi x1)], []⟩ ?_
  refine SRun.nil ?_
  refine nx_n ?_
  refine swp_seq ?_
  refine swp_seq ?_
  refine swp_reg ?_
  refine SRun.ck tbok 2 ⟨24, [(0, vl eClaim aList), (1, vs aPlace), (2, vi aYear), (8, vi x1), (15, vb (x1 != 0))], []⟩ ?_
  refine SRun.nil ?_
  refine nx_n ?_
  refine swp_cond (b := (x1 != 0)) (by kernel_rfl) (fun hb => ?_) (fun hb => ?_)
  replace h := cond_t hb h
  refine swp_seq ?_
  refine swp_reg ?_
  refine SRun.ck tbok 3 ⟨24, [(6, vs (ByteArray.mk #[])), (7, vi x1)], []⟩ ?_
  refine SRun.nil ?_
  refine nx_n ?_
  refine swp_ret ?_
  replace h := Option.some.inj h
  subst h
  exact nx_r (q_fr (fin2 (by kernel_rfl) (finV rfl SV.flat_of (holds_t (by kernel_rfl))) (finV rfl SV.flat_of (holds_t (by kernel_rfl)))))
  replace h := cond_f hb h
  refine swp_skip ?_
  refine nx_n ?_
  refine swp_seq ?_
  refine swp_reg ?_
  refine SRun.ck tbok 3 ⟨24, [(17, vl eClaim aList), (18, vs aPlace), (19, vi aYear)], []⟩ ?_
  obtain ⟨x2, hx2, h⟩ := bind_some h
  refine SRun.ls (x_lstep_call (f := 14) (caps := []) (xs := [vl eClaim aList, vs aPlace, vi aYear]) (ys := [vl eClaim aList, vs aPlace, vi aYear]) (res := ⟨[.v (vs x2)], [], false⟩) (x := vs x2) (y := none) rfl ents14 (spec_l21Parent_run aList aPlace aYear _ hx2) rfl (by intro hc; cases hc)) ?_
  refine SRun.ck tbok 1 ⟨24, [(9, vs x2)], []⟩ ?_
  refine SRun.nil ?_
  refine nx_n ?_
  refine swp_seq ?_
  refine swp_seq ?_
  refine swp_reg ?_
  refine SRun.ck tbok 2 ⟨24, [(9, vs x2), (22, vb (x2.toList == (ByteArray.mk #[]).toList))], []⟩ ?_
  refine SRun.nil ?_
  refine nx_n ?_
  refine swp_cond (b := (x2.toList == (ByteArray.mk #[]).toList)) (by kernel_rfl) (fun hb => ?_) (fun hb => ?_)
  replace h := cond_t hb h
  refine swp_seq ?_
  refine swp_reg ?_
  refine SRun.ck tbok 2 ⟨24, [(6, vs (ByteArray.mk #[])), (7, vi 4)], []⟩ ?_
  refine SRun.nil ?_
  refine nx_n ?_
  refine swp_ret ?_
  replace h := Option.some.inj h
  subst h
  exact nx_r (q_fr (fin2 (by kernel_rfl) (finV rfl SV.flat_of (holds_t (by kernel_rfl))) (finV rfl SV.flat_of (holds_t (by kernel_rfl)))))
  replace h := cond_f hb h
  refine swp_skip ?_
  refine nx_n ?_
  refine swp_seq ?_
  refine swp_reg ?_
  refine SRun.ck tbok 3 ⟨24, [(6, vs x2), (7, vi 0)], []⟩ ?_
  refine SRun.nil ?_
  refine nx_n ?_
  refine swp_ret ?_
  replace h := Option.some.inj h
  subst h
  exact q_fr (fin2 (by kernel_rfl) (finV rfl SV.flat_of (holds_t (by kernel_rfl))) (finV rfl SV.flat_of (holds_t (by kernel_rfl))))
theorem ents6 : Ents Tryd.prog 6 := ents_of Tryd.func6 (by kernel_rfl) rfl
noncomputable def impl_ParentBy (aList : (List Claim)) (aPlace : ByteArray) (aYear : Int) : Option (ByteArray × Int) :=
  ((impl_toldBy aList 1 aPlace aYear).bind fun x1 => some (x1.1, x1.2))
set_option maxRecDepth 100000 in
set_option maxHeartbeats 4000000 in
theorem impl_ParentBy_run (aList : (List Claim)) (aPlace : ByteArray) (aYear : Int) (r : ByteArray × Int) (h : impl_ParentBy aList aPlace aYear = some r) : SCall Tryd.prog 8 [.v (vl eClaim aList), .v (vs aPlace), .v (vi aYear)] ⟨[.v (vs r.1), .v (vi r.2)], [], false⟩ := by
  refine scall_in Tryd.func8 rfl [(.tmp 6), (.tmp 7)] rfl (fun r => ⟨[.v (vs r.1), .v (vi r.2)], [], false⟩) (r := r) ?_
  unfold impl_ParentBy at h
  refine swp_seq ?_
  refine swp_reg ?_
  refine SRun.ck tbok 2 ⟨14, [(0, vl eClaim aList), (1, vs aPlace), (2, vi aYear)], []⟩ ?_
  refine SRun.nil ?_
  refine nx_n ?_
  refine swp_seq ?_
  refine swp_reg ?_
  refine SRun.ck tbok 3 ⟨14, [(8, vl eClaim aList), (9, vs aPlace), (10, vi aYear)], []⟩ ?_
  obtain ⟨x1, hx1, h⟩ := bind_some h
  refine SRun.ls (x_lstep_call (f := 16) (caps := []) (xs := [vl eClaim aList, vi 1, vs aPlace, vi aYear]) (ys := [vl eClaim aList, vi 1, vs aPlace, vi aYear]) (res := ⟨[.v (vs x1.1), .v (vi x1.2)], [], false⟩) (x := .tup [vs x1.1, vi x1.2]) (y := none) rfl ents16 (impl_toldBy_run aList 1 aPlace aYear _ hx1) rfl (by intro hc; cases hc)) ?_
  refine SRun.ck tbok 4 ⟨14, [(6, vs x1.1), (7, vi x1.2)], []⟩ ?_
  refine SRun.nil ?_
  refine nx_n ?_
  refine swp_ret ?_
  replace h := Option.some.inj h
  subst h
  exact q_fr (fin2 (by kernel_rfl) (finV rfl SV.flat_of (holds_t (by kernel_rfl))) (finV rfl SV.flat_of (holds_t (by kernel_rfl))))
theorem ents8 : Ents Tryd.prog 8 := ents_of Tryd.func8 (by kernel_rfl) rfl
noncomputable def laws_FnExactParentBy (aAList : (List Claim)) (aAPlace : ByteArray) (aAYear : Int) : Option (Bool) :=
  (bif (decide ((aAPlace.size : Int) > 1048576)) then some true else ((laws_szClaimS aAList 1048576).bind fun x1 => (bif (decide (x1 < 0)) then some true else ((laws_toClaimS aAList).bind fun x2 => ((spec_ParentBy x2 aAPlace aAYear).bind fun x3 => ((laws_toClaimS aAList).bind fun x4 => ((impl_ParentBy x4 aAPlace aAYear).bind fun x5 => (bif ((!(x5.1.toList == x3.1.toList)) || (x5.2 != x3.2)) then some false else ((laws_toClaimS aAList).bind fun x6 => ((laws_eqClaimS x4 x6).bind fun x7 => (bif (!x7) then some false else some true)))))))))))
set_option maxRecDepth 100000 in
set_option maxHeartbeats 4000000 in
theorem laws_FnExactParentBy_run (aAList : (List Claim)) (aAPlace : ByteArray) (aAYear : Int) (r : Bool) (h : laws_FnExactParentBy aAList aAPlace aAYear = some r) : SCall Tryd.prog 3 [.v (vl eClaim aAList), .v (vs aAPlace), .v (vi aAYear)] ⟨[.v (vb r)], [], false⟩ := by
  refine scall_in Tryd.func3 rfl [(.tmp 6)] rfl (fun r => ⟨[.v (vb r)], [], false⟩) (r := r) ?_
  unfold laws_FnExactParentBy at h
  refine swp_seq ?_
  refine swp_reg ?_
  refine SRun.ck tbok 1 ⟨51, [(0, vl eClaim aAList), (1, vs aAPlace), (2, vi aAYear)], []⟩ ?_
  refine SRun.nil ?_
  refine nx_n ?_
  refine swp_seq ?_
  refine swp_seq ?_
  refine swp_reg ?_
  refine SRun.ck tbok 3 ⟨51, [(0, vl eClaim aAList), (1, vs aAPlace), (2, vi aAYear), (15, vb (decide ((aAPlace.size : Int) > 1048576)))], []⟩ ?_
  refine SRun.nil ?_
  refine nx_n ?_
  refine swp_cond (b := (decide ((aAPlace.size : Int) > 1048576))) (by kernel_rfl) (fun hb => ?_) (fun hb => ?_)
  replace h := cond_t hb h
  refine swp_seq ?_
  refine swp_reg ?_
  refine SRun.ck tbok 1 ⟨51, [(6, vb true)], []⟩ ?_
  refine SRun.nil ?_
  refine nx_n ?_
  refine swp_ret ?_
  replace h := Option.some.inj h
  subst h
  exact nx_r (q_fr (fin1 (by kernel_rfl) (finV rfl SV.flat_of (holds_t (by kernel_rfl)))))
  replace h := cond_f hb h
  refine swp_skip ?_
  refine nx_n ?_
  refine swp_seq ?_
  refine swp_reg ?_
  refine SRun.ck tbok 1 ⟨51, [(0, vl eClaim aAList), (1, vs aAPlace), (2, vi aAYear), (7, vi 1048576)], []⟩ ?_
  refine SRun.nil ?_
  refine nx_n ?_
  refine swp_seq ?_
  refine swp_reg ?_
  refine SRun.ck tbok 2 ⟨51, [(0, vl eClaim aAList), (1, vs aAPlace), (2, vi aAYear), (16, vl eClaim aAList), (17, vi 1048576)], []⟩ ?_
  obtain ⟨x1, hx1, h⟩ := bind_some h
  refine SRun.ls (x_lstep_call (f := 5) (caps := []) (xs := [vl eClaim aAList, vi 1048576]) (ys := [vl eClaim aAList, vi 1048576]) (res := ⟨[.v (vi x1)], [], false⟩) (x := vi x1) (y := none) rfl ents5 (laws_szClaimS_run aAList 1048576 _ hx1) rfl (by intro hc; cases hc)) ?_
  refine SRun.ck tbok 1 ⟨51, [(0, vl eClaim aAList), (1, vs aAPlace), (2, vi aAYear), (7, vi x1)], []⟩ ?_
  refine SRun.nil ?_
  refine nx_n ?_
  refine swp_seq ?_
  refine swp_seq ?_
  refine swp_reg ?_
  refine SRun.ck tbok 2 ⟨51, [(0, vl eClaim aAList), (1, vs aAPlace), (2, vi aAYear), (20, vb (decide (x1 < 0)))], []⟩ ?_
  refine SRun.nil ?_
  refine nx_n ?_
  refine swp_cond (b := (decide (x1 < 0))) (by kernel_rfl) (fun hb => ?_) (fun hb => ?_)
  replace h := cond_t hb h
  refine swp_seq ?_
  refine swp_reg ?_
  refine SRun.ck tbok 1 ⟨51, [(6, vb true)], []⟩ ?_
  refine SRun.nil ?_
  refine nx_n ?_
  refine swp_ret ?_
  replace h := Option.some.inj h
  subst h
  exact nx_r (q_fr (fin1 (by kernel_rfl) (finV rfl SV.flat_of (holds_t (by kernel_rfl)))))
  replace h := cond_f hb h
  refine swp_skip ?_
  refine nx_n ?_
  refine swp_seq ?_
  refine swp_reg ?_
  refine SRun.ck tbok 1 ⟨51, [(0, vl eClaim aAList), (1, vs aAPlace), (2, vi aAYear), (22, vl eClaim aAList)], []⟩ ?_
  obtain ⟨x2, hx2, h⟩ := bind_some h
  refine SRun.ls (x_lstep_call (f := 7) (caps := []) (xs := [vl eClaim aAList]) (ys := [vl eClaim aAList]) (res := ⟨[.own 39 7 x2.length (x2.map eClaim)], [], false⟩) (x := .own 23) (y := some (.arr 39 7 x2.length (x2.map eClaim))) rfl ents7 (laws_toClaimS_run aAList _ hx2) rfl (by intro hc; cases hc)) ?_
  refine SRun.ck tbok 2 ⟨51, [(0, vl eClaim aAList), (1, vs aAPlace), (2, vi aAYear), (23, .own 23), (24, vs aAPlace), (25, vi aAYear)], [(23, .arr 39 7 x2.length (x2.map eClaim))]⟩ ?_
  obtain ⟨x3, hx3, h⟩ := bind_some h
  refine SRun.ls (x_lstep_call (f := 6) (caps := []) (xs := [.own 23, vs aAPlace, vi aAYear]) (ys := [vl eClaim x2, vs aAPlace, vi aAYear]) (res := ⟨[.v (vs x3.1), .v (vi x3.2)], [], false⟩) (x := .tup [vs x3.1, vi x3.2]) (y := none) rfl ents6 (spec_ParentBy_run x2 aAPlace aAYear _ hx3) rfl (by intro hc; cases hc)) ?_
  refine SRun.ck tbok 5 ⟨51, [(0, vl eClaim aAList), (1, vs aAPlace), (2, vi aAYear), (8, vs x3.1), (9, vi x3.2)], []⟩ ?_
  refine SRun.nil ?_
  refine nx_n ?_
  refine swp_seq ?_
  refine swp_reg ?_
  refine SRun.ck tbok 1 ⟨51, [(0, vl eClaim aAList), (1, vs aAPlace), (2, vi aAYear), (8, vs x3.1), (9, vi x3.2), (29, vl eClaim aAList)], []⟩ ?_
  obtain ⟨x4, hx4, h⟩ := bind_some h
  refine SRun.ls (x_lstep_call (f := 7) (caps := []) (xs := [vl eClaim aAList]) (ys := [vl eClaim aAList]) (res := ⟨[.own 39 7 x4.length (x4.map eClaim)], [], false⟩) (x := .own 30) (y := some (.arr 39 7 x4.length (x4.map eClaim))) rfl ents7 (laws_toClaimS_run aAList _ hx4) rfl (by intro hc; cases hc)) ?_
  refine SRun.ck tbok 1 ⟨51, [(0, vl eClaim aAList), (1, vs aAPlace), (2, vi aAYear), (8, vs x3.1), (9, vi x3.2), (10, .own 30)], [(30, .arr 39 7 x4.length (x4.map eClaim))]⟩ ?_
  refine SRun.nil ?_
  refine nx_n ?_
  refine swp_seq ?_
  refine swp_reg ?_
  refine SRun.ck tbok 3 ⟨51, [(0, vl eClaim aAList), (8, vs x3.1), (9, vi x3.2), (10, .own 30), (32, .own 30), (33, vs aAPlace), (34, vi aAYear)], [(30, .arr 39 7 x4.length (x4.map eClaim))]⟩ ?_
  obtain ⟨x5, hx5, h⟩ := bind_some h
  refine SRun.ls (x_lstep_call (f := 8) (caps := []) (xs := [.own 30, vs aAPlace, vi aAYear]) (ys := [vl eClaim x4, vs aAPlace, vi aAYear]) (res := ⟨[.v (vs x5.1), .v (vi x5.2)], [], false⟩) (x := .tup [vs x5.1, vi x5.2]) (y := none) rfl ents8 (impl_ParentBy_run x4 aAPlace aAYear _ hx5) rfl (by intro hc; cases hc)) ?_
  refine SRun.ck tbok 5 ⟨51, [(0, vl eClaim aAList), (8, vs x3.1), (9, vi x3.2), (10, .own 30), (11, vs x5.1), (12, vi x5.2)], [(30, .arr 39 7 x4.length (x4.map eClaim))]⟩ ?_
  refine SRun.nil ?_
  refine nx_n ?_
  refine swp_seq ?_
  refine swp_seq ?_
  refine swp_regP ⟨51, [(0, vl eClaim aAList), (10, .own 30), (45, vb ((!(x5.1.toList == x3.1.toList)) || (x5.2 != x3.2)))], [(30, .arr 39 7 x4.length (x4.map eClaim))]⟩ ?_ ?_
  refine SRun.ck tbok 4 ⟨51, [(0, vl eClaim aAList), (9, vi x3.2), (10, .own 30), (12, vi x5.2), (41, vb (!(x5.1.toList == x3.1.toList)))], [(30, .arr 39 7 x4.length (x4.map eClaim))]⟩ ?_
  generalize (!(x5.1.toList == x3.1.toList)) = bb
  cases bb
  refine SRun.ck tbok 4 ⟨51, [(0, vl eClaim aAList), (10, .own 30), (45, vb (x5.2 != x3.2))], [(30, .arr 39 7 x4.length (x4.map eClaim))]⟩ ?_
  exact SRun.nil (Le.sub0)
  refine SRun.ck tbok 4 ⟨51, [(0, vl eClaim aAList), (10, .own 30), (45, vb true)], [(30, .arr 39 7 x4.length (x4.map eClaim))]⟩ ?_
  exact SRun.nil (Le.sub0)
  refine swp_cond (b := ((!(x5.1.toList == x3.1.toList)) || (x5.2 != x3.2))) (by kernel_rfl) (fun hb => ?_) (fun hb => ?_)
  replace h := cond_t hb h
  refine swp_seq ?_
  refine swp_reg ?_
  refine SRun.ck tbok 1 ⟨51, [(6, vb false)], []⟩ ?_
  refine SRun.nil ?_
  refine nx_n ?_
  refine swp_ret ?_
  replace h := Option.some.inj h
  subst h
  exact nx_r (q_fr (fin1 (by kernel_rfl) (finV rfl SV.flat_of (holds_t (by kernel_rfl)))))
  replace h := cond_f hb h
  refine swp_skip ?_
  refine nx_n ?_
  refine swp_seq ?_
  refine swp_seq ?_
  refine swp_reg ?_
  refine SRun.ck tbok 2 ⟨51, [(46, .own 30), (47, vl eClaim aAList)], [(30, .arr 39 7 x4.length (x4.map eClaim))]⟩ ?_
  obtain ⟨x6, hx6, h⟩ := bind_some h
  refine SRun.ls (x_lstep_call (f := 7) (caps := []) (xs := [vl eClaim aAList]) (ys := [vl eClaim aAList]) (res := ⟨[.own 39 7 x6.length (x6.map eClaim)], [], false⟩) (x := .own 48) (y := some (.arr 39 7 x6.length (x6.map eClaim))) rfl ents7 (laws_toClaimS_run aAList _ hx6) rfl (by intro hc; cases hc)) ?_
  obtain ⟨x7, hx7, h⟩ := bind_some h
  refine SRun.ls (x_lstep_call (f := 9) (caps := []) (xs := [.own 30, .own 48]) (ys := [vl eClaim x4, vl eClaim x6]) (res := ⟨[.v (vb x7)], [], false⟩) (x := vb x7) (y := none) rfl ents9 (laws_eqClaimS_run x4 x6 _ hx7) rfl (by intro hc; cases hc)) ?_
  refine SRun.ck tbok 1 ⟨51, [(50, vb (!x7))], []⟩ ?_
  refine SRun.nil ?_
  refine nx_n ?_
  refine swp_cond (b := (!x7)) (by kernel_rfl) (fun hb => ?_) (fun hb => ?_)
  replace h := cond_t hb h
  refine swp_seq ?_
  refine swp_reg ?_
  refine SRun.ck tbok 1 ⟨51, [(6, vb false)], []⟩ ?_
  refine SRun.nil ?_
  refine nx_n ?_
  refine swp_ret ?_
  replace h := Option.some.inj h
  subst h
  exact nx_r (q_fr (fin1 (by kernel_rfl) (finV rfl SV.flat_of (holds_t (by kernel_rfl)))))
  replace h := cond_f hb h
  refine swp_skip ?_
  refine nx_n ?_
  refine swp_seq ?_
  refine swp_reg ?_
  refine SRun.ck tbok 1 ⟨51, [(6, vb true)], []⟩ ?_
  refine SRun.nil ?_
  refine nx_n ?_
  refine swp_ret ?_
  replace h := Option.some.inj h
  subst h
  exact q_fr (fin1 (by kernel_rfl) (finV rfl SV.flat_of (holds_t (by kernel_rfl))))
theorem ents3 : Ents Tryd.prog 3 := ents_of Tryd.func3 (by kernel_rfl) rfl
end Go.Proofs.YtjkibihkmgkmpaaDoor.Sh
