/- Typed functions and the calls that do what they say. -/
import Derived.Test.YtodgenjlhiiieaaGreatDoorGAp0
import Derived.Test.YtodgenjlhiiieaaGreatDoorKA
import Derived.Test.YtodgenjlhiiieaaGreatDoorKC
import Derived.Test.YtodgenjlhiiieaaGreatDoorKF
import Derived.Test.YtodgenjlhiiieaaGreatDoorKS
import Derived.Test.YtodgenjlhiiieaaGreatDoorSN
import Derived.Test.YtodgenjlhiiieaaGreatDoorH1
namespace Go.Proofs.YtodgenjlhiiieaaGreatDoor.Sh
open Go.RowKit
set_option maxRecDepth 100000
set_option maxHeartbeats 4000000
noncomputable def impl_isBetween (aA : Point) (aB : Point) (aP : Point) : Option (Bool) :=
  (bif ((aA.X == aB.X) && (aA.Y == aB.Y)) then some ((aP.X == aA.X) && (aP.Y == aA.Y)) else ((((impl_squared aA aB).bind fun x1 => ((impl_within (w64 ((w64 ((w64 (aP.X - aA.X)) * (w64 (aB.X - aA.X)))) + (w64 ((w64 (aP.Y - aA.Y)) * (w64 (aB.Y - aA.Y)))))) 0 x1).bind fun x2 => (bif x2 then ((impl_turn aA aB aP).bind fun x3 => ((impl_abs x3).bind fun x4 => ((impl_squared aA aB).bind fun x5 => some (decide ((w64 (4 * x4)) ≤ x5))))) else some false)))).bind fun (j6 : Bool) => some j6))
theorem impl_isBetween_run (aA : Point) (aB : Point) (aP : Point) (r : Bool) (h : impl_isBetween aA aB aP = some r) : SCall Tryz.prog 110 [.v (.agg (tc ePoint aA)), .v (.agg (tc ePoint aB)), .v (.agg (tc ePoint aP))] ⟨[.v (vb r)], [], false⟩ := by
  refine scall_in Tryz.func110 rfl [(.tmp 6)] rfl (fun r => ⟨[.v (vb r)], [], false⟩) (r := r) ?_
  unfold impl_isBetween at h
  refine srk tbok ⟨54, [(3, .ref 3 0), (4, .ref 4 0), (5, .ref 5 0)], [(3, .box (tc ePoint aA)), (4, .box (tc ePoint aB)), (5, .box (tc ePoint aP))]⟩ ?_
  refine swp_seq ?_
  refine sr ?_
  refine SRun.ck tbok 2 ⟨54, [(3, .ref 3 0), (4, .ref 4 0), (5, .ref 5 0), (8, .agg (tc ePoint aA)), (9, .agg (tc ePoint aB))], [(3, .box (tc ePoint aA)), (4, .box (tc ePoint aB)), (5, .box (tc ePoint aP))]⟩ ?_
  refine SRun.ls (x_lstep_eq tbok false (xs := [vi aA.X, vi aA.Y]) (ys := [vi aB.X, vi aB.Y]) (b := ((aA.X == aB.X) && (aA.Y == aB.Y))) rfl) ?_
  refine SRun.nx ?_
  refine swp_cd h (fun h => ?_) fun h => ?_
  refine sr ?_
  refine SRun.ck tbok 2 ⟨54, [(11, .agg (tc ePoint aP)), (12, .agg (tc ePoint aA))], []⟩ ?_
  refine SRun.ls (x_lstep_eq tbok false (xs := [vi aP.X, vi aP.Y]) (ys := [vi aA.X, vi aA.Y]) (b := ((aP.X == aA.X) && (aP.Y == aA.Y))) rfl) ?_
  refine ckn tbok 1 ⟨54, [(6, vb ((aP.X == aA.X) && (aP.Y == aA.Y)))], []⟩ ?_
  refine swp_ret ?_
  obtain rfl := inj h
  exact nx_r (q_fr (f1 fv))
  refine swp_skip ?_
  refine nx_n ?_
  refine srk tbok ⟨54, [(3, .ref 3 0), (4, .ref 4 0), (5, .ref 5 0), (7, vi (w64 ((w64 ((w64 (aP.X - aA.X)) * (w64 (aB.X - aA.X)))) + (w64 ((w64 (aP.Y - aA.Y)) * (w64 (aB.Y - aA.Y)))))))], [(3, .box (tc ePoint aA)), (4, .box (tc ePoint aB)), (5, .box (tc ePoint aP))]⟩ ?_
  refine swp_seq ?_
  refine swp_drJ mixed h (fun j6 => ⟨54, [(6, vb j6)], []⟩) (fun v7 h => ?_) (fun j6 h => ?_)
  refine DGo.ck tbok false 3 ⟨54, [(3, .ref 3 0), (4, .ref 4 0), (5, .ref 5 0), (37, vi (w64 ((w64 ((w64 (aP.X - aA.X)) * (w64 (aB.X - aA.X)))) + (w64 ((w64 (aP.Y - aA.Y)) * (w64 (aB.Y - aA.Y))))))), (38, .agg (tc ePoint aA)), (39, .agg (tc ePoint aB))], [(3, .box (tc ePoint aA)), (4, .box (tc ePoint aB)), (5, .box (tc ePoint aP))]⟩ ?_
  obtain ⟨x1, hx1, h⟩ := bind_some h
  refine DGo.step (xc ents108 (impl_squared_run aA aB _ hx1)) ?_
  obtain ⟨x2, hx2, h⟩ := bind_some h
  refine DGo.step (xc ents135 (impl_within_run (w64 ((w64 ((w64 (aP.X - aA.X)) * (w64 (aB.X - aA.X)))) + (w64 ((w64 (aP.Y - aA.Y)) * (w64 (aB.Y - aA.Y)))))) 0 x1 _ hx2)) ?_
  refine DGo.ck tbok false 1 ⟨54, [(3, .ref 3 0), (4, .ref 4 0), (5, .ref 5 0), (42, vb x2)], [(3, .box (tc ePoint aA)), (4, .box (tc ePoint aB)), (5, .box (tc ePoint aP))]⟩ ?_
  refine DGo.cu [(42, fun b => b)] h (fun h => ?_) fun h => ?_
  refine DGo.ck tbok false 3 ⟨54, [(3, .ref 3 0), (4, .ref 4 0), (42, vb true), (43, .agg (tc ePoint aA)), (44, .agg (tc ePoint aB)), (45, .agg (tc ePoint aP))], [(3, .box (tc ePoint aA)), (4, .box (tc ePoint aB))]⟩ ?_
  obtain ⟨x3, hx3, h⟩ := bind_some h
  refine DGo.step (xc ents147 (impl_turn_run aA aB aP _ hx3)) ?_
  obtain ⟨x4, hx4, h⟩ := bind_some h
  refine DGo.step (xc ents146 (impl_abs_run x3 _ hx4)) ?_
  refine DGo.ck tbok false 3 ⟨54, [(42, vb true), (48, vi (w64 (4 * x4))), (49, .agg (tc ePoint aA)), (50, .agg (tc ePoint aB))], []⟩ ?_
  obtain ⟨x5, hx5, h⟩ := bind_some h
  refine DGo.step (xc ents108 (impl_squared_run aA aB _ hx5)) ?_
  refine DGo.ck tbok false 3 ⟨54, [(6, vb (decide ((w64 (4 * x4)) ≤ x5)))], []⟩ ?_
  refine DGo.nil (by kernel_rfl) ?_
  obtain rfl := inj h
  exact Le.sub0
  refine DGo.ck tbok false 12 ⟨54, [(6, vb false)], []⟩ ?_
  refine DGo.nil (by kernel_rfl) ?_
  obtain rfl := inj h
  exact Le.sub0
  refine swp_ret ?_
  obtain rfl := inj h
  exact q_fr (f1 fv)
theorem ents110 : Ents Tryz.prog 110 := ents_of Tryz.func110 (by kernel_rfl) rfl
noncomputable def impl_satisfies (aList : (List Site)) (aD : Description) (aP : Point) : Option (Bool) :=
  ((impl_findSite aList aD.A).bind fun x1 => (((bif (aD.Kind == 0) then some (.inr ((aP.X == x1.1.X) && (aP.Y == x1.1.Y))) else (bif (aD.Kind == 1) then ((impl_squared x1.1 aP).bind fun x4 => some (.inr (decide (x4 ≤ 64)))) else (bif (aD.Kind == 2) then ((impl_Description_isFrom aD x1.1 aP).bind fun x5 => some (.inr x5)) else some (.inl ()))))).bind (Sum.elim (fun (_ : Unit) => ((impl_findSite aList aD.B).bind fun x6 => ((impl_isBetween x1.1 x6.1 aP).bind fun x7 => some x7))) some)))
theorem impl_satisfies_run (aList : (List Site)) (aD : Description) (aP : Point) (r : Bool) (h : impl_satisfies aList aD aP = some r) : SCall Tryz.prog 60 [.v (vl eSite aList), .v (.agg (tc eDescription aD)), .v (.agg (tc ePoint aP))] ⟨[.v (vb r)], [], false⟩ := by
  refine scall_in Tryz.func60 rfl [(.tmp 6)] rfl (fun r => ⟨[.v (vb r)], [], false⟩) (r := r) ?_
  unfold impl_satisfies at h
  refine srk tbok ⟨48, [(0, vl eSite aList), (4, .ref 4 0), (5, .ref 5 0)], [(4, .box (tc eDescription aD)), (5, .box (tc ePoint aP))]⟩ ?_
  refine sr ?_
  refine SRun.ck tbok 3 ⟨48, [(0, vl eSite aList), (4, .ref 4 0), (5, .ref 5 0), (12, vl eSite aList), (14, vs aD.A)], [(4, .box (tc eDescription aD)), (5, .box (tc ePoint aP))]⟩ ?_
  obtain ⟨x1, hx1, h⟩ := bind_some h
  refine SRun.ls (xc ents105 (impl_findSite_run aList aD.A _ hx1)) ?_
  refine ckn tbok 6 ⟨48, [(0, vl eSite aList), (4, .ref 4 0), (5, .ref 5 0), (7, .ref 7 0)], [(4, .box (tc eDescription aD)), (5, .box (tc ePoint aP)), (7, .box (tc ePoint x1.1))]⟩ ?_
  refine swp_seq ?_
  refine srk tbok ⟨48, [(0, vl eSite aList), (4, .ref 4 0), (5, .ref 5 0), (7, .ref 7 0), (19, vi aD.Kind)], [(4, .box (tc eDescription aD)), (5, .box (tc ePoint aP)), (7, .box (tc ePoint x1.1))]⟩ ?_
  refine swp_seqE (r := r) h (fun j2 => ⟨48, [(0, vl eSite aList), (4, .ref 4 0), (5, .ref 5 0), (7, .ref 7 0)], [(4, .box (tc eDescription aD)), (5, .box (tc ePoint aP)), (7, .box (tc ePoint x1.1))]⟩) (fun v3 h => ?_) (fun j2 h => ?_)
  refine swp_blk (a := v3) ?_
  refine srk tbok ⟨48, [(0, vl eSite aList), (4, .ref 4 0), (5, .ref 5 0), (7, .ref 7 0), (19, vi aD.Kind), (20, vb (aD.Kind == 0))], [(4, .box (tc eDescription aD)), (5, .box (tc ePoint aP)), (7, .box (tc ePoint x1.1))]⟩ ?_
  refine swp_cd h (fun h => ?_) fun h => ?_
  refine sr ?_
  refine SRun.ck tbok 2 ⟨48, [(22, .agg (tc ePoint aP)), (23, .agg (tc ePoint x1.1))], []⟩ ?_
  refine SRun.ls (x_lstep_eq tbok false (xs := [vi aP.X, vi aP.Y]) (ys := [vi x1.1.X, vi x1.1.Y]) (b := ((aP.X == x1.1.X) && (aP.Y == x1.1.Y))) rfl) ?_
  refine ckn tbok 1 ⟨48, [(6, vb ((aP.X == x1.1.X) && (aP.Y == x1.1.Y)))], []⟩ ?_
  refine swp_ret ?_
  obtain rfl := inj h
  exact q_br (q_rr (q_fr (f1 fv)))
  refine srk tbok ⟨48, [(0, vl eSite aList), (4, .ref 4 0), (5, .ref 5 0), (7, .ref 7 0), (19, vi aD.Kind), (25, vb (aD.Kind == 1))], [(4, .box (tc eDescription aD)), (5, .box (tc ePoint aP)), (7, .box (tc ePoint x1.1))]⟩ ?_
  refine swp_cd h (fun h => ?_) fun h => ?_
  refine sr ?_
  refine SRun.ck tbok 2 ⟨48, [(27, .agg (tc ePoint x1.1)), (28, .agg (tc ePoint aP))], []⟩ ?_
  obtain ⟨x4, hx4, h⟩ := bind_some h
  refine SRun.ls (xc ents108 (impl_squared_run x1.1 aP _ hx4)) ?_
  refine ckn tbok 2 ⟨48, [(6, vb (decide (x4 ≤ 64)))], []⟩ ?_
  refine swp_ret ?_
  obtain rfl := inj h
  exact q_br (q_rr (q_fr (f1 fv)))
  refine srk tbok ⟨48, [(0, vl eSite aList), (4, .ref 4 0), (5, .ref 5 0), (7, .ref 7 0), (31, vb (aD.Kind == 2))], [(4, .box (tc eDescription aD)), (5, .box (tc ePoint aP)), (7, .box (tc ePoint x1.1))]⟩ ?_
  refine swp_cd h (fun h => ?_) fun h => ?_
  refine sr ?_
  refine SRun.ck tbok 3 ⟨48, [(33, .agg (tc eDescription aD)), (34, .agg (tc ePoint x1.1)), (35, .agg (tc ePoint aP))], []⟩ ?_
  obtain ⟨x5, hx5, h⟩ := bind_some h
  refine SRun.ls (xc ents109 (impl_Description_isFrom_run aD x1.1 aP _ hx5)) ?_
  refine ckn tbok 1 ⟨48, [(6, vb x5)], []⟩ ?_
  refine swp_ret ?_
  obtain rfl := inj h
  exact q_br (q_rr (q_fr (f1 fv)))
  refine swp_skip ?_
  obtain rfl := inj h
  exact q_bn (q_l (Le.sub0))
  refine sr ?_
  refine SRun.ck tbok 3 ⟨48, [(5, .ref 5 0), (7, .ref 7 0), (38, vl eSite aList), (40, vs aD.B)], [(5, .box (tc ePoint aP)), (7, .box (tc ePoint x1.1))]⟩ ?_
  obtain ⟨x6, hx6, h⟩ := bind_some h
  refine SRun.ls (xc ents105 (impl_findSite_run aList aD.B _ hx6)) ?_
  refine ckn tbok 6 ⟨48, [(5, .ref 5 0), (7, .ref 7 0), (9, .ref 9 0)], [(5, .box (tc ePoint aP)), (7, .box (tc ePoint x1.1)), (9, .box (tc ePoint x6.1))]⟩ ?_
  refine sr ?_
  refine SRun.ck tbok 3 ⟨48, [(44, .agg (tc ePoint x1.1)), (45, .agg (tc ePoint x6.1)), (46, .agg (tc ePoint aP))], []⟩ ?_
  obtain ⟨x7, hx7, h⟩ := bind_some h
  refine SRun.ls (xc ents110 (impl_isBetween_run x1.1 x6.1 aP _ hx7)) ?_
  refine ckn tbok 1 ⟨48, [(6, vb x7)], []⟩ ?_
  refine swp_ret ?_
  obtain rfl := inj h
  exact q_fr (f1 fv)
theorem ents60 : Ents Tryz.prog 60 := ents_of Tryz.func60 (by kernel_rfl) rfl
noncomputable def laws_eqStringS (aA : (List ByteArray)) (aB : (List ByteArray)) : Option (Bool) :=
  (bif ((aA.length : Int) != (aB.length : Int)) then some false else (((forN (aA.length : Int) (fun (i3 : Int) (_ : Unit) => ((at' aA i3).bind fun x7 => ((at' aB i3).bind fun x8 => (bif (!(x7.toList == x8.toList)) then some (.inr (.inr false)) else some (.inl ()))))) (fun (_ : Unit) => .inl ()) 0 ())).bind (Sum.elim (fun (_ : Unit) => some true) some)))
theorem laws_eqStringS_run (aA : (List ByteArray)) (aB : (List ByteArray)) (r : Bool) (h : laws_eqStringS aA aB = some r) : SCall Tryz.prog 15 [.v (vl eS aA), .v (vl eS aB)] ⟨[.v (vb r)], [], false⟩ := by
  refine scall_in Tryz.func15 rfl [(.tmp 4)] rfl (fun r => ⟨[.v (vb r)], [], false⟩) (r := r) ?_
  unfold laws_eqStringS at h
  refine srk tbok ⟨26, [(0, vl eS aA), (1, vl eS aB)], []⟩ ?_
  refine swp_seq ?_
  refine srk tbok ⟨26, [(0, vl eS aA), (1, vl eS aB), (10, vb ((aA.length : Int) != (aB.length : Int)))], []⟩ ?_
  refine swp_cd h (fun h => ?_) fun h => ?_
  refine srk tbok ⟨26, [(4, vb false)], []⟩ ?_
  refine swp_ret ?_
  obtain rfl := inj h
  exact nx_r (q_fr (f1 fv))
  refine swp_skip ?_
  refine nx_n ?_
  refine swp_seq ?_
  refine srk tbok ⟨26, [(0, vl eS aA), (1, vl eS aB), (5, vi 0)], []⟩ ?_
  refine swp_seqE (r := r) h (fun j1 => ⟨26, [], []⟩) (fun v2 h => ?_) (fun j1 h => ?_)
  refine swp_blk (a := v2) ?_
  refine swp_lpL (r := v2) (s := (0, ())) _ (fun s3 => ⟨26, [(0, vl eS aA), (1, vl eS aB), (5, vi s3.1)], []⟩) _ (Le.sub0) h (fun s3 v4 h => ?_)
  refine swp_seq ?_
  refine srk tbok ⟨26, [(0, vl eS aA), (1, vl eS aB), (5, vi s3.1), (14, vb (decide (s3.1 < (aA.length : Int))))], []⟩ ?_
  refine swp_cd h (fun h => ?_) fun h => ?_
  refine swp_skip ?_
  refine nx_n ?_
  refine swp_seq ?_
  refine swp_seqL (r := v4) h (fun j5 => ⟨26, [(0, vl eS aA), (1, vl eS aB), (5, vi s3.1)], []⟩) (fun v6 h => ?_) (fun j5 h => ?_)
  refine swp_blk (a := v6) ?_
  refine swp_seq ?_
  refine swp_dr mixed ?_
  refine DGo.ck tbok false 2 ⟨26, [(0, vl eS aA), (1, vl eS aB), (5, vi s3.1), (17, vl eS aA), (18, vi s3.1)], []⟩ ?_
  obtain ⟨x7, hx7, h⟩ := bind_some h
  refine DGo.step (x_index (L := aA) (f := eS) (ti := ti28) (tj := ti9) (e := 9) (k := .i64) tbok rfl hx7) ?_
  refine DGo.ck tbok false 3 ⟨26, [(0, vl eS aA), (1, vl eS aB), (5, vi s3.1), (20, vs x7), (21, vl eS aB), (22, vi s3.1)], []⟩ ?_
  obtain ⟨x8, hx8, h⟩ := bind_some h
  refine DGo.step (x_index (L := aB) (f := eS) (ti := ti28) (tj := ti9) (e := 9) (k := .i64) tbok rfl hx8) ?_
  refine DGo.ck tbok false 2 ⟨26, [(0, vl eS aA), (1, vl eS aB), (5, vi s3.1), (25, vb (!(x7.toList == x8.toList)))], []⟩ ?_
  refine DGo.nx ?_
  refine swp_cd h (fun h => ?_) fun h => ?_
  refine srk tbok ⟨26, [(4, vb false)], []⟩ ?_
  refine swp_ret ?_
  obtain rfl := inj h
  exact q_br (q_rr (q_rr (q_br (q_rr (q_fr (f1 fv))))))
  refine swp_skip ?_
  obtain rfl := inj h
  exact q_bn (q_l (Le.sub0))
  refine swp_reg ?_
  refine SRun.ck tbok 3 ⟨26, [(0, vl eS aA), (1, vl eS aB), (5, vi (w64 (s3.1 + 1)))], []⟩ ?_
  refine SRun.nil ?_
  obtain rfl := inj h
  exact q_l (Le.sub0)
  refine swp_exit ?_
  obtain rfl := inj h
  exact nx_e (q_re (q_bh (q_l (Le.sub0))))
  refine srk tbok ⟨26, [(4, vb true)], []⟩ ?_
  refine swp_ret ?_
  obtain rfl := inj h
  exact q_fr (f1 fv)
theorem ents15 : Ents Tryz.prog 15 := ents_of Tryz.func15 (by kernel_rfl) rfl
noncomputable def laws_eqPoint (aA : Point) (aB : Point) : Option (Bool) :=
  (bif (aA.X != aB.X) then some false else (bif (aA.Y != aB.Y) then some false else some true))
theorem laws_eqPoint_run (aA : Point) (aB : Point) (r : Bool) (h : laws_eqPoint aA aB = some r) : SCall Tryz.prog 112 [.v (.agg (tc ePoint aA)), .v (.agg (tc ePoint aB))] ⟨[.v (vb r)], [], false⟩ := by
  refine scall_in Tryz.func112 rfl [(.tmp 4)] rfl (fun r => ⟨[.v (vb r)], [], false⟩) (r := r) ?_
  unfold laws_eqPoint at h
  refine srk tbok ⟨15, [(2, .ref 2 0), (3, .ref 3 0)], [(2, .box (tc ePoint aA)), (3, .box (tc ePoint aB))]⟩ ?_
  refine swp_seq ?_
  refine srk tbok ⟨15, [(2, .ref 2 0), (3, .ref 3 0), (9, vb (aA.X != aB.X))], [(2, .box (tc ePoint aA)), (3, .box (tc ePoint aB))]⟩ ?_
  refine swp_cd h (fun h => ?_) fun h => ?_
  refine srk tbok ⟨15, [(4, vb false)], []⟩ ?_
  refine swp_ret ?_
  obtain rfl := inj h
  exact nx_r (q_fr (f1 fv))
  refine swp_skip ?_
  refine nx_n ?_
  refine swp_seq ?_
  refine srk tbok ⟨15, [(14, vb (aA.Y != aB.Y))], []⟩ ?_
  refine swp_cd h (fun h => ?_) fun h => ?_
  refine srk tbok ⟨15, [(4, vb false)], []⟩ ?_
  refine swp_ret ?_
  obtain rfl := inj h
  exact nx_r (q_fr (f1 fv))
  refine swp_skip ?_
  refine nx_n ?_
  refine srk tbok ⟨15, [(4, vb true)], []⟩ ?_
  refine swp_ret ?_
  obtain rfl := inj h
  exact q_fr (f1 fv)
theorem ents112 : Ents Tryz.prog 112 := ents_of Tryz.func112 (by kernel_rfl) rfl
noncomputable def laws_eqCandidate (aA : Candidate) (aB : Candidate) : Option (Bool) :=
  (bif (!(aA.Code.toList == aB.Code.toList)) then some false else (bif (!(aA.Text.toList == aB.Text.toList)) then some false else ((laws_eqPoint aA.At aB.At).bind fun x1 => (bif (!x1) then some false else some true))))
theorem laws_eqCandidate_run (aA : Candidate) (aB : Candidate) (r : Bool) (h : laws_eqCandidate aA aB = some r) : SCall Tryz.prog 62 [.v (.agg (tc eCandidate aA)), .v (.agg (tc eCandidate aB))] ⟨[.v (vb r)], [], false⟩ := by
  refine scall_in Tryz.func62 rfl [(.tmp 4)] rfl (fun r => ⟨[.v (vb r)], [], false⟩) (r := r) ?_
  unfold laws_eqCandidate at h
  refine srk tbok ⟨21, [(2, .ref 2 0), (3, .ref 3 0)], [(2, .box (tc eCandidate aA)), (3, .box (tc eCandidate aB))]⟩ ?_
  refine swp_seq ?_
  refine srk tbok ⟨21, [(2, .ref 2 0), (3, .ref 3 0), (9, vb (!(aA.Code.toList == aB.Code.toList)))], [(2, .box (tc eCandidate aA)), (3, .box (tc eCandidate aB))]⟩ ?_
  refine swp_cd h (fun h => ?_) fun h => ?_
  refine srk tbok ⟨21, [(4, vb false)], []⟩ ?_
  refine swp_ret ?_
  obtain rfl := inj h
  exact nx_r (q_fr (f1 fv))
  refine swp_skip ?_
  refine nx_n ?_
  refine swp_seq ?_
  refine srk tbok ⟨21, [(2, .ref 2 0), (3, .ref 3 0), (14, vb (!(aA.Text.toList == aB.Text.toList)))], [(2, .box (tc eCandidate aA)), (3, .box (tc eCandidate aB))]⟩ ?_
  refine swp_cd h (fun h => ?_) fun h => ?_
  refine srk tbok ⟨21, [(4, vb false)], []⟩ ?_
  refine swp_ret ?_
  obtain rfl := inj h
  exact nx_r (q_fr (f1 fv))
  refine swp_skip ?_
  refine nx_n ?_
  refine swp_seq ?_
  refine sr ?_
  refine SRun.ck tbok 4 ⟨21, [(16, .agg (tc ePoint aA.At)), (18, .agg (tc ePoint aB.At))], []⟩ ?_
  obtain ⟨x1, hx1, h⟩ := bind_some h
  refine SRun.ls (xc ents112 (laws_eqPoint_run aA.At aB.At _ hx1)) ?_
  refine ckn tbok 1 ⟨21, [(20, vb (!x1))], []⟩ ?_
  refine swp_cd h (fun h => ?_) fun h => ?_
  refine srk tbok ⟨21, [(4, vb false)], []⟩ ?_
  refine swp_ret ?_
  obtain rfl := inj h
  exact nx_r (q_fr (f1 fv))
  refine swp_skip ?_
  refine nx_n ?_
  refine srk tbok ⟨21, [(4, vb true)], []⟩ ?_
  refine swp_ret ?_
  obtain rfl := inj h
  exact q_fr (f1 fv)
theorem ents62 : Ents Tryz.prog 62 := ents_of Tryz.func62 (by kernel_rfl) rfl
noncomputable def laws_eqCandidateS (aA : (List Candidate)) (aB : (List Candidate)) : Option (Bool) :=
  (bif ((aA.length : Int) != (aB.length : Int)) then some false else (((forN (aA.length : Int) (fun (i3 : Int) (_ : Unit) => ((at' aA i3).bind fun x7 => ((at' aB i3).bind fun x8 => ((laws_eqCandidate x7 x8).bind fun x9 => (bif (!x9) then some (.inr (.inr false)) else some (.inl ())))))) (fun (_ : Unit) => .inl ()) 0 ())).bind (Sum.elim (fun (_ : Unit) => some true) some)))
theorem laws_eqCandidateS_run (aA : (List Candidate)) (aB : (List Candidate)) (r : Bool) (h : laws_eqCandidateS aA aB = some r) : SCall Tryz.prog 16 [.v (vl eCandidate aA), .v (vl eCandidate aB)] ⟨[.v (vb r)], [], false⟩ := by
  refine scall_in Tryz.func16 rfl [(.tmp 4)] rfl (fun r => ⟨[.v (vb r)], [], false⟩) (r := r) ?_
  unfold laws_eqCandidateS at h
  refine srk tbok ⟨27, [(0, vl eCandidate aA), (1, vl eCandidate aB)], []⟩ ?_
  refine swp_seq ?_
  refine srk tbok ⟨27, [(0, vl eCandidate aA), (1, vl eCandidate aB), (10, vb ((aA.length : Int) != (aB.length : Int)))], []⟩ ?_
  refine swp_cd h (fun h => ?_) fun h => ?_
  refine srk tbok ⟨27, [(4, vb false)], []⟩ ?_
  refine swp_ret ?_
  obtain rfl := inj h
  exact nx_r (q_fr (f1 fv))
  refine swp_skip ?_
  refine nx_n ?_
  refine swp_seq ?_
  refine srk tbok ⟨27, [(0, vl eCandidate aA), (1, vl eCandidate aB), (5, vi 0)], []⟩ ?_
  refine swp_seqE (r := r) h (fun j1 => ⟨27, [], []⟩) (fun v2 h => ?_) (fun j1 h => ?_)
  refine swp_blk (a := v2) ?_
  refine swp_lpL (r := v2) (s := (0, ())) _ (fun s3 => ⟨27, [(0, vl eCandidate aA), (1, vl eCandidate aB), (5, vi s3.1)], []⟩) _ (Le.sub0) h (fun s3 v4 h => ?_)
  refine swp_seq ?_
  refine srk tbok ⟨27, [(0, vl eCandidate aA), (1, vl eCandidate aB), (5, vi s3.1), (14, vb (decide (s3.1 < (aA.length : Int))))], []⟩ ?_
  refine swp_cd h (fun h => ?_) fun h => ?_
  refine swp_skip ?_
  refine nx_n ?_
  refine swp_seq ?_
  refine swp_seqL (r := v4) h (fun j5 => ⟨27, [(0, vl eCandidate aA), (1, vl eCandidate aB), (5, vi s3.1)], []⟩) (fun v6 h => ?_) (fun j5 h => ?_)
  refine swp_blk (a := v6) ?_
  refine swp_seq ?_
  refine swp_dr mixed ?_
  refine DGo.ck tbok false 2 ⟨27, [(0, vl eCandidate aA), (1, vl eCandidate aB), (5, vi s3.1), (17, vl eCandidate aA), (18, vi s3.1)], []⟩ ?_
  obtain ⟨x7, hx7, h⟩ := bind_some h
  refine DGo.step (x_index (L := aA) (f := eCandidate) (ti := ti31) (tj := ti87) (e := 87) (k := .i64) tbok rfl hx7) ?_
  refine DGo.ck tbok false 3 ⟨27, [(0, vl eCandidate aA), (1, vl eCandidate aB), (5, vi s3.1), (20, .agg (tc eCandidate x7)), (21, vl eCandidate aB), (22, vi s3.1)], []⟩ ?_
  obtain ⟨x8, hx8, h⟩ := bind_some h
  refine DGo.step (x_index (L := aB) (f := eCandidate) (ti := ti31) (tj := ti87) (e := 87) (k := .i64) tbok rfl hx8) ?_
  refine DGo.ck tbok false 1 ⟨27, [(0, vl eCandidate aA), (1, vl eCandidate aB), (5, vi s3.1), (20, .agg (tc eCandidate x7)), (24, .agg (tc eCandidate x8))], []⟩ ?_
  obtain ⟨x9, hx9, h⟩ := bind_some h
  refine DGo.step (xc ents62 (laws_eqCandidate_run x7 x8 _ hx9)) ?_
  refine DGo.ck tbok false 1 ⟨27, [(0, vl eCandidate aA), (1, vl eCandidate aB), (5, vi s3.1), (26, vb (!x9))], []⟩ ?_
  refine DGo.nx ?_
  refine swp_cd h (fun h => ?_) fun h => ?_
  refine srk tbok ⟨27, [(4, vb false)], []⟩ ?_
  refine swp_ret ?_
  obtain rfl := inj h
  exact q_br (q_rr (q_rr (q_br (q_rr (q_fr (f1 fv))))))
  refine swp_skip ?_
  obtain rfl := inj h
  exact q_bn (q_l (Le.sub0))
  refine swp_reg ?_
  refine SRun.ck tbok 3 ⟨27, [(0, vl eCandidate aA), (1, vl eCandidate aB), (5, vi (w64 (s3.1 + 1)))], []⟩ ?_
  refine SRun.nil ?_
  obtain rfl := inj h
  exact q_l (Le.sub0)
  refine swp_exit ?_
  obtain rfl := inj h
  exact nx_e (q_re (q_bh (q_l (Le.sub0))))
  refine srk tbok ⟨27, [(4, vb true)], []⟩ ?_
  refine swp_ret ?_
  obtain rfl := inj h
  exact q_fr (f1 fv)
theorem ents16 : Ents Tryz.prog 16 := ents_of Tryz.func16 (by kernel_rfl) rfl
noncomputable def laws_eqSite (aA : Site) (aB : Site) : Option (Bool) :=
  (bif (!(aA.Code.toList == aB.Code.toList)) then some false else ((laws_eqPoint aA.At aB.At).bind fun x1 => (bif (!x1) then some false else some true)))
theorem laws_eqSite_run (aA : Site) (aB : Site) (r : Bool) (h : laws_eqSite aA aB = some r) : SCall Tryz.prog 63 [.v (.agg (tc eSite aA)), .v (.agg (tc eSite aB))] ⟨[.v (vb r)], [], false⟩ := by
  refine scall_in Tryz.func63 rfl [(.tmp 4)] rfl (fun r => ⟨[.v (vb r)], [], false⟩) (r := r) ?_
  unfold laws_eqSite at h
  refine srk tbok ⟨16, [(2, .ref 2 0), (3, .ref 3 0)], [(2, .box (tc eSite aA)), (3, .box (tc eSite aB))]⟩ ?_
  refine swp_seq ?_
  refine srk tbok ⟨16, [(2, .ref 2 0), (3, .ref 3 0), (9, vb (!(aA.Code.toList == aB.Code.toList)))], [(2, .box (tc eSite aA)), (3, .box (tc eSite aB))]⟩ ?_
  refine swp_cd h (fun h => ?_) fun h => ?_
  refine srk tbok ⟨16, [(4, vb false)], []⟩ ?_
  refine swp_ret ?_
  obtain rfl := inj h
  exact nx_r (q_fr (f1 fv))
  refine swp_skip ?_
  refine nx_n ?_
  refine swp_seq ?_
  refine sr ?_
  refine SRun.ck tbok 4 ⟨16, [(11, .agg (tc ePoint aA.At)), (13, .agg (tc ePoint aB.At))], []⟩ ?_
  obtain ⟨x1, hx1, h⟩ := bind_some h
  refine SRun.ls (xc ents112 (laws_eqPoint_run aA.At aB.At _ hx1)) ?_
  refine ckn tbok 1 ⟨16, [(15, vb (!x1))], []⟩ ?_
  refine swp_cd h (fun h => ?_) fun h => ?_
  refine srk tbok ⟨16, [(4, vb false)], []⟩ ?_
  refine swp_ret ?_
  obtain rfl := inj h
  exact nx_r (q_fr (f1 fv))
  refine swp_skip ?_
  refine nx_n ?_
  refine srk tbok ⟨16, [(4, vb true)], []⟩ ?_
  refine swp_ret ?_
  obtain rfl := inj h
  exact q_fr (f1 fv)
theorem ents63 : Ents Tryz.prog 63 := ents_of Tryz.func63 (by kernel_rfl) rfl
noncomputable def laws_eqSiteS (aA : (List Site)) (aB : (List Site)) : Option (Bool) :=
  (bif ((aA.length : Int) != (aB.length : Int)) then some false else (((forN (aA.length : Int) (fun (i3 : Int) (_ : Unit) => ((at' aA i3).bind fun x7 => ((at' aB i3).bind fun x8 => ((laws_eqSite x7 x8).bind fun x9 => (bif (!x9) then some (.inr (.inr false)) else some (.inl ())))))) (fun (_ : Unit) => .inl ()) 0 ())).bind (Sum.elim (fun (_ : Unit) => some true) some)))
theorem laws_eqSiteS_run (aA : (List Site)) (aB : (List Site)) (r : Bool) (h : laws_eqSiteS aA aB = some r) : SCall Tryz.prog 17 [.v (vl eSite aA), .v (vl eSite aB)] ⟨[.v (vb r)], [], false⟩ := by
  refine scall_in Tryz.func17 rfl [(.tmp 4)] rfl (fun r => ⟨[.v (vb r)], [], false⟩) (r := r) ?_
  unfold laws_eqSiteS at h
  refine srk tbok ⟨27, [(0, vl eSite aA), (1, vl eSite aB)], []⟩ ?_
  refine swp_seq ?_
  refine srk tbok ⟨27, [(0, vl eSite aA), (1, vl eSite aB), (10, vb ((aA.length : Int) != (aB.length : Int)))], []⟩ ?_
  refine swp_cd h (fun h => ?_) fun h => ?_
  refine srk tbok ⟨27, [(4, vb false)], []⟩ ?_
  refine swp_ret ?_
  obtain rfl := inj h
  exact nx_r (q_fr (f1 fv))
  refine swp_skip ?_
  refine nx_n ?_
  refine swp_seq ?_
  refine srk tbok ⟨27, [(0, vl eSite aA), (1, vl eSite aB), (5, vi 0)], []⟩ ?_
  refine swp_seqE (r := r) h (fun j1 => ⟨27, [], []⟩) (fun v2 h => ?_) (fun j1 h => ?_)
  refine swp_blk (a := v2) ?_
  refine swp_lpL (r := v2) (s := (0, ())) _ (fun s3 => ⟨27, [(0, vl eSite aA), (1, vl eSite aB), (5, vi s3.1)], []⟩) _ (Le.sub0) h (fun s3 v4 h => ?_)
  refine swp_seq ?_
  refine srk tbok ⟨27, [(0, vl eSite aA), (1, vl eSite aB), (5, vi s3.1), (14, vb (decide (s3.1 < (aA.length : Int))))], []⟩ ?_
  refine swp_cd h (fun h => ?_) fun h => ?_
  refine swp_skip ?_
  refine nx_n ?_
  refine swp_seq ?_
  refine swp_seqL (r := v4) h (fun j5 => ⟨27, [(0, vl eSite aA), (1, vl eSite aB), (5, vi s3.1)], []⟩) (fun v6 h => ?_) (fun j5 h => ?_)
  refine swp_blk (a := v6) ?_
  refine swp_seq ?_
  refine swp_dr mixed ?_
  refine DGo.ck tbok false 2 ⟨27, [(0, vl eSite aA), (1, vl eSite aB), (5, vi s3.1), (17, vl eSite aA), (18, vi s3.1)], []⟩ ?_
  obtain ⟨x7, hx7, h⟩ := bind_some h
  refine DGo.step (x_index (L := aA) (f := eSite) (ti := ti33) (tj := ti92) (e := 92) (k := .i64) tbok rfl hx7) ?_
  refine DGo.ck tbok false 3 ⟨27, [(0, vl eSite aA), (1, vl eSite aB), (5, vi s3.1), (20, .agg (tc eSite x7)), (21, vl eSite aB), (22, vi s3.1)], []⟩ ?_
  obtain ⟨x8, hx8, h⟩ := bind_some h
  refine DGo.step (x_index (L := aB) (f := eSite) (ti := ti33) (tj := ti92) (e := 92) (k := .i64) tbok rfl hx8) ?_
  refine DGo.ck tbok false 1 ⟨27, [(0, vl eSite aA), (1, vl eSite aB), (5, vi s3.1), (20, .agg (tc eSite x7)), (24, .agg (tc eSite x8))], []⟩ ?_
  obtain ⟨x9, hx9, h⟩ := bind_some h
  refine DGo.step (xc ents63 (laws_eqSite_run x7 x8 _ hx9)) ?_
  refine DGo.ck tbok false 1 ⟨27, [(0, vl eSite aA), (1, vl eSite aB), (5, vi s3.1), (26, vb (!x9))], []⟩ ?_
  refine DGo.nx ?_
  refine swp_cd h (fun h => ?_) fun h => ?_
  refine srk tbok ⟨27, [(4, vb false)], []⟩ ?_
  refine swp_ret ?_
  obtain rfl := inj h
  exact q_br (q_rr (q_rr (q_br (q_rr (q_fr (f1 fv))))))
  refine swp_skip ?_
  obtain rfl := inj h
  exact q_bn (q_l (Le.sub0))
  refine swp_reg ?_
  refine SRun.ck tbok 3 ⟨27, [(0, vl eSite aA), (1, vl eSite aB), (5, vi (w64 (s3.1 + 1)))], []⟩ ?_
  refine SRun.nil ?_
  obtain rfl := inj h
  exact q_l (Le.sub0)
  refine swp_exit ?_
  obtain rfl := inj h
  exact nx_e (q_re (q_bh (q_l (Le.sub0))))
  refine srk tbok ⟨27, [(4, vb true)], []⟩ ?_
  refine swp_ret ?_
  obtain rfl := inj h
  exact q_fr (f1 fv)
theorem ents17 : Ents Tryz.prog 17 := ents_of Tryz.func17 (by kernel_rfl) rfl
noncomputable def laws_eqDescription (aA : Description) (aB : Description) : Option (Bool) :=
  (bif (aA.Kind != aB.Kind) then some false else (bif (aA.Count != aB.Count) then some false else (bif (!(aA.Unit.toList == aB.Unit.toList)) then some false else (bif (aA.Direction != aB.Direction) then some false else (bif (!(aA.A.toList == aB.A.toList)) then some false else (bif (!(aA.B.toList == aB.B.toList)) then some false else some true))))))
theorem laws_eqDescription_run (aA : Description) (aB : Description) (r : Bool) (h : laws_eqDescription aA aB = some r) : SCall Tryz.prog 64 [.v (.agg (tc eDescription aA)), .v (.agg (tc eDescription aB))] ⟨[.v (vb r)], [], false⟩ := by
  refine scall_in Tryz.func64 rfl [(.tmp 4)] rfl (fun r => ⟨[.v (vb r)], [], false⟩) (r := r) ?_
  unfold laws_eqDescription at h
  refine srk tbok ⟨35, [(2, .ref 2 0), (3, .ref 3 0)], [(2, .box (tc eDescription aA)), (3, .box (tc eDescription aB))]⟩ ?_
  refine swp_seq ?_
  refine srk tbok ⟨35, [(2, .ref 2 0), (3, .ref 3 0), (9, vb (aA.Kind != aB.Kind))], [(2, .box (tc eDescription aA)), (3, .box (tc eDescription aB))]⟩ ?_
  refine swp_cd h (fun h => ?_) fun h => ?_
  refine srk tbok ⟨35, [(4, vb false)], []⟩ ?_
  refine swp_ret ?_
  obtain rfl := inj h
  exact nx_r (q_fr (f1 fv))
  refine swp_skip ?_
  refine nx_n ?_
  refine swp_seq ?_
  refine srk tbok ⟨35, [(2, .ref 2 0), (3, .ref 3 0), (14, vb (aA.Count != aB.Count))], [(2, .box (tc eDescription aA)), (3, .box (tc eDescription aB))]⟩ ?_
  refine swp_cd h (fun h => ?_) fun h => ?_
  refine srk tbok ⟨35, [(4, vb false)], []⟩ ?_
  refine swp_ret ?_
  obtain rfl := inj h
  exact nx_r (q_fr (f1 fv))
  refine swp_skip ?_
  refine nx_n ?_
  refine swp_seq ?_
  refine srk tbok ⟨35, [(2, .ref 2 0), (3, .ref 3 0), (19, vb (!(aA.Unit.toList == aB.Unit.toList)))], [(2, .box (tc eDescription aA)), (3, .box (tc eDescription aB))]⟩ ?_
  refine swp_cd h (fun h => ?_) fun h => ?_
  refine srk tbok ⟨35, [(4, vb false)], []⟩ ?_
  refine swp_ret ?_
  obtain rfl := inj h
  exact nx_r (q_fr (f1 fv))
  refine swp_skip ?_
  refine nx_n ?_
  refine swp_seq ?_
  refine srk tbok ⟨35, [(2, .ref 2 0), (3, .ref 3 0), (24, vb (aA.Direction != aB.Direction))], [(2, .box (tc eDescription aA)), (3, .box (tc eDescription aB))]⟩ ?_
  refine swp_cd h (fun h => ?_) fun h => ?_
  refine srk tbok ⟨35, [(4, vb false)], []⟩ ?_
  refine swp_ret ?_
  obtain rfl := inj h
  exact nx_r (q_fr (f1 fv))
  refine swp_skip ?_
  refine nx_n ?_
  refine swp_seq ?_
  refine srk tbok ⟨35, [(2, .ref 2 0), (3, .ref 3 0), (29, vb (!(aA.A.toList == aB.A.toList)))], [(2, .box (tc eDescription aA)), (3, .box (tc eDescription aB))]⟩ ?_
  refine swp_cd h (fun h => ?_) fun h => ?_
  refine srk tbok ⟨35, [(4, vb false)], []⟩ ?_
  refine swp_ret ?_
  obtain rfl := inj h
  exact nx_r (q_fr (f1 fv))
  refine swp_skip ?_
  refine nx_n ?_
  refine swp_seq ?_
  refine srk tbok ⟨35, [(34, vb (!(aA.B.toList == aB.B.toList)))], []⟩ ?_
  refine swp_cd h (fun h => ?_) fun h => ?_
  refine srk tbok ⟨35, [(4, vb false)], []⟩ ?_
  refine swp_ret ?_
  obtain rfl := inj h
  exact nx_r (q_fr (f1 fv))
  refine swp_skip ?_
  refine nx_n ?_
  refine srk tbok ⟨35, [(4, vb true)], []⟩ ?_
  refine swp_ret ?_
  obtain rfl := inj h
  exact q_fr (f1 fv)
theorem ents64 : Ents Tryz.prog 64 := ents_of Tryz.func64 (by kernel_rfl) rfl
noncomputable def laws_eqDescriptionS (aA : (List Description)) (aB : (List Description)) : Option (Bool) :=
  (bif ((aA.length : Int) != (aB.length : Int)) then some false else (((forN (aA.length : Int) (fun (i3 : Int) (_ : Unit) => ((at' aA i3).bind fun x7 => ((at' aB i3).bind fun x8 => ((laws_eqDescription x7 x8).bind fun x9 => (bif (!x9) then some (.inr (.inr false)) else some (.inl ())))))) (fun (_ : Unit) => .inl ()) 0 ())).bind (Sum.elim (fun (_ : Unit) => some true) some)))
theorem laws_eqDescriptionS_run (aA : (List Description)) (aB : (List Description)) (r : Bool) (h : laws_eqDescriptionS aA aB = some r) : SCall Tryz.prog 18 [.v (vl eDescription aA), .v (vl eDescription aB)] ⟨[.v (vb r)], [], false⟩ := by
  refine scall_in Tryz.func18 rfl [(.tmp 4)] rfl (fun r => ⟨[.v (vb r)], [], false⟩) (r := r) ?_
  unfold laws_eqDescriptionS at h
  refine srk tbok ⟨27, [(0, vl eDescription aA), (1, vl eDescription aB)], []⟩ ?_
  refine swp_seq ?_
  refine srk tbok ⟨27, [(0, vl eDescription aA), (1, vl eDescription aB), (10, vb ((aA.length : Int) != (aB.length : Int)))], []⟩ ?_
  refine swp_cd h (fun h => ?_) fun h => ?_
  refine srk tbok ⟨27, [(4, vb false)], []⟩ ?_
  refine swp_ret ?_
  obtain rfl := inj h
  exact nx_r (q_fr (f1 fv))
  refine swp_skip ?_
  refine nx_n ?_
  refine swp_seq ?_
  refine srk tbok ⟨27, [(0, vl eDescription aA), (1, vl eDescription aB), (5, vi 0)], []⟩ ?_
  refine swp_seqE (r := r) h (fun j1 => ⟨27, [], []⟩) (fun v2 h => ?_) (fun j1 h => ?_)
  refine swp_blk (a := v2) ?_
  refine swp_lpL (r := v2) (s := (0, ())) _ (fun s3 => ⟨27, [(0, vl eDescription aA), (1, vl eDescription aB), (5, vi s3.1)], []⟩) _ (Le.sub0) h (fun s3 v4 h => ?_)
  refine swp_seq ?_
  refine srk tbok ⟨27, [(0, vl eDescription aA), (1, vl eDescription aB), (5, vi s3.1), (14, vb (decide (s3.1 < (aA.length : Int))))], []⟩ ?_
  refine swp_cd h (fun h => ?_) fun h => ?_
  refine swp_skip ?_
  refine nx_n ?_
  refine swp_seq ?_
  refine swp_seqL (r := v4) h (fun j5 => ⟨27, [(0, vl eDescription aA), (1, vl eDescription aB), (5, vi s3.1)], []⟩) (fun v6 h => ?_) (fun j5 h => ?_)
  refine swp_blk (a := v6) ?_
  refine swp_seq ?_
  refine swp_dr mixed ?_
  refine DGo.ck tbok false 2 ⟨27, [(0, vl eDescription aA), (1, vl eDescription aB), (5, vi s3.1), (17, vl eDescription aA), (18, vi s3.1)], []⟩ ?_
  obtain ⟨x7, hx7, h⟩ := bind_some h
  refine DGo.step (x_index (L := aA) (f := eDescription) (ti := ti35) (tj := ti84) (e := 84) (k := .i64) tbok rfl hx7) ?_
  refine DGo.ck tbok false 3 ⟨27, [(0, vl eDescription aA), (1, vl eDescription aB), (5, vi s3.1), (20, .agg (tc eDescription x7)), (21, vl eDescription aB), (22, vi s3.1)], []⟩ ?_
  obtain ⟨x8, hx8, h⟩ := bind_some h
  refine DGo.step (x_index (L := aB) (f := eDescription) (ti := ti35) (tj := ti84) (e := 84) (k := .i64) tbok rfl hx8) ?_
  refine DGo.ck tbok false 1 ⟨27, [(0, vl eDescription aA), (1, vl eDescription aB), (5, vi s3.1), (20, .agg (tc eDescription x7)), (24, .agg (tc eDescription x8))], []⟩ ?_
  obtain ⟨x9, hx9, h⟩ := bind_some h
  refine DGo.step (xc ents64 (laws_eqDescription_run x7 x8 _ hx9)) ?_
  refine DGo.ck tbok false 1 ⟨27, [(0, vl eDescription aA), (1, vl eDescription aB), (5, vi s3.1), (26, vb (!x9))], []⟩ ?_
  refine DGo.nx ?_
  refine swp_cd h (fun h => ?_) fun h => ?_
  refine srk tbok ⟨27, [(4, vb false)], []⟩ ?_
  refine swp_ret ?_
  obtain rfl := inj h
  exact q_br (q_rr (q_rr (q_br (q_rr (q_fr (f1 fv))))))
  refine swp_skip ?_
  obtain rfl := inj h
  exact q_bn (q_l (Le.sub0))
  refine swp_reg ?_
  refine SRun.ck tbok 3 ⟨27, [(0, vl eDescription aA), (1, vl eDescription aB), (5, vi (w64 (s3.1 + 1)))], []⟩ ?_
  refine SRun.nil ?_
  obtain rfl := inj h
  exact q_l (Le.sub0)
  refine swp_exit ?_
  obtain rfl := inj h
  exact nx_e (q_re (q_bh (q_l (Le.sub0))))
  refine srk tbok ⟨27, [(4, vb true)], []⟩ ?_
  refine swp_ret ?_
  obtain rfl := inj h
  exact q_fr (f1 fv)
theorem ents18 : Ents Tryz.prog 18 := ents_of Tryz.func18 (by kernel_rfl) rfl
noncomputable def laws_markText (aK : Int) : Option (ByteArray) :=
  (bif (decide (aK ≤ 0)) then some (ByteArray.mk #[109, 48]) else (((loop (fun (s3 : Int × ByteArray) => (bif (decide (s3.1 > 0)) then ((cat' (strOfNums ([(IntKind.wrap .u8 (w64 (48 + (Int.tmod s3.1 10))))] : List Int)) s3.2).bind fun x5 => some (.inl ((w64 (Int.tdiv s3.1 10)), x5))) else some (.inr s3.2))) (aK, (ByteArray.mk #[])))).bind fun (j1 : ByteArray) => ((cat' (ByteArray.mk #[109]) j1).bind fun x6 => some x6)))
theorem laws_markText_run (aK : Int) (r : ByteArray) (h : laws_markText aK = some r) : SCall Tryz.prog 65 [.v (vi aK)] ⟨[.v (vs r)], [], false⟩ := by
  refine scall_in Tryz.func65 rfl [(.tmp 2)] rfl (fun r => ⟨[.v (vs r)], [], false⟩) (r := r) ?_
  unfold laws_markText at h
  refine srk tbok ⟨20, [(0, vi aK)], []⟩ ?_
  refine swp_seq ?_
  refine srk tbok ⟨20, [(0, vi aK), (5, vb (decide (aK ≤ 0)))], []⟩ ?_
  refine swp_cd h (fun h => ?_) fun h => ?_
  refine srk tbok ⟨20, [(2, vs (ByteArray.mk #[109, 48]))], []⟩ ?_
  refine swp_ret ?_
  obtain rfl := inj h
  exact nx_r (q_fr (f1 fv))
  refine swp_skip ?_
  refine nx_n ?_
  refine srk tbok ⟨20, [(0, vi aK), (3, vs (ByteArray.mk #[]))], []⟩ ?_
  refine swp_seq ?_
  refine swp_seqJ h (fun j1 => ⟨20, [(3, vs j1)], []⟩) (fun v2 h => ?_) (fun j1 h => ?_)
  refine swp_blk (a := v2) ?_
  refine swp_lpL (r := v2) (s := (aK, (ByteArray.mk #[]))) _ (fun s3 => ⟨20, [(0, vi s3.1), (3, vs s3.2)], []⟩) _ (Le.sub0) h (fun s3 v4 h => ?_)
  refine swp_seq ?_
  refine srk tbok ⟨20, [(0, vi s3.1), (3, vs s3.2), (7, vb (decide (s3.1 > 0)))], []⟩ ?_
  refine swp_cd h (fun h => ?_) fun h => ?_
  refine swp_skip ?_
  refine nx_n ?_
  refine swp_blk (a := v4) ?_
  refine sr ?_
  refine SRun.ck tbok 5 ⟨20, [(0, vi s3.1), (3, vs s3.2), (12, .own 12)], [(12, oa 5 1 (eI .u8) ([(IntKind.wrap .u8 (w64 (48 + (Int.tmod s3.1 10))))] : List Int))]⟩ ?_
  refine SRun.ls (x_bytes_own (L := ([(IntKind.wrap .u8 (w64 (48 + (Int.tmod s3.1 10))))] : List Int)) (d := 12) (e' := 5) tbok rfl (e := 5) (ti := ti46) (tj := ti5) (tk := ti9)) ?_
  refine SRun.ck tbok 1 ⟨20, [(0, vi s3.1), (13, vs (strOfNums ([(IntKind.wrap .u8 (w64 (48 + (Int.tmod s3.1 10))))] : List Int))), (14, vs s3.2)], []⟩ ?_
  obtain ⟨x5, hx5, h⟩ := bind_some h
  refine SRun.ls (x_cat hx5 rfl) ?_
  refine ckn tbok 1 ⟨20, [(0, vi s3.1), (3, vs x5)], []⟩ ?_
  refine swp_reg ?_
  refine SRun.ck tbok 3 ⟨20, [(0, vi (w64 (Int.tdiv s3.1 10))), (3, vs x5)], []⟩ ?_
  refine SRun.nil ?_
  obtain rfl := inj h
  exact q_bn (q_l (Le.sub0))
  refine swp_exit ?_
  obtain rfl := inj h
  exact nx_e (q_re (q_bh (q_j (Le.sub0))))
  refine sr ?_
  refine SRun.ck tbok 1 ⟨20, [(18, vs j1)], []⟩ ?_
  obtain ⟨x6, hx6, h⟩ := bind_some h
  refine SRun.ls (x_cat hx6 rfl) ?_
  refine ckn tbok 1 ⟨20, [(2, vs x6)], []⟩ ?_
  refine swp_ret ?_
  obtain rfl := inj h
  exact q_fr (f1 fv)
theorem ents65 : Ents Tryz.prog 65 := ents_of Tryz.func65 (by kernel_rfl) rfl
noncomputable def laws_markCandidateS (aA : (List Candidate)) (aK : Int) : Option (Int × (List Candidate)) :=
  (((forH (fun (i3 : Int) (s3 : Int × (List Candidate)) => (decide (i3 < (s3.2.length : Int)))) (fun (i3 : Int) (s3 : Int × (List Candidate)) => ((laws_markText s3.1).bind fun x7 => ((at' s3.2 i3).bind fun x8 => ((laws_markText (w64 (s3.1 + 1))).bind fun x9 => ((at' (List.set s3.2 (Int.toNat i3) (Candidate.mk x7 x8.Text x8.At)) i3).bind fun x10 => ((at' (List.set (List.set s3.2 (Int.toNat i3) (Candidate.mk x7 x8.Text x8.At)) (Int.toNat i3) (Candidate.mk x10.Code x9 x10.At)) i3).bind fun x11 => ((at' (List.set (List.set (List.set s3.2 (Int.toNat i3) (Candidate.mk x7 x8.Text x8.At)) (Int.toNat i3) (Candidate.mk x10.Code x9 x10.At)) (Int.toNat i3) (Candidate.mk x11.Code x11.Text (Point.mk (w64 ((w64 (s3.1 + 1)) + 1)) x11.At.Y))) i3).bind fun x12 => some ((w64 ((w64 ((w64 ((w64 (s3.1 + 1)) + 1)) + 1)) + 1)), (List.set (List.set (List.set (List.set s3.2 (Int.toNat i3) (Candidate.mk x7 x8.Text x8.At)) (Int.toNat i3) (Candidate.mk x10.Code x9 x10.At)) (Int.toNat i3) (Candidate.mk x11.Code x11.Text (Point.mk (w64 ((w64 (s3.1 + 1)) + 1)) x11.At.Y))) (Int.toNat i3) (Candidate.mk x12.Code x12.Text (Point.mk x12.At.X (w64 ((w64 ((w64 (s3.1 + 1)) + 1)) + 1))))))))))))) (fun (s3 : Int × (List Candidate)) => (s3.1, s3.2)) 0 (aK, aA))).bind fun (j1 : Int × (List Candidate)) => some (j1.1, j1.2))
theorem laws_markCandidateS_run (aA : (List Candidate)) (aK : Int) (r : Int × (List Candidate)) (h : laws_markCandidateS aA aK = some r) : SCall Tryz.prog 19 [.o (oa 87 4 eCandidate aA), .v (vi aK)] ⟨[.v (vi r.1)], [(0, oa 87 4 eCandidate r.2)], false⟩ := by
  refine scall_in Tryz.func19 rfl [(.tmp 4)] rfl (fun r => ⟨[.v (vi r.1)], [(0, oa 87 4 eCandidate r.2)], false⟩) (r := r) ?_
  unfold laws_markCandidateS at h
  refine srk tbok ⟨45, [(0, .own 1000000), (1, vi aK)], [(1000000, oa 87 4 eCandidate aA)]⟩ ?_
  refine swp_seq ?_
  refine srk tbok ⟨45, [(0, .own 1000000), (1, vi aK), (5, vi 0)], [(1000000, oa 87 4 eCandidate aA)]⟩ ?_
  refine swp_seqJ h (fun j1 => ⟨45, [(1, vi j1.1)], [(1000000, oa 87 4 eCandidate j1.2)]⟩) (fun v2 h => ?_) (fun j1 h => ?_)
  refine swp_blk (a := v2) ?_
  refine swp_lpL (r := v2) (s := (0, aK, aA)) _ (fun s3 => ⟨45, [(0, .own 1000000), (1, vi s3.2.1), (5, vi s3.1)], [(1000000, oa 87 4 eCandidate s3.2.2)]⟩) _ (Le.sub0) h (fun s3 v4 h => ?_)
  refine swp_seq ?_
  refine srk tbok ⟨45, [(0, .own 1000000), (1, vi s3.2.1), (5, vi s3.1), (9, vb (decide (s3.1 < (s3.2.2.length : Int))))], [(1000000, oa 87 4 eCandidate s3.2.2)]⟩ ?_
  refine swp_cd h (fun h => ?_) fun h => ?_
  refine swp_skip ?_
  refine nx_n ?_
  refine swp_seq ?_
  refine swp_seqJ h (fun j5 => ⟨45, [(0, .own 1000000), (1, vi j5.1), (5, vi s3.1)], [(1000000, oa 87 4 eCandidate j5.2)]⟩) (fun v6 h => ?_) (fun j5 h => ?_)
  refine swp_blk (a := v6) ?_
  refine sr ?_
  refine SRun.ck tbok 3 ⟨45, [(0, .own 1000000), (1, vi s3.2.1), (5, vi s3.1), (12, .own 1000000), (13, vi s3.1), (14, vi s3.2.1)], [(1000000, oa 87 4 eCandidate s3.2.2)]⟩ ?_
  obtain ⟨x7, hx7, h⟩ := bind_some h
  refine SRun.ls (xc ents65 (laws_markText_run s3.2.1 _ hx7)) ?_
  obtain ⟨x8, hx8, h⟩ := bind_some h
  refine SRun.ls (x_index_own (d := 1000000) (L := s3.2.2) (f := eCandidate) (ti := ti31) (tj := ti87) (e := 87) (e' := 87) (m := 4) (k := .i64) tbok rfl hx8) ?_
  refine SRun.ck tbok 1 ⟨45, [(0, .own 1000000), (1, vi s3.2.1), (5, vi s3.1), (15, vs x7), (17, .eref 1000000 4 (Int.toNat s3.1) 0)], [(1000000, oa 87 4 eCandidate s3.2.2)]⟩ ?_
  refine SRun.estep (x_store_own (d := 1000000) (m := 4) (j := 0) (L := s3.2.2) (f := eCandidate) (x := (Candidate.mk x7 x8.Text x8.At)) (z := x8) (ti := ti9) (e := 87) (ts := [.str x7]) (vs := [vs x7]) (v := vs x7) tbok rfl rfl hx8) ?_
  refine SRun.nx ?_
  refine srk tbok ⟨45, [(0, .own 1000000), (1, vi (w64 (s3.2.1 + 1))), (5, vi s3.1)], [(1000000, oa 87 4 eCandidate (List.set s3.2.2 (Int.toNat s3.1) (Candidate.mk x7 x8.Text x8.At)))]⟩ ?_
  refine sr ?_
  refine SRun.ck tbok 3 ⟨45, [(0, .own 1000000), (1, vi (w64 (s3.2.1 + 1))), (5, vi s3.1), (20, .own 1000000), (21, vi s3.1), (22, vi (w64 (s3.2.1 + 1)))], [(1000000, oa 87 4 eCandidate (List.set s3.2.2 (Int.toNat s3.1) (Candidate.mk x7 x8.Text x8.At)))]⟩ ?_
  obtain ⟨x9, hx9, h⟩ := bind_some h
  refine SRun.ls (xc ents65 (laws_markText_run (w64 (s3.2.1 + 1)) _ hx9)) ?_
  obtain ⟨x10, hx10, h⟩ := bind_some h
  refine SRun.ls (x_index_own (d := 1000000) (L := (List.set s3.2.2 (Int.toNat s3.1) (Candidate.mk x7 x8.Text x8.At))) (f := eCandidate) (ti := ti31) (tj := ti87) (e := 87) (e' := 87) (m := 4) (k := .i64) tbok rfl hx10) ?_
  refine SRun.ck tbok 1 ⟨45, [(0, .own 1000000), (1, vi (w64 (s3.2.1 + 1))), (5, vi s3.1), (23, vs x9), (25, .eref 1000000 4 (Int.toNat s3.1) 1)], [(1000000, oa 87 4 eCandidate (List.set s3.2.2 (Int.toNat s3.1) (Candidate.mk x7 x8.Text x8.At)))]⟩ ?_
  refine SRun.estep (x_store_own (d := 1000000) (m := 4) (j := 1) (L := (List.set s3.2.2 (Int.toNat s3.1) (Candidate.mk x7 x8.Text x8.At))) (f := eCandidate) (x := (Candidate.mk x10.Code x9 x10.At)) (z := x10) (ti := ti9) (e := 87) (ts := [.str x9]) (vs := [vs x9]) (v := vs x9) tbok rfl rfl hx10) ?_
  refine SRun.nx ?_
  refine srk tbok ⟨45, [(0, .own 1000000), (1, vi (w64 ((w64 (s3.2.1 + 1)) + 1))), (5, vi s3.1)], [(1000000, oa 87 4 eCandidate (List.set (List.set s3.2.2 (Int.toNat s3.1) (Candidate.mk x7 x8.Text x8.At)) (Int.toNat s3.1) (Candidate.mk x10.Code x9 x10.At)))]⟩ ?_
  refine sr ?_
  refine SRun.ck tbok 3 ⟨45, [(0, .own 1000000), (1, vi (w64 ((w64 (s3.2.1 + 1)) + 1))), (5, vi s3.1), (28, .own 1000000), (29, vi s3.1), (30, vi (w64 ((w64 (s3.2.1 + 1)) + 1)))], [(1000000, oa 87 4 eCandidate (List.set (List.set s3.2.2 (Int.toNat s3.1) (Candidate.mk x7 x8.Text x8.At)) (Int.toNat s3.1) (Candidate.mk x10.Code x9 x10.At)))]⟩ ?_
  obtain ⟨x11, hx11, h⟩ := bind_some h
  refine SRun.ls (x_index_own (d := 1000000) (L := (List.set (List.set s3.2.2 (Int.toNat s3.1) (Candidate.mk x7 x8.Text x8.At)) (Int.toNat s3.1) (Candidate.mk x10.Code x9 x10.At))) (f := eCandidate) (ti := ti31) (tj := ti87) (e := 87) (e' := 87) (m := 4) (k := .i64) tbok rfl hx11) ?_
  refine SRun.ck tbok 2 ⟨45, [(0, .own 1000000), (1, vi (w64 ((w64 (s3.2.1 + 1)) + 1))), (5, vi s3.1), (30, vi (w64 ((w64 (s3.2.1 + 1)) + 1))), (33, .eref 1000000 4 (Int.toNat s3.1) 2)], [(1000000, oa 87 4 eCandidate (List.set (List.set s3.2.2 (Int.toNat s3.1) (Candidate.mk x7 x8.Text x8.At)) (Int.toNat s3.1) (Candidate.mk x10.Code x9 x10.At)))]⟩ ?_
  refine SRun.estep (x_store_own (d := 1000000) (m := 4) (j := 2) (L := (List.set (List.set s3.2.2 (Int.toNat s3.1) (Candidate.mk x7 x8.Text x8.At)) (Int.toNat s3.1) (Candidate.mk x10.Code x9 x10.At))) (f := eCandidate) (x := (Candidate.mk x11.Code x11.Text (Point.mk (w64 ((w64 (s3.2.1 + 1)) + 1)) x11.At.Y))) (z := x11) (ti := ti2) (e := 87) (ts := [.int .i64 (w64 ((w64 (s3.2.1 + 1)) + 1))]) (vs := [vi (w64 ((w64 (s3.2.1 + 1)) + 1))]) (v := vi (w64 ((w64 (s3.2.1 + 1)) + 1))) tbok rfl rfl hx11) ?_
  refine SRun.nx ?_
  refine srk tbok ⟨45, [(0, .own 1000000), (1, vi (w64 ((w64 ((w64 (s3.2.1 + 1)) + 1)) + 1))), (5, vi s3.1)], [(1000000, oa 87 4 eCandidate (List.set (List.set (List.set s3.2.2 (Int.toNat s3.1) (Candidate.mk x7 x8.Text x8.At)) (Int.toNat s3.1) (Candidate.mk x10.Code x9 x10.At)) (Int.toNat s3.1) (Candidate.mk x11.Code x11.Text (Point.mk (w64 ((w64 (s3.2.1 + 1)) + 1)) x11.At.Y))))]⟩ ?_
  refine sr ?_
  refine SRun.ck tbok 3 ⟨45, [(0, .own 1000000), (1, vi (w64 ((w64 ((w64 (s3.2.1 + 1)) + 1)) + 1))), (5, vi s3.1), (36, .own 1000000), (37, vi s3.1), (38, vi (w64 ((w64 ((w64 (s3.2.1 + 1)) + 1)) + 1)))], [(1000000, oa 87 4 eCandidate (List.set (List.set (List.set s3.2.2 (Int.toNat s3.1) (Candidate.mk x7 x8.Text x8.At)) (Int.toNat s3.1) (Candidate.mk x10.Code x9 x10.At)) (Int.toNat s3.1) (Candidate.mk x11.Code x11.Text (Point.mk (w64 ((w64 (s3.2.1 + 1)) + 1)) x11.At.Y))))]⟩ ?_
  obtain ⟨x12, hx12, h⟩ := bind_some h
  refine SRun.ls (x_index_own (d := 1000000) (L := (List.set (List.set (List.set s3.2.2 (Int.toNat s3.1) (Candidate.mk x7 x8.Text x8.At)) (Int.toNat s3.1) (Candidate.mk x10.Code x9 x10.At)) (Int.toNat s3.1) (Candidate.mk x11.Code x11.Text (Point.mk (w64 ((w64 (s3.2.1 + 1)) + 1)) x11.At.Y)))) (f := eCandidate) (ti := ti31) (tj := ti87) (e := 87) (e' := 87) (m := 4) (k := .i64) tbok rfl hx12) ?_
  refine SRun.ck tbok 2 ⟨45, [(0, .own 1000000), (1, vi (w64 ((w64 ((w64 (s3.2.1 + 1)) + 1)) + 1))), (5, vi s3.1), (38, vi (w64 ((w64 ((w64 (s3.2.1 + 1)) + 1)) + 1))), (41, .eref 1000000 4 (Int.toNat s3.1) 3)], [(1000000, oa 87 4 eCandidate (List.set (List.set (List.set s3.2.2 (Int.toNat s3.1) (Candidate.mk x7 x8.Text x8.At)) (Int.toNat s3.1) (Candidate.mk x10.Code x9 x10.At)) (Int.toNat s3.1) (Candidate.mk x11.Code x11.Text (Point.mk (w64 ((w64 (s3.2.1 + 1)) + 1)) x11.At.Y))))]⟩ ?_
  refine SRun.estep (x_store_own (d := 1000000) (m := 4) (j := 3) (L := (List.set (List.set (List.set s3.2.2 (Int.toNat s3.1) (Candidate.mk x7 x8.Text x8.At)) (Int.toNat s3.1) (Candidate.mk x10.Code x9 x10.At)) (Int.toNat s3.1) (Candidate.mk x11.Code x11.Text (Point.mk (w64 ((w64 (s3.2.1 + 1)) + 1)) x11.At.Y)))) (f := eCandidate) (x := (Candidate.mk x12.Code x12.Text (Point.mk x12.At.X (w64 ((w64 ((w64 (s3.2.1 + 1)) + 1)) + 1))))) (z := x12) (ti := ti2) (e := 87) (ts := [.int .i64 (w64 ((w64 ((w64 (s3.2.1 + 1)) + 1)) + 1))]) (vs := [vi (w64 ((w64 ((w64 (s3.2.1 + 1)) + 1)) + 1))]) (v := vi (w64 ((w64 ((w64 (s3.2.1 + 1)) + 1)) + 1))) tbok rfl rfl hx12) ?_
  refine SRun.nx ?_
  refine swp_reg ?_
  refine SRun.ck tbok 3 ⟨45, [(0, .own 1000000), (1, vi (w64 ((w64 ((w64 ((w64 (s3.2.1 + 1)) + 1)) + 1)) + 1))), (5, vi s3.1)], [(1000000, oa 87 4 eCandidate (List.set (List.set (List.set (List.set s3.2.2 (Int.toNat s3.1) (Candidate.mk x7 x8.Text x8.At)) (Int.toNat s3.1) (Candidate.mk x10.Code x9 x10.At)) (Int.toNat s3.1) (Candidate.mk x11.Code x11.Text (Point.mk (w64 ((w64 (s3.2.1 + 1)) + 1)) x11.At.Y))) (Int.toNat s3.1) (Candidate.mk x12.Code x12.Text (Point.mk x12.At.X (w64 ((w64 ((w64 (s3.2.1 + 1)) + 1)) + 1))))))]⟩ ?_
  refine SRun.nil ?_
  obtain rfl := inj h
  exact q_bn (q_j (Le.sub0))
  refine swp_reg ?_
  refine SRun.ck tbok 3 ⟨45, [(0, .own 1000000), (1, vi j5.1), (5, vi (w64 (s3.1 + 1)))], [(1000000, oa 87 4 eCandidate j5.2)]⟩ ?_
  refine SRun.nil ?_
  obtain rfl := inj h
  exact q_l (Le.sub0)
  refine swp_exit ?_
  obtain rfl := inj h
  exact nx_e (q_re (q_bh (q_j (Le.sub0))))
  refine srk tbok ⟨45, [(4, vi j1.1)], [(1000000, oa 87 4 eCandidate j1.2)]⟩ ?_
  refine swp_ret ?_
  obtain rfl := inj h
  exact q_fr (fin_io (f1 fv) (y := oa 87 4 eCandidate j1.2) (by kernel_rfl) rfl (by kernel_rfl) (by kernel_rfl))
theorem ents19 : Ents Tryz.prog 19 := ents_of Tryz.func19 (by kernel_rfl) rfl
noncomputable def laws_markSiteS (aA : (List Site)) (aK : Int) : Option (Int × (List Site)) :=
  (((forH (fun (i3 : Int) (s3 : Int × (List Site)) => (decide (i3 < (s3.2.length : Int)))) (fun (i3 : Int) (s3 : Int × (List Site)) => ((laws_markText s3.1).bind fun x7 => ((at' s3.2 i3).bind fun x8 => ((at' (List.set s3.2 (Int.toNat i3) (Site.mk x7 x8.At)) i3).bind fun x9 => ((at' (List.set (List.set s3.2 (Int.toNat i3) (Site.mk x7 x8.At)) (Int.toNat i3) (Site.mk x9.Code (Point.mk (w64 (s3.1 + 1)) x9.At.Y))) i3).bind fun x10 => some ((w64 ((w64 ((w64 (s3.1 + 1)) + 1)) + 1)), (List.set (List.set (List.set s3.2 (Int.toNat i3) (Site.mk x7 x8.At)) (Int.toNat i3) (Site.mk x9.Code (Point.mk (w64 (s3.1 + 1)) x9.At.Y))) (Int.toNat i3) (Site.mk x10.Code (Point.mk x10.At.X (w64 ((w64 (s3.1 + 1)) + 1))))))))))) (fun (s3 : Int × (List Site)) => (s3.1, s3.2)) 0 (aK, aA))).bind fun (j1 : Int × (List Site)) => some (j1.1, j1.2))
theorem laws_markSiteS_run (aA : (List Site)) (aK : Int) (r : Int × (List Site)) (h : laws_markSiteS aA aK = some r) : SCall Tryz.prog 20 [.o (oa 92 3 eSite aA), .v (vi aK)] ⟨[.v (vi r.1)], [(0, oa 92 3 eSite r.2)], false⟩ := by
  refine scall_in Tryz.func20 rfl [(.tmp 4)] rfl (fun r => ⟨[.v (vi r.1)], [(0, oa 92 3 eSite r.2)], false⟩) (r := r) ?_
  unfold laws_markSiteS at h
  refine srk tbok ⟨37, [(0, .own 1000000), (1, vi aK)], [(1000000, oa 92 3 eSite aA)]⟩ ?_
  refine swp_seq ?_
  refine srk tbok ⟨37, [(0, .own 1000000), (1, vi aK), (5, vi 0)], [(1000000, oa 92 3 eSite aA)]⟩ ?_
  refine swp_seqJ h (fun j1 => ⟨37, [(1, vi j1.1)], [(1000000, oa 92 3 eSite j1.2)]⟩) (fun v2 h => ?_) (fun j1 h => ?_)
  refine swp_blk (a := v2) ?_
  refine swp_lpL (r := v2) (s := (0, aK, aA)) _ (fun s3 => ⟨37, [(0, .own 1000000), (1, vi s3.2.1), (5, vi s3.1)], [(1000000, oa 92 3 eSite s3.2.2)]⟩) _ (Le.sub0) h (fun s3 v4 h => ?_)
  refine swp_seq ?_
  refine srk tbok ⟨37, [(0, .own 1000000), (1, vi s3.2.1), (5, vi s3.1), (9, vb (decide (s3.1 < (s3.2.2.length : Int))))], [(1000000, oa 92 3 eSite s3.2.2)]⟩ ?_
  refine swp_cd h (fun h => ?_) fun h => ?_
  refine swp_skip ?_
  refine nx_n ?_
  refine swp_seq ?_
  refine swp_seqJ h (fun j5 => ⟨37, [(0, .own 1000000), (1, vi j5.1), (5, vi s3.1)], [(1000000, oa 92 3 eSite j5.2)]⟩) (fun v6 h => ?_) (fun j5 h => ?_)
  refine swp_blk (a := v6) ?_
  refine sr ?_
  refine SRun.ck tbok 3 ⟨37, [(0, .own 1000000), (1, vi s3.2.1), (5, vi s3.1), (12, .own 1000000), (13, vi s3.1), (14, vi s3.2.1)], [(1000000, oa 92 3 eSite s3.2.2)]⟩ ?_
  obtain ⟨x7, hx7, h⟩ := bind_some h
  refine SRun.ls (xc ents65 (laws_markText_run s3.2.1 _ hx7)) ?_
  obtain ⟨x8, hx8, h⟩ := bind_some h
  refine SRun.ls (x_index_own (d := 1000000) (L := s3.2.2) (f := eSite) (ti := ti33) (tj := ti92) (e := 92) (e' := 92) (m := 3) (k := .i64) tbok rfl hx8) ?_
  refine SRun.ck tbok 1 ⟨37, [(0, .own 1000000), (1, vi s3.2.1), (5, vi s3.1), (15, vs x7), (17, .eref 1000000 3 (Int.toNat s3.1) 0)], [(1000000, oa 92 3 eSite s3.2.2)]⟩ ?_
  refine SRun.estep (x_store_own (d := 1000000) (m := 3) (j := 0) (L := s3.2.2) (f := eSite) (x := (Site.mk x7 x8.At)) (z := x8) (ti := ti9) (e := 92) (ts := [.str x7]) (vs := [vs x7]) (v := vs x7) tbok rfl rfl hx8) ?_
  refine SRun.nx ?_
  refine srk tbok ⟨37, [(0, .own 1000000), (1, vi (w64 (s3.2.1 + 1))), (5, vi s3.1)], [(1000000, oa 92 3 eSite (List.set s3.2.2 (Int.toNat s3.1) (Site.mk x7 x8.At)))]⟩ ?_
  refine sr ?_
  refine SRun.ck tbok 3 ⟨37, [(0, .own 1000000), (1, vi (w64 (s3.2.1 + 1))), (5, vi s3.1), (20, .own 1000000), (21, vi s3.1), (22, vi (w64 (s3.2.1 + 1)))], [(1000000, oa 92 3 eSite (List.set s3.2.2 (Int.toNat s3.1) (Site.mk x7 x8.At)))]⟩ ?_
  obtain ⟨x9, hx9, h⟩ := bind_some h
  refine SRun.ls (x_index_own (d := 1000000) (L := (List.set s3.2.2 (Int.toNat s3.1) (Site.mk x7 x8.At))) (f := eSite) (ti := ti33) (tj := ti92) (e := 92) (e' := 92) (m := 3) (k := .i64) tbok rfl hx9) ?_
  refine SRun.ck tbok 2 ⟨37, [(0, .own 1000000), (1, vi (w64 (s3.2.1 + 1))), (5, vi s3.1), (22, vi (w64 (s3.2.1 + 1))), (25, .eref 1000000 3 (Int.toNat s3.1) 1)], [(1000000, oa 92 3 eSite (List.set s3.2.2 (Int.toNat s3.1) (Site.mk x7 x8.At)))]⟩ ?_
  refine SRun.estep (x_store_own (d := 1000000) (m := 3) (j := 1) (L := (List.set s3.2.2 (Int.toNat s3.1) (Site.mk x7 x8.At))) (f := eSite) (x := (Site.mk x9.Code (Point.mk (w64 (s3.2.1 + 1)) x9.At.Y))) (z := x9) (ti := ti2) (e := 92) (ts := [.int .i64 (w64 (s3.2.1 + 1))]) (vs := [vi (w64 (s3.2.1 + 1))]) (v := vi (w64 (s3.2.1 + 1))) tbok rfl rfl hx9) ?_
  refine SRun.nx ?_
  refine srk tbok ⟨37, [(0, .own 1000000), (1, vi (w64 ((w64 (s3.2.1 + 1)) + 1))), (5, vi s3.1)], [(1000000, oa 92 3 eSite (List.set (List.set s3.2.2 (Int.toNat s3.1) (Site.mk x7 x8.At)) (Int.toNat s3.1) (Site.mk x9.Code (Point.mk (w64 (s3.2.1 + 1)) x9.At.Y))))]⟩ ?_
  refine sr ?_
  refine SRun.ck tbok 3 ⟨37, [(0, .own 1000000), (1, vi (w64 ((w64 (s3.2.1 + 1)) + 1))), (5, vi s3.1), (28, .own 1000000), (29, vi s3.1), (30, vi (w64 ((w64 (s3.2.1 + 1)) + 1)))], [(1000000, oa 92 3 eSite (List.set (List.set s3.2.2 (Int.toNat s3.1) (Site.mk x7 x8.At)) (Int.toNat s3.1) (Site.mk x9.Code (Point.mk (w64 (s3.2.1 + 1)) x9.At.Y))))]⟩ ?_
  obtain ⟨x10, hx10, h⟩ := bind_some h
  refine SRun.ls (x_index_own (d := 1000000) (L := (List.set (List.set s3.2.2 (Int.toNat s3.1) (Site.mk x7 x8.At)) (Int.toNat s3.1) (Site.mk x9.Code (Point.mk (w64 (s3.2.1 + 1)) x9.At.Y)))) (f := eSite) (ti := ti33) (tj := ti92) (e := 92) (e' := 92) (m := 3) (k := .i64) tbok rfl hx10) ?_
  refine SRun.ck tbok 2 ⟨37, [(0, .own 1000000), (1, vi (w64 ((w64 (s3.2.1 + 1)) + 1))), (5, vi s3.1), (30, vi (w64 ((w64 (s3.2.1 + 1)) + 1))), (33, .eref 1000000 3 (Int.toNat s3.1) 2)], [(1000000, oa 92 3 eSite (List.set (List.set s3.2.2 (Int.toNat s3.1) (Site.mk x7 x8.At)) (Int.toNat s3.1) (Site.mk x9.Code (Point.mk (w64 (s3.2.1 + 1)) x9.At.Y))))]⟩ ?_
  refine SRun.estep (x_store_own (d := 1000000) (m := 3) (j := 2) (L := (List.set (List.set s3.2.2 (Int.toNat s3.1) (Site.mk x7 x8.At)) (Int.toNat s3.1) (Site.mk x9.Code (Point.mk (w64 (s3.2.1 + 1)) x9.At.Y)))) (f := eSite) (x := (Site.mk x10.Code (Point.mk x10.At.X (w64 ((w64 (s3.2.1 + 1)) + 1))))) (z := x10) (ti := ti2) (e := 92) (ts := [.int .i64 (w64 ((w64 (s3.2.1 + 1)) + 1))]) (vs := [vi (w64 ((w64 (s3.2.1 + 1)) + 1))]) (v := vi (w64 ((w64 (s3.2.1 + 1)) + 1))) tbok rfl rfl hx10) ?_
  refine SRun.nx ?_
  refine swp_reg ?_
  refine SRun.ck tbok 3 ⟨37, [(0, .own 1000000), (1, vi (w64 ((w64 ((w64 (s3.2.1 + 1)) + 1)) + 1))), (5, vi s3.1)], [(1000000, oa 92 3 eSite (List.set (List.set (List.set s3.2.2 (Int.toNat s3.1) (Site.mk x7 x8.At)) (Int.toNat s3.1) (Site.mk x9.Code (Point.mk (w64 (s3.2.1 + 1)) x9.At.Y))) (Int.toNat s3.1) (Site.mk x10.Code (Point.mk x10.At.X (w64 ((w64 (s3.2.1 + 1)) + 1))))))]⟩ ?_
  refine SRun.nil ?_
  obtain rfl := inj h
  exact q_bn (q_j (Le.sub0))
  refine swp_reg ?_
  refine SRun.ck tbok 3 ⟨37, [(0, .own 1000000), (1, vi j5.1), (5, vi (w64 (s3.1 + 1)))], [(1000000, oa 92 3 eSite j5.2)]⟩ ?_
  refine SRun.nil ?_
  obtain rfl := inj h
  exact q_l (Le.sub0)
  refine swp_exit ?_
  obtain rfl := inj h
  exact nx_e (q_re (q_bh (q_j (Le.sub0))))
  refine srk tbok ⟨37, [(4, vi j1.1)], [(1000000, oa 92 3 eSite j1.2)]⟩ ?_
  refine swp_ret ?_
  obtain rfl := inj h
  exact q_fr (fin_io (f1 fv) (y := oa 92 3 eSite j1.2) (by kernel_rfl) rfl (by kernel_rfl) (by kernel_rfl))
theorem ents20 : Ents Tryz.prog 20 := ents_of Tryz.func20 (by kernel_rfl) rfl
noncomputable def laws_markDescriptionS (aA : (List Description)) (aK : Int) : Option (Int × (List Description)) :=
  (((forH (fun (i3 : Int) (s3 : Int × (List Description)) => (decide (i3 < (s3.2.length : Int)))) (fun (i3 : Int) (s3 : Int × (List Description)) => ((at' s3.2 i3).bind fun x7 => ((at' (List.set s3.2 (Int.toNat i3) (Description.mk s3.1 x7.Count x7.Unit x7.Direction x7.A x7.B)) i3).bind fun x8 => ((laws_markText (w64 ((w64 (s3.1 + 1)) + 1))).bind fun x9 => ((at' (List.set (List.set s3.2 (Int.toNat i3) (Description.mk s3.1 x7.Count x7.Unit x7.Direction x7.A x7.B)) (Int.toNat i3) (Description.mk x8.Kind (w64 (s3.1 + 1)) x8.Unit x8.Direction x8.A x8.B)) i3).bind fun x10 => ((at' (List.set (List.set (List.set s3.2 (Int.toNat i3) (Description.mk s3.1 x7.Count x7.Unit x7.Direction x7.A x7.B)) (Int.toNat i3) (Description.mk x8.Kind (w64 (s3.1 + 1)) x8.Unit x8.Direction x8.A x8.B)) (Int.toNat i3) (Description.mk x10.Kind x10.Count x9 x10.Direction x10.A x10.B)) i3).bind fun x11 => ((laws_markText (w64 ((w64 ((w64 ((w64 (s3.1 + 1)) + 1)) + 1)) + 1))).bind fun x12 => ((at' (List.set (List.set (List.set (List.set s3.2 (Int.toNat i3) (Description.mk s3.1 x7.Count x7.Unit x7.Direction x7.A x7.B)) (Int.toNat i3) (Description.mk x8.Kind (w64 (s3.1 + 1)) x8.Unit x8.Direction x8.A x8.B)) (Int.toNat i3) (Description.mk x10.Kind x10.Count x9 x10.Direction x10.A x10.B)) (Int.toNat i3) (Description.mk x11.Kind x11.Count x11.Unit (w64 ((w64 ((w64 (s3.1 + 1)) + 1)) + 1)) x11.A x11.B)) i3).bind fun x13 => ((laws_markText (w64 ((w64 ((w64 ((w64 ((w64 (s3.1 + 1)) + 1)) + 1)) + 1)) + 1))).bind fun x14 => ((at' (List.set (List.set (List.set (List.set (List.set s3.2 (Int.toNat i3) (Description.mk s3.1 x7.Count x7.Unit x7.Direction x7.A x7.B)) (Int.toNat i3) (Description.mk x8.Kind (w64 (s3.1 + 1)) x8.Unit x8.Direction x8.A x8.B)) (Int.toNat i3) (Description.mk x10.Kind x10.Count x9 x10.Direction x10.A x10.B)) (Int.toNat i3) (Description.mk x11.Kind x11.Count x11.Unit (w64 ((w64 ((w64 (s3.1 + 1)) + 1)) + 1)) x11.A x11.B)) (Int.toNat i3) (Description.mk x13.Kind x13.Count x13.Unit x13.Direction x12 x13.B)) i3).bind fun x15 => some ((w64 ((w64 ((w64 ((w64 ((w64 ((w64 (s3.1 + 1)) + 1)) + 1)) + 1)) + 1)) + 1)), (List.set (List.set (List.set (List.set (List.set (List.set s3.2 (Int.toNat i3) (Description.mk s3.1 x7.Count x7.Unit x7.Direction x7.A x7.B)) (Int.toNat i3) (Description.mk x8.Kind (w64 (s3.1 + 1)) x8.Unit x8.Direction x8.A x8.B)) (Int.toNat i3) (Description.mk x10.Kind x10.Count x9 x10.Direction x10.A x10.B)) (Int.toNat i3) (Description.mk x11.Kind x11.Count x11.Unit (w64 ((w64 ((w64 (s3.1 + 1)) + 1)) + 1)) x11.A x11.B)) (Int.toNat i3) (Description.mk x13.Kind x13.Count x13.Unit x13.Direction x12 x13.B)) (Int.toNat i3) (Description.mk x15.Kind x15.Count x15.Unit x15.Direction x15.A x14))))))))))))) (fun (s3 : Int × (List Description)) => (s3.1, s3.2)) 0 (aK, aA))).bind fun (j1 : Int × (List Description)) => some (j1.1, j1.2))
theorem laws_markDescriptionS_run (aA : (List Description)) (aK : Int) (r : Int × (List Description)) (h : laws_markDescriptionS aA aK = some r) : SCall Tryz.prog 21 [.o (oa 84 6 eDescription aA), .v (vi aK)] ⟨[.v (vi r.1)], [(0, oa 84 6 eDescription r.2)], false⟩ := by
  refine scall_in Tryz.func21 rfl [(.tmp 4)] rfl (fun r => ⟨[.v (vi r.1)], [(0, oa 84 6 eDescription r.2)], false⟩) (r := r) ?_
  unfold laws_markDescriptionS at h
  refine srk tbok ⟨58, [(0, .own 1000000), (1, vi aK)], [(1000000, oa 84 6 eDescription aA)]⟩ ?_
  refine swp_seq ?_
  refine srk tbok ⟨58, [(0, .own 1000000), (1, vi aK), (5, vi 0)], [(1000000, oa 84 6 eDescription aA)]⟩ ?_
  refine swp_seqJ h (fun j1 => ⟨58, [(1, vi j1.1)], [(1000000, oa 84 6 eDescription j1.2)]⟩) (fun v2 h => ?_) (fun j1 h => ?_)
  refine swp_blk (a := v2) ?_
  refine swp_lpL (r := v2) (s := (0, aK, aA)) _ (fun s3 => ⟨58, [(0, .own 1000000), (1, vi s3.2.1), (5, vi s3.1)], [(1000000, oa 84 6 eDescription s3.2.2)]⟩) _ (Le.sub0) h (fun s3 v4 h => ?_)
  refine swp_seq ?_
  refine srk tbok ⟨58, [(0, .own 1000000), (1, vi s3.2.1), (5, vi s3.1), (9, vb (decide (s3.1 < (s3.2.2.length : Int))))], [(1000000, oa 84 6 eDescription s3.2.2)]⟩ ?_
  refine swp_cd h (fun h => ?_) fun h => ?_
  refine swp_skip ?_
  refine nx_n ?_
  refine swp_seq ?_
  refine swp_seqJ h (fun j5 => ⟨58, [(0, .own 1000000), (1, vi j5.1), (5, vi s3.1)], [(1000000, oa 84 6 eDescription j5.2)]⟩) (fun v6 h => ?_) (fun j5 h => ?_)
  refine swp_blk (a := v6) ?_
  refine sr ?_
  refine SRun.ck tbok 3 ⟨58, [(0, .own 1000000), (1, vi s3.2.1), (5, vi s3.1), (12, .own 1000000), (13, vi s3.1), (14, vi s3.2.1)], [(1000000, oa 84 6 eDescription s3.2.2)]⟩ ?_
  obtain ⟨x7, hx7, h⟩ := bind_some h
  refine SRun.ls (x_index_own (d := 1000000) (L := s3.2.2) (f := eDescription) (ti := ti35) (tj := ti84) (e := 84) (e' := 84) (m := 6) (k := .i64) tbok rfl hx7) ?_
  refine SRun.ck tbok 1 ⟨58, [(0, .own 1000000), (1, vi s3.2.1), (5, vi s3.1), (14, vi s3.2.1), (16, .eref 1000000 6 (Int.toNat s3.1) 0)], [(1000000, oa 84 6 eDescription s3.2.2)]⟩ ?_
  refine SRun.estep (x_store_own (d := 1000000) (m := 6) (j := 0) (L := s3.2.2) (f := eDescription) (x := (Description.mk s3.2.1 x7.Count x7.Unit x7.Direction x7.A x7.B)) (z := x7) (ti := ti2) (e := 84) (ts := [.int .i64 s3.2.1]) (vs := [vi s3.2.1]) (v := vi s3.2.1) tbok rfl rfl hx7) ?_
  refine SRun.nx ?_
  refine srk tbok ⟨58, [(0, .own 1000000), (1, vi (w64 (s3.2.1 + 1))), (5, vi s3.1)], [(1000000, oa 84 6 eDescription (List.set s3.2.2 (Int.toNat s3.1) (Description.mk s3.2.1 x7.Count x7.Unit x7.Direction x7.A x7.B)))]⟩ ?_
  refine sr ?_
  refine SRun.ck tbok 3 ⟨58, [(0, .own 1000000), (1, vi (w64 (s3.2.1 + 1))), (5, vi s3.1), (19, .own 1000000), (20, vi s3.1), (21, vi (w64 (s3.2.1 + 1)))], [(1000000, oa 84 6 eDescription (List.set s3.2.2 (Int.toNat s3.1) (Description.mk s3.2.1 x7.Count x7.Unit x7.Direction x7.A x7.B)))]⟩ ?_
  obtain ⟨x8, hx8, h⟩ := bind_some h
  refine SRun.ls (x_index_own (d := 1000000) (L := (List.set s3.2.2 (Int.toNat s3.1) (Description.mk s3.2.1 x7.Count x7.Unit x7.Direction x7.A x7.B))) (f := eDescription) (ti := ti35) (tj := ti84) (e := 84) (e' := 84) (m := 6) (k := .i64) tbok rfl hx8) ?_
  refine SRun.ck tbok 1 ⟨58, [(0, .own 1000000), (1, vi (w64 (s3.2.1 + 1))), (5, vi s3.1), (21, vi (w64 (s3.2.1 + 1))), (23, .eref 1000000 6 (Int.toNat s3.1) 1)], [(1000000, oa 84 6 eDescription (List.set s3.2.2 (Int.toNat s3.1) (Description.mk s3.2.1 x7.Count x7.Unit x7.Direction x7.A x7.B)))]⟩ ?_
  refine SRun.estep (x_store_own (d := 1000000) (m := 6) (j := 1) (L := (List.set s3.2.2 (Int.toNat s3.1) (Description.mk s3.2.1 x7.Count x7.Unit x7.Direction x7.A x7.B))) (f := eDescription) (x := (Description.mk x8.Kind (w64 (s3.2.1 + 1)) x8.Unit x8.Direction x8.A x8.B)) (z := x8) (ti := ti2) (e := 84) (ts := [.int .i64 (w64 (s3.2.1 + 1))]) (vs := [vi (w64 (s3.2.1 + 1))]) (v := vi (w64 (s3.2.1 + 1))) tbok rfl rfl hx8) ?_
  refine SRun.nx ?_
  refine srk tbok ⟨58, [(0, .own 1000000), (1, vi (w64 ((w64 (s3.2.1 + 1)) + 1))), (5, vi s3.1)], [(1000000, oa 84 6 eDescription (List.set (List.set s3.2.2 (Int.toNat s3.1) (Description.mk s3.2.1 x7.Count x7.Unit x7.Direction x7.A x7.B)) (Int.toNat s3.1) (Description.mk x8.Kind (w64 (s3.2.1 + 1)) x8.Unit x8.Direction x8.A x8.B)))]⟩ ?_
  refine sr ?_
  refine SRun.ck tbok 3 ⟨58, [(0, .own 1000000), (1, vi (w64 ((w64 (s3.2.1 + 1)) + 1))), (5, vi s3.1), (26, .own 1000000), (27, vi s3.1), (28, vi (w64 ((w64 (s3.2.1 + 1)) + 1)))], [(1000000, oa 84 6 eDescription (List.set (List.set s3.2.2 (Int.toNat s3.1) (Description.mk s3.2.1 x7.Count x7.Unit x7.Direction x7.A x7.B)) (Int.toNat s3.1) (Description.mk x8.Kind (w64 (s3.2.1 + 1)) x8.Unit x8.Direction x8.A x8.B)))]⟩ ?_
  obtain ⟨x9, hx9, h⟩ := bind_some h
  refine SRun.ls (xc ents65 (laws_markText_run (w64 ((w64 (s3.2.1 + 1)) + 1)) _ hx9)) ?_
  obtain ⟨x10, hx10, h⟩ := bind_some h
  refine SRun.ls (x_index_own (d := 1000000) (L := (List.set (List.set s3.2.2 (Int.toNat s3.1) (Description.mk s3.2.1 x7.Count x7.Unit x7.Direction x7.A x7.B)) (Int.toNat s3.1) (Description.mk x8.Kind (w64 (s3.2.1 + 1)) x8.Unit x8.Direction x8.A x8.B))) (f := eDescription) (ti := ti35) (tj := ti84) (e := 84) (e' := 84) (m := 6) (k := .i64) tbok rfl hx10) ?_
  refine SRun.ck tbok 1 ⟨58, [(0, .own 1000000), (1, vi (w64 ((w64 (s3.2.1 + 1)) + 1))), (5, vi s3.1), (29, vs x9), (31, .eref 1000000 6 (Int.toNat s3.1) 2)], [(1000000, oa 84 6 eDescription (List.set (List.set s3.2.2 (Int.toNat s3.1) (Description.mk s3.2.1 x7.Count x7.Unit x7.Direction x7.A x7.B)) (Int.toNat s3.1) (Description.mk x8.Kind (w64 (s3.2.1 + 1)) x8.Unit x8.Direction x8.A x8.B)))]⟩ ?_
  refine SRun.estep (x_store_own (d := 1000000) (m := 6) (j := 2) (L := (List.set (List.set s3.2.2 (Int.toNat s3.1) (Description.mk s3.2.1 x7.Count x7.Unit x7.Direction x7.A x7.B)) (Int.toNat s3.1) (Description.mk x8.Kind (w64 (s3.2.1 + 1)) x8.Unit x8.Direction x8.A x8.B))) (f := eDescription) (x := (Description.mk x10.Kind x10.Count x9 x10.Direction x10.A x10.B)) (z := x10) (ti := ti9) (e := 84) (ts := [.str x9]) (vs := [vs x9]) (v := vs x9) tbok rfl rfl hx10) ?_
  refine SRun.nx ?_
  refine srk tbok ⟨58, [(0, .own 1000000), (1, vi (w64 ((w64 ((w64 (s3.2.1 + 1)) + 1)) + 1))), (5, vi s3.1)], [(1000000, oa 84 6 eDescription (List.set (List.set (List.set s3.2.2 (Int.toNat s3.1) (Description.mk s3.2.1 x7.Count x7.Unit x7.Direction x7.A x7.B)) (Int.toNat s3.1) (Description.mk x8.Kind (w64 (s3.2.1 + 1)) x8.Unit x8.Direction x8.A x8.B)) (Int.toNat s3.1) (Description.mk x10.Kind x10.Count x9 x10.Direction x10.A x10.B)))]⟩ ?_
  refine sr ?_
  refine SRun.ck tbok 3 ⟨58, [(0, .own 1000000), (1, vi (w64 ((w64 ((w64 (s3.2.1 + 1)) + 1)) + 1))), (5, vi s3.1), (34, .own 1000000), (35, vi s3.1), (36, vi (w64 ((w64 ((w64 (s3.2.1 + 1)) + 1)) + 1)))], [(1000000, oa 84 6 eDescription (List.set (List.set (List.set s3.2.2 (Int.toNat s3.1) (Description.mk s3.2.1 x7.Count x7.Unit x7.Direction x7.A x7.B)) (Int.toNat s3.1) (Description.mk x8.Kind (w64 (s3.2.1 + 1)) x8.Unit x8.Direction x8.A x8.B)) (Int.toNat s3.1) (Description.mk x10.Kind x10.Count x9 x10.Direction x10.A x10.B)))]⟩ ?_
  obtain ⟨x11, hx11, h⟩ := bind_some h
  refine SRun.ls (x_index_own (d := 1000000) (L := (List.set (List.set (List.set s3.2.2 (Int.toNat s3.1) (Description.mk s3.2.1 x7.Count x7.Unit x7.Direction x7.A x7.B)) (Int.toNat s3.1) (Description.mk x8.Kind (w64 (s3.2.1 + 1)) x8.Unit x8.Direction x8.A x8.B)) (Int.toNat s3.1) (Description.mk x10.Kind x10.Count x9 x10.Direction x10.A x10.B))) (f := eDescription) (ti := ti35) (tj := ti84) (e := 84) (e' := 84) (m := 6) (k := .i64) tbok rfl hx11) ?_
  refine SRun.ck tbok 1 ⟨58, [(0, .own 1000000), (1, vi (w64 ((w64 ((w64 (s3.2.1 + 1)) + 1)) + 1))), (5, vi s3.1), (36, vi (w64 ((w64 ((w64 (s3.2.1 + 1)) + 1)) + 1))), (38, .eref 1000000 6 (Int.toNat s3.1) 3)], [(1000000, oa 84 6 eDescription (List.set (List.set (List.set s3.2.2 (Int.toNat s3.1) (Description.mk s3.2.1 x7.Count x7.Unit x7.Direction x7.A x7.B)) (Int.toNat s3.1) (Description.mk x8.Kind (w64 (s3.2.1 + 1)) x8.Unit x8.Direction x8.A x8.B)) (Int.toNat s3.1) (Description.mk x10.Kind x10.Count x9 x10.Direction x10.A x10.B)))]⟩ ?_
  refine SRun.estep (x_store_own (d := 1000000) (m := 6) (j := 3) (L := (List.set (List.set (List.set s3.2.2 (Int.toNat s3.1) (Description.mk s3.2.1 x7.Count x7.Unit x7.Direction x7.A x7.B)) (Int.toNat s3.1) (Description.mk x8.Kind (w64 (s3.2.1 + 1)) x8.Unit x8.Direction x8.A x8.B)) (Int.toNat s3.1) (Description.mk x10.Kind x10.Count x9 x10.Direction x10.A x10.B))) (f := eDescription) (x := (Description.mk x11.Kind x11.Count x11.Unit (w64 ((w64 ((w64 (s3.2.1 + 1)) + 1)) + 1)) x11.A x11.B)) (z := x11) (ti := ti2) (e := 84) (ts := [.int .i64 (w64 ((w64 ((w64 (s3.2.1 + 1)) + 1)) + 1))]) (vs := [vi (w64 ((w64 ((w64 (s3.2.1 + 1)) + 1)) + 1))]) (v := vi (w64 ((w64 ((w64 (s3.2.1 + 1)) + 1)) + 1))) tbok rfl rfl hx11) ?_
  refine SRun.nx ?_
  refine srk tbok ⟨58, [(0, .own 1000000), (1, vi (w64 ((w64 ((w64 ((w64 (s3.2.1 + 1)) + 1)) + 1)) + 1))), (5, vi s3.1)], [(1000000, oa 84 6 eDescription (List.set (List.set (List.set (List.set s3.2.2 (Int.toNat s3.1) (Description.mk s3.2.1 x7.Count x7.Unit x7.Direction x7.A x7.B)) (Int.toNat s3.1) (Description.mk x8.Kind (w64 (s3.2.1 + 1)) x8.Unit x8.Direction x8.A x8.B)) (Int.toNat s3.1) (Description.mk x10.Kind x10.Count x9 x10.Direction x10.A x10.B)) (Int.toNat s3.1) (Description.mk x11.Kind x11.Count x11.Unit (w64 ((w64 ((w64 (s3.2.1 + 1)) + 1)) + 1)) x11.A x11.B)))]⟩ ?_
  refine sr ?_
  refine SRun.ck tbok 3 ⟨58, [(0, .own 1000000), (1, vi (w64 ((w64 ((w64 ((w64 (s3.2.1 + 1)) + 1)) + 1)) + 1))), (5, vi s3.1), (41, .own 1000000), (42, vi s3.1), (43, vi (w64 ((w64 ((w64 ((w64 (s3.2.1 + 1)) + 1)) + 1)) + 1)))], [(1000000, oa 84 6 eDescription (List.set (List.set (List.set (List.set s3.2.2 (Int.toNat s3.1) (Description.mk s3.2.1 x7.Count x7.Unit x7.Direction x7.A x7.B)) (Int.toNat s3.1) (Description.mk x8.Kind (w64 (s3.2.1 + 1)) x8.Unit x8.Direction x8.A x8.B)) (Int.toNat s3.1) (Description.mk x10.Kind x10.Count x9 x10.Direction x10.A x10.B)) (Int.toNat s3.1) (Description.mk x11.Kind x11.Count x11.Unit (w64 ((w64 ((w64 (s3.2.1 + 1)) + 1)) + 1)) x11.A x11.B)))]⟩ ?_
  obtain ⟨x12, hx12, h⟩ := bind_some h
  refine SRun.ls (xc ents65 (laws_markText_run (w64 ((w64 ((w64 ((w64 (s3.2.1 + 1)) + 1)) + 1)) + 1)) _ hx12)) ?_
  obtain ⟨x13, hx13, h⟩ := bind_some h
  refine SRun.ls (x_index_own (d := 1000000) (L := (List.set (List.set (List.set (List.set s3.2.2 (Int.toNat s3.1) (Description.mk s3.2.1 x7.Count x7.Unit x7.Direction x7.A x7.B)) (Int.toNat s3.1) (Description.mk x8.Kind (w64 (s3.2.1 + 1)) x8.Unit x8.Direction x8.A x8.B)) (Int.toNat s3.1) (Description.mk x10.Kind x10.Count x9 x10.Direction x10.A x10.B)) (Int.toNat s3.1) (Description.mk x11.Kind x11.Count x11.Unit (w64 ((w64 ((w64 (s3.2.1 + 1)) + 1)) + 1)) x11.A x11.B))) (f := eDescription) (ti := ti35) (tj := ti84) (e := 84) (e' := 84) (m := 6) (k := .i64) tbok rfl hx13) ?_
  refine SRun.ck tbok 1 ⟨58, [(0, .own 1000000), (1, vi (w64 ((w64 ((w64 ((w64 (s3.2.1 + 1)) + 1)) + 1)) + 1))), (5, vi s3.1), (44, vs x12), (46, .eref 1000000 6 (Int.toNat s3.1) 4)], [(1000000, oa 84 6 eDescription (List.set (List.set (List.set (List.set s3.2.2 (Int.toNat s3.1) (Description.mk s3.2.1 x7.Count x7.Unit x7.Direction x7.A x7.B)) (Int.toNat s3.1) (Description.mk x8.Kind (w64 (s3.2.1 + 1)) x8.Unit x8.Direction x8.A x8.B)) (Int.toNat s3.1) (Description.mk x10.Kind x10.Count x9 x10.Direction x10.A x10.B)) (Int.toNat s3.1) (Description.mk x11.Kind x11.Count x11.Unit (w64 ((w64 ((w64 (s3.2.1 + 1)) + 1)) + 1)) x11.A x11.B)))]⟩ ?_
  refine SRun.estep (x_store_own (d := 1000000) (m := 6) (j := 4) (L := (List.set (List.set (List.set (List.set s3.2.2 (Int.toNat s3.1) (Description.mk s3.2.1 x7.Count x7.Unit x7.Direction x7.A x7.B)) (Int.toNat s3.1) (Description.mk x8.Kind (w64 (s3.2.1 + 1)) x8.Unit x8.Direction x8.A x8.B)) (Int.toNat s3.1) (Description.mk x10.Kind x10.Count x9 x10.Direction x10.A x10.B)) (Int.toNat s3.1) (Description.mk x11.Kind x11.Count x11.Unit (w64 ((w64 ((w64 (s3.2.1 + 1)) + 1)) + 1)) x11.A x11.B))) (f := eDescription) (x := (Description.mk x13.Kind x13.Count x13.Unit x13.Direction x12 x13.B)) (z := x13) (ti := ti9) (e := 84) (ts := [.str x12]) (vs := [vs x12]) (v := vs x12) tbok rfl rfl hx13) ?_
  refine SRun.nx ?_
  refine srk tbok ⟨58, [(0, .own 1000000), (1, vi (w64 ((w64 ((w64 ((w64 ((w64 (s3.2.1 + 1)) + 1)) + 1)) + 1)) + 1))), (5, vi s3.1)], [(1000000, oa 84 6 eDescription (List.set (List.set (List.set (List.set (List.set s3.2.2 (Int.toNat s3.1) (Description.mk s3.2.1 x7.Count x7.Unit x7.Direction x7.A x7.B)) (Int.toNat s3.1) (Description.mk x8.Kind (w64 (s3.2.1 + 1)) x8.Unit x8.Direction x8.A x8.B)) (Int.toNat s3.1) (Description.mk x10.Kind x10.Count x9 x10.Direction x10.A x10.B)) (Int.toNat s3.1) (Description.mk x11.Kind x11.Count x11.Unit (w64 ((w64 ((w64 (s3.2.1 + 1)) + 1)) + 1)) x11.A x11.B)) (Int.toNat s3.1) (Description.mk x13.Kind x13.Count x13.Unit x13.Direction x12 x13.B)))]⟩ ?_
  refine sr ?_
  refine SRun.ck tbok 3 ⟨58, [(0, .own 1000000), (1, vi (w64 ((w64 ((w64 ((w64 ((w64 (s3.2.1 + 1)) + 1)) + 1)) + 1)) + 1))), (5, vi s3.1), (49, .own 1000000), (50, vi s3.1), (51, vi (w64 ((w64 ((w64 ((w64 ((w64 (s3.2.1 + 1)) + 1)) + 1)) + 1)) + 1)))], [(1000000, oa 84 6 eDescription (List.set (List.set (List.set (List.set (List.set s3.2.2 (Int.toNat s3.1) (Description.mk s3.2.1 x7.Count x7.Unit x7.Direction x7.A x7.B)) (Int.toNat s3.1) (Description.mk x8.Kind (w64 (s3.2.1 + 1)) x8.Unit x8.Direction x8.A x8.B)) (Int.toNat s3.1) (Description.mk x10.Kind x10.Count x9 x10.Direction x10.A x10.B)) (Int.toNat s3.1) (Description.mk x11.Kind x11.Count x11.Unit (w64 ((w64 ((w64 (s3.2.1 + 1)) + 1)) + 1)) x11.A x11.B)) (Int.toNat s3.1) (Description.mk x13.Kind x13.Count x13.Unit x13.Direction x12 x13.B)))]⟩ ?_
  obtain ⟨x14, hx14, h⟩ := bind_some h
  refine SRun.ls (xc ents65 (laws_markText_run (w64 ((w64 ((w64 ((w64 ((w64 (s3.2.1 + 1)) + 1)) + 1)) + 1)) + 1)) _ hx14)) ?_
  obtain ⟨x15, hx15, h⟩ := bind_some h
  refine SRun.ls (x_index_own (d := 1000000) (L := (List.set (List.set (List.set (List.set (List.set s3.2.2 (Int.toNat s3.1) (Description.mk s3.2.1 x7.Count x7.Unit x7.Direction x7.A x7.B)) (Int.toNat s3.1) (Description.mk x8.Kind (w64 (s3.2.1 + 1)) x8.Unit x8.Direction x8.A x8.B)) (Int.toNat s3.1) (Description.mk x10.Kind x10.Count x9 x10.Direction x10.A x10.B)) (Int.toNat s3.1) (Description.mk x11.Kind x11.Count x11.Unit (w64 ((w64 ((w64 (s3.2.1 + 1)) + 1)) + 1)) x11.A x11.B)) (Int.toNat s3.1) (Description.mk x13.Kind x13.Count x13.Unit x13.Direction x12 x13.B))) (f := eDescription) (ti := ti35) (tj := ti84) (e := 84) (e' := 84) (m := 6) (k := .i64) tbok rfl hx15) ?_
  refine SRun.ck tbok 1 ⟨58, [(0, .own 1000000), (1, vi (w64 ((w64 ((w64 ((w64 ((w64 (s3.2.1 + 1)) + 1)) + 1)) + 1)) + 1))), (5, vi s3.1), (52, vs x14), (54, .eref 1000000 6 (Int.toNat s3.1) 5)], [(1000000, oa 84 6 eDescription (List.set (List.set (List.set (List.set (List.set s3.2.2 (Int.toNat s3.1) (Description.mk s3.2.1 x7.Count x7.Unit x7.Direction x7.A x7.B)) (Int.toNat s3.1) (Description.mk x8.Kind (w64 (s3.2.1 + 1)) x8.Unit x8.Direction x8.A x8.B)) (Int.toNat s3.1) (Description.mk x10.Kind x10.Count x9 x10.Direction x10.A x10.B)) (Int.toNat s3.1) (Description.mk x11.Kind x11.Count x11.Unit (w64 ((w64 ((w64 (s3.2.1 + 1)) + 1)) + 1)) x11.A x11.B)) (Int.toNat s3.1) (Description.mk x13.Kind x13.Count x13.Unit x13.Direction x12 x13.B)))]⟩ ?_
  refine SRun.estep (x_store_own (d := 1000000) (m := 6) (j := 5) (L := (List.set (List.set (List.set (List.set (List.set s3.2.2 (Int.toNat s3.1) (Description.mk s3.2.1 x7.Count x7.Unit x7.Direction x7.A x7.B)) (Int.toNat s3.1) (Description.mk x8.Kind (w64 (s3.2.1 + 1)) x8.Unit x8.Direction x8.A x8.B)) (Int.toNat s3.1) (Description.mk x10.Kind x10.Count x9 x10.Direction x10.A x10.B)) (Int.toNat s3.1) (Description.mk x11.Kind x11.Count x11.Unit (w64 ((w64 ((w64 (s3.2.1 + 1)) + 1)) + 1)) x11.A x11.B)) (Int.toNat s3.1) (Description.mk x13.Kind x13.Count x13.Unit x13.Direction x12 x13.B))) (f := eDescription) (x := (Description.mk x15.Kind x15.Count x15.Unit x15.Direction x15.A x14)) (z := x15) (ti := ti9) (e := 84) (ts := [.str x14]) (vs := [vs x14]) (v := vs x14) tbok rfl rfl hx15) ?_
  refine SRun.nx ?_
  refine swp_reg ?_
  refine SRun.ck tbok 3 ⟨58, [(0, .own 1000000), (1, vi (w64 ((w64 ((w64 ((w64 ((w64 ((w64 (s3.2.1 + 1)) + 1)) + 1)) + 1)) + 1)) + 1))), (5, vi s3.1)], [(1000000, oa 84 6 eDescription (List.set (List.set (List.set (List.set (List.set (List.set s3.2.2 (Int.toNat s3.1) (Description.mk s3.2.1 x7.Count x7.Unit x7.Direction x7.A x7.B)) (Int.toNat s3.1) (Description.mk x8.Kind (w64 (s3.2.1 + 1)) x8.Unit x8.Direction x8.A x8.B)) (Int.toNat s3.1) (Description.mk x10.Kind x10.Count x9 x10.Direction x10.A x10.B)) (Int.toNat s3.1) (Description.mk x11.Kind x11.Count x11.Unit (w64 ((w64 ((w64 (s3.2.1 + 1)) + 1)) + 1)) x11.A x11.B)) (Int.toNat s3.1) (Description.mk x13.Kind x13.Count x13.Unit x13.Direction x12 x13.B)) (Int.toNat s3.1) (Description.mk x15.Kind x15.Count x15.Unit x15.Direction x15.A x14)))]⟩ ?_
  refine SRun.nil ?_
  obtain rfl := inj h
  exact q_bn (q_j (Le.sub0))
  refine swp_reg ?_
  refine SRun.ck tbok 3 ⟨58, [(0, .own 1000000), (1, vi j5.1), (5, vi (w64 (s3.1 + 1)))], [(1000000, oa 84 6 eDescription j5.2)]⟩ ?_
  refine SRun.nil ?_
  obtain rfl := inj h
  exact q_l (Le.sub0)
  refine swp_exit ?_
  obtain rfl := inj h
  exact nx_e (q_re (q_bh (q_j (Le.sub0))))
  refine srk tbok ⟨58, [(4, vi j1.1)], [(1000000, oa 84 6 eDescription j1.2)]⟩ ?_
  refine swp_ret ?_
  obtain rfl := inj h
  exact q_fr (fin_io (f1 fv) (y := oa 84 6 eDescription j1.2) (by kernel_rfl) rfl (by kernel_rfl) (by kernel_rfl))
theorem ents21 : Ents Tryz.prog 21 := ents_of Tryz.func21 (by kernel_rfl) rfl
noncomputable def laws_markStringS (aA : (List ByteArray)) (aK : Int) : Option (Int × (List ByteArray)) :=
  (((forH (fun (i3 : Int) (s3 : Int × (List ByteArray)) => (decide (i3 < (s3.2.length : Int)))) (fun (i3 : Int) (s3 : Int × (List ByteArray)) => ((laws_markText s3.1).bind fun x7 => ((at' s3.2 i3).bind fun _ => some ((w64 (s3.1 + 1)), (List.set s3.2 (Int.toNat i3) x7))))) (fun (s3 : Int × (List ByteArray)) => (s3.1, s3.2)) 0 (aK, aA))).bind fun (j1 : Int × (List ByteArray)) => some (j1.1, j1.2))
theorem laws_markStringS_run (aA : (List ByteArray)) (aK : Int) (r : Int × (List ByteArray)) (h : laws_markStringS aA aK = some r) : SCall Tryz.prog 22 [.o (oa 9 1 eS aA), .v (vi aK)] ⟨[.v (vi r.1)], [(0, oa 9 1 eS r.2)], false⟩ := by
  refine scall_in Tryz.func22 rfl [(.tmp 4)] rfl (fun r => ⟨[.v (vi r.1)], [(0, oa 9 1 eS r.2)], false⟩) (r := r) ?_
  unfold laws_markStringS at h
  refine srk tbok ⟨20, [(0, .own 1000000), (1, vi aK)], [(1000000, oa 9 1 eS aA)]⟩ ?_
  refine swp_seq ?_
  refine srk tbok ⟨20, [(0, .own 1000000), (1, vi aK), (5, vi 0)], [(1000000, oa 9 1 eS aA)]⟩ ?_
  refine swp_seqJ h (fun j1 => ⟨20, [(1, vi j1.1)], [(1000000, oa 9 1 eS j1.2)]⟩) (fun v2 h => ?_) (fun j1 h => ?_)
  refine swp_blk (a := v2) ?_
  refine swp_lpL (r := v2) (s := (0, aK, aA)) _ (fun s3 => ⟨20, [(0, .own 1000000), (1, vi s3.2.1), (5, vi s3.1)], [(1000000, oa 9 1 eS s3.2.2)]⟩) _ (Le.sub0) h (fun s3 v4 h => ?_)
  refine swp_seq ?_
  refine srk tbok ⟨20, [(0, .own 1000000), (1, vi s3.2.1), (5, vi s3.1), (9, vb (decide (s3.1 < (s3.2.2.length : Int))))], [(1000000, oa 9 1 eS s3.2.2)]⟩ ?_
  refine swp_cd h (fun h => ?_) fun h => ?_
  refine swp_skip ?_
  refine nx_n ?_
  refine swp_seq ?_
  refine swp_seqJ h (fun j5 => ⟨20, [(0, .own 1000000), (1, vi j5.1), (5, vi s3.1)], [(1000000, oa 9 1 eS j5.2)]⟩) (fun v6 h => ?_) (fun j5 h => ?_)
  refine swp_blk (a := v6) ?_
  refine sr ?_
  refine SRun.ck tbok 3 ⟨20, [(0, .own 1000000), (1, vi s3.2.1), (5, vi s3.1), (12, .own 1000000), (13, vi s3.1), (14, vi s3.2.1)], [(1000000, oa 9 1 eS s3.2.2)]⟩ ?_
  obtain ⟨x7, hx7, h⟩ := bind_some h
  refine SRun.ls (xc ents65 (laws_markText_run s3.2.1 _ hx7)) ?_
  obtain ⟨x8, hx8, h⟩ := bind_some h
  refine SRun.ls (x_index_own (d := 1000000) (L := s3.2.2) (f := eS) (ti := ti28) (tj := ti9) (e := 9) (e' := 9) (m := 1) (k := .i64) tbok rfl hx8) ?_
  refine SRun.estep (x_store_own (d := 1000000) (m := 1) (j := 0) (L := s3.2.2) (f := eS) (x := x7) (z := x8) (ti := ti9) (e := 9) (ts := [.str x7]) (vs := [vs x7]) (v := vs x7) tbok rfl rfl hx8) ?_
  refine SRun.nx ?_
  refine swp_reg ?_
  refine SRun.ck tbok 3 ⟨20, [(0, .own 1000000), (1, vi (w64 (s3.2.1 + 1))), (5, vi s3.1)], [(1000000, oa 9 1 eS (List.set s3.2.2 (Int.toNat s3.1) x7))]⟩ ?_
  refine SRun.nil ?_
  obtain rfl := inj h
  exact q_bn (q_j (Le.sub0))
  refine swp_reg ?_
  refine SRun.ck tbok 3 ⟨20, [(0, .own 1000000), (1, vi j5.1), (5, vi (w64 (s3.1 + 1)))], [(1000000, oa 9 1 eS j5.2)]⟩ ?_
  refine SRun.nil ?_
  obtain rfl := inj h
  exact q_l (Le.sub0)
  refine swp_exit ?_
  obtain rfl := inj h
  exact nx_e (q_re (q_bh (q_j (Le.sub0))))
  refine srk tbok ⟨20, [(4, vi j1.1)], [(1000000, oa 9 1 eS j1.2)]⟩ ?_
  refine swp_ret ?_
  obtain rfl := inj h
  exact q_fr (fin_io (f1 fv) (y := oa 9 1 eS j1.2) (by kernel_rfl) rfl (by kernel_rfl) (by kernel_rfl))
theorem ents22 : Ents Tryz.prog 22 := ents_of Tryz.func22 (by kernel_rfl) rfl
noncomputable def laws_heldStringS (aA : (List ByteArray)) (aK : Int) : Option (Int) :=
  (((forN (aA.length : Int) (fun (i3 : Int) (s3 : Int) => ((at' aA i3).bind fun x7 => ((laws_markText s3).bind fun x8 => (bif (!(x7.toList == x8.toList)) then some (.inr (.inr (-1))) else some (.inl (w64 (s3 + 1))))))) (fun (s3 : Int) => .inl s3) 0 aK)).bind (Sum.elim (fun (j1 : Int) => some j1) some))
theorem laws_heldStringS_run (aA : (List ByteArray)) (aK : Int) (r : Int) (h : laws_heldStringS aA aK = some r) : SCall Tryz.prog 23 [.v (vl eS aA), .v (vi aK)] ⟨[.v (vi r)], [], false⟩ := by
  refine scall_in Tryz.func23 rfl [(.tmp 4)] rfl (fun r => ⟨[.v (vi r)], [], false⟩) (r := r) ?_
  unfold laws_heldStringS at h
  refine srk tbok ⟨22, [(0, vl eS aA), (1, vi aK)], []⟩ ?_
  refine swp_seq ?_
  refine srk tbok ⟨22, [(0, vl eS aA), (1, vi aK), (5, vi 0)], []⟩ ?_
  refine swp_seqE (r := r) h (fun j1 => ⟨22, [(1, vi j1)], []⟩) (fun v2 h => ?_) (fun j1 h => ?_)
  refine swp_blk (a := v2) ?_
  refine swp_lpL (r := v2) (s := (0, aK)) _ (fun s3 => ⟨22, [(0, vl eS aA), (1, vi s3.2), (5, vi s3.1)], []⟩) _ (Le.sub0) h (fun s3 v4 h => ?_)
  refine swp_seq ?_
  refine srk tbok ⟨22, [(0, vl eS aA), (1, vi s3.2), (5, vi s3.1), (9, vb (decide (s3.1 < (aA.length : Int))))], []⟩ ?_
  refine swp_cd h (fun h => ?_) fun h => ?_
  refine swp_skip ?_
  refine nx_n ?_
  refine swp_seq ?_
  refine swp_seqL (r := v4) h (fun j5 => ⟨22, [(0, vl eS aA), (1, vi j5), (5, vi s3.1)], []⟩) (fun v6 h => ?_) (fun j5 h => ?_)
  refine swp_blk (a := v6) ?_
  refine swp_seq ?_
  refine swp_seq ?_
  refine swp_dr mixed ?_
  refine DGo.ck tbok false 2 ⟨22, [(0, vl eS aA), (1, vi s3.2), (5, vi s3.1), (12, vl eS aA), (13, vi s3.1)], []⟩ ?_
  obtain ⟨x7, hx7, h⟩ := bind_some h
  refine DGo.step (x_index (L := aA) (f := eS) (ti := ti28) (tj := ti9) (e := 9) (k := .i64) tbok rfl hx7) ?_
  refine DGo.ck tbok false 2 ⟨22, [(0, vl eS aA), (1, vi s3.2), (5, vi s3.1), (15, vs x7), (16, vi s3.2)], []⟩ ?_
  obtain ⟨x8, hx8, h⟩ := bind_some h
  refine DGo.step (xc ents65 (laws_markText_run s3.2 _ hx8)) ?_
  refine DGo.ck tbok false 1 ⟨22, [(0, vl eS aA), (1, vi s3.2), (5, vi s3.1), (18, vb (!(x7.toList == x8.toList)))], []⟩ ?_
  refine DGo.nx ?_
  refine swp_cd h (fun h => ?_) fun h => ?_
  refine srk tbok ⟨22, [(4, vi (-1))], []⟩ ?_
  refine swp_ret ?_
  obtain rfl := inj h
  exact nx_r (q_br (q_rr (q_rr (q_br (q_rr (q_fr (f1 fv)))))))
  refine swp_skip ?_
  refine nx_n ?_
  refine swp_reg ?_
  refine SRun.ck tbok 3 ⟨22, [(0, vl eS aA), (1, vi (w64 (s3.2 + 1))), (5, vi s3.1)], []⟩ ?_
  refine SRun.nil ?_
  obtain rfl := inj h
  exact q_bn (q_l (Le.sub0))
  refine swp_reg ?_
  refine SRun.ck tbok 3 ⟨22, [(0, vl eS aA), (1, vi j5), (5, vi (w64 (s3.1 + 1)))], []⟩ ?_
  refine SRun.nil ?_
  obtain rfl := inj h
  exact q_l (Le.sub0)
  refine swp_exit ?_
  obtain rfl := inj h
  exact nx_e (q_re (q_bh (q_l (Le.sub0))))
  refine srk tbok ⟨22, [(4, vi j1)], []⟩ ?_
  refine swp_ret ?_
  obtain rfl := inj h
  exact q_fr (f1 fv)
theorem ents23 : Ents Tryz.prog 23 := ents_of Tryz.func23 (by kernel_rfl) rfl
noncomputable def spec_l01Distance (aA : ByteArray) (aB : ByteArray) : Option (Int) :=
  (((forH (fun (i3 : Int) (_ : (List Int)) => (decide (i3 ≤ (aB.size : Int)))) (fun (i3 : Int) (s3 : (List Int)) => ((app' s3 ([i3] : List Int)).bind fun x7 => some x7)) (fun (s3 : (List Int)) => s3) 0 ([] : List Int))).bind fun (j1 : (List Int)) => (((forH (fun (i10 : Int) (_ : (List Int)) => (decide (i10 ≤ (aA.size : Int)))) (fun (i10 : Int) (s10 : (List Int)) => (((forH (fun (i16 : Int) (_ : (List Int)) => (decide (i16 ≤ (aB.size : Int)))) (fun (i16 : Int) (s16 : (List Int)) => ((at' s10 (w64 (i16 - 1))).bind fun x20 => ((byte' aA (w64 (i10 - 1))).bind fun x21 => ((byte' aB (w64 (i16 - 1))).bind fun x22 => (((bif (x21 != x22) then some (w64 (x20 + 1)) else some x20)).bind fun (j23 : Int) => ((at' s10 i16).bind fun x25 => ((at' s16 (w64 (i16 - 1))).bind fun x26 => ((app' s16 ([(minI (minI j23 (w64 (x25 + 1))) (w64 (x26 + 1)))] : List Int)).bind fun x28 => some x28)))))))) (fun (s16 : (List Int)) => s16) 1 ([i10] : List Int))).bind fun (j14 : (List Int)) => some j14)) (fun (s10 : (List Int)) => s10) 1 j1)).bind fun (j8 : (List Int)) => ((at' j8 (aB.size : Int)).bind fun x29 => some x29)))
theorem spec_l01Distance_run (aA : ByteArray) (aB : ByteArray) (r : Int) (h : spec_l01Distance aA aB = some r) : SCall Tryz.prog 122 [.v (vs aA), .v (vs aB)] ⟨[.v (vi r)], [], false⟩ := by
  refine scall_in Tryz.func122 rfl [(.tmp 4)] rfl (fun r => ⟨[.v (vi r)], [], false⟩) (r := r) ?_
  unfold spec_l01Distance at h
  refine srk tbok ⟨74, [(0, vs aA), (1, vs aB)], []⟩ ?_
  refine srk tbok ⟨74, [(0, vs aA), (1, vs aB), (5, .own 11)], [(11, oa 2 1 (eI .i64) ([] : List Int))]⟩ ?_
  refine swp_seq ?_
  refine srk tbok ⟨74, [(0, vs aA), (1, vs aB), (5, .own 11), (6, vi 0)], [(11, oa 2 1 (eI .i64) ([] : List Int))]⟩ ?_
  refine swp_seqJ h (fun j1 => ⟨74, [(0, vs aA), (1, vs aB), (5, .own 5)], [(5, oa 2 1 (eI .i64) j1)]⟩) (fun v2 h => ?_) (fun j1 h => ?_)
  refine swp_blk (a := v2) ?_
  refine swp_lpL (r := v2) (s := (0, ([] : List Int))) _ (fun s3 => ⟨74, [(0, vs aA), (1, vs aB), (5, .own 5), (6, vi s3.1)], [(5, oa 2 1 (eI .i64) s3.2)]⟩) _ ((Le.sub' ([(0, vs aA), (1, vs aB), (5, .own 11), (6, vi 0)] : List (Nat × SV)) ([(11, oa 2 1 (eI .i64) ([] : List Int))] : List (Nat × SO)) (by kernel_rfl) (by kernel_rfl)).trans ((Le.ren' (d := 11) (e := 5) (by kernel_rfl) (by kernel_rfl) (by kernel_rfl)).trans (Le.sub0))) h (fun s3 v4 h => ?_)
  refine swp_seq ?_
  refine srk tbok ⟨74, [(0, vs aA), (1, vs aB), (5, .own 5), (6, vi s3.1), (15, vb (decide (s3.1 ≤ (aB.size : Int))))], [(5, oa 2 1 (eI .i64) s3.2)]⟩ ?_
  refine swp_cd h (fun h => ?_) fun h => ?_
  refine swp_skip ?_
  refine nx_n ?_
  refine swp_seq ?_
  refine swp_seqJ h (fun j5 => ⟨74, [(0, vs aA), (1, vs aB), (5, .own 5), (6, vi s3.1)], [(5, oa 2 1 (eI .i64) j5)]⟩) (fun v6 h => ?_) (fun j5 h => ?_)
  refine swp_blk (a := v6) ?_
  refine swp_reg ?_
  refine SRun.ck tbok 3 ⟨74, [(0, vs aA), (1, vs aB), (6, vi s3.1), (18, .own 5), (20, .own 20)], [(5, oa 2 1 (eI .i64) s3.2), (20, oa 2 1 (eI .i64) ([s3.1] : List Int))]⟩ ?_
  obtain ⟨x7, hx7, h⟩ := bind_some h
  refine SRun.estep (x_append (f := (eI .i64)) (t := 54) (ti := ti54) (tj := ti2) (zs := [.int .i64 0]) (e := 2) (m := 1) (d := 5) (xv := .own 20) hx7 tbok rfl rfl rfl rfl (x_src_o (e := 2))) ?_
  refine SRun.ck tbok 1 ⟨74, [(0, vs aA), (1, vs aB), (5, .own 21), (6, vi s3.1)], [(21, oa 2 1 (eI .i64) x7)]⟩ ?_
  refine SRun.nil ?_
  obtain rfl := inj h
  exact q_bn (q_j ((Le.sub' ([(0, vs aA), (1, vs aB), (5, .own 21), (6, vi s3.1)] : List (Nat × SV)) ([(21, oa 2 1 (eI .i64) x7)] : List (Nat × SO)) (by kernel_rfl) (by kernel_rfl)).trans ((Le.ren' (d := 21) (e := 5) (by kernel_rfl) (by kernel_rfl) (by kernel_rfl)).trans (Le.sub0))))
  refine swp_reg ?_
  refine SRun.ck tbok 3 ⟨74, [(0, vs aA), (1, vs aB), (5, .own 5), (6, vi (w64 (s3.1 + 1)))], [(5, oa 2 1 (eI .i64) j5)]⟩ ?_
  refine SRun.nil ?_
  obtain rfl := inj h
  exact q_l (Le.sub0)
  refine swp_exit ?_
  obtain rfl := inj h
  exact nx_e (q_re (q_bh (q_j (Le.sub0))))
  refine swp_seq ?_
  refine srk tbok ⟨74, [(0, vs aA), (1, vs aB), (5, .own 5), (7, vi 1)], [(5, oa 2 1 (eI .i64) j1)]⟩ ?_
  refine swp_seqJ h (fun j8 => ⟨74, [(1, vs aB), (5, .own 5)], [(5, oa 2 1 (eI .i64) j8)]⟩) (fun v9 h => ?_) (fun j8 h => ?_)
  refine swp_blk (a := v9) ?_
  refine swp_lpL (r := v9) (s := (1, j1)) _ (fun s10 => ⟨74, [(0, vs aA), (1, vs aB), (5, .own 5), (7, vi s10.1)], [(5, oa 2 1 (eI .i64) s10.2)]⟩) _ (Le.sub0) h (fun s10 v11 h => ?_)
  refine swp_seq ?_
  refine srk tbok ⟨74, [(0, vs aA), (1, vs aB), (5, .own 5), (7, vi s10.1), (25, vb (decide (s10.1 ≤ (aA.size : Int))))], [(5, oa 2 1 (eI .i64) s10.2)]⟩ ?_
  refine swp_cd h (fun h => ?_) fun h => ?_
  refine swp_skip ?_
  refine nx_n ?_
  refine swp_seq ?_
  refine swp_seqJ h (fun j12 => ⟨74, [(0, vs aA), (1, vs aB), (5, .own 5), (7, vi s10.1)], [(5, oa 2 1 (eI .i64) j12)]⟩) (fun v13 h => ?_) (fun j12 h => ?_)
  refine swp_blk (a := v13) ?_
  refine srk tbok ⟨74, [(0, vs aA), (1, vs aB), (5, .own 5), (7, vi s10.1), (8, .own 29)], [(5, oa 2 1 (eI .i64) s10.2), (29, oa 2 1 (eI .i64) ([s10.1] : List Int))]⟩ ?_
  refine swp_seq ?_
  refine srk tbok ⟨74, [(0, vs aA), (1, vs aB), (5, .own 5), (7, vi s10.1), (8, .own 29), (9, vi 1)], [(5, oa 2 1 (eI .i64) s10.2), (29, oa 2 1 (eI .i64) ([s10.1] : List Int))]⟩ ?_
  refine swp_seqJ h (fun j14 => ⟨74, [(0, vs aA), (1, vs aB), (7, vi s10.1), (8, .own 8)], [(8, oa 2 1 (eI .i64) j14)]⟩) (fun v15 h => ?_) (fun j14 h => ?_)
  refine swp_blk (a := v15) ?_
  refine swp_lpL (r := v15) (s := (1, ([s10.1] : List Int))) _ (fun s16 => ⟨74, [(0, vs aA), (1, vs aB), (5, .own 5), (7, vi s10.1), (8, .own 8), (9, vi s16.1)], [(5, oa 2 1 (eI .i64) s10.2), (8, oa 2 1 (eI .i64) s16.2)]⟩) _ ((Le.sub' ([(0, vs aA), (1, vs aB), (5, .own 5), (7, vi s10.1), (8, .own 29), (9, vi 1)] : List (Nat × SV)) ([(5, oa 2 1 (eI .i64) s10.2), (29, oa 2 1 (eI .i64) ([s10.1] : List Int))] : List (Nat × SO)) (by kernel_rfl) (by kernel_rfl)).trans ((Le.ren' (d := 29) (e := 8) (by kernel_rfl) (by kernel_rfl) (by kernel_rfl)).trans (Le.sub0))) h (fun s16 v17 h => ?_)
  refine swp_seq ?_
  refine srk tbok ⟨74, [(0, vs aA), (1, vs aB), (5, .own 5), (7, vi s10.1), (8, .own 8), (9, vi s16.1), (33, vb (decide (s16.1 ≤ (aB.size : Int))))], [(5, oa 2 1 (eI .i64) s10.2), (8, oa 2 1 (eI .i64) s16.2)]⟩ ?_
  refine swp_cd h (fun h => ?_) fun h => ?_
  refine swp_skip ?_
  refine nx_n ?_
  refine swp_seq ?_
  refine swp_seqJ h (fun j18 => ⟨74, [(0, vs aA), (1, vs aB), (5, .own 5), (7, vi s10.1), (8, .own 8), (9, vi s16.1)], [(5, oa 2 1 (eI .i64) s10.2), (8, oa 2 1 (eI .i64) j18)]⟩) (fun v19 h => ?_) (fun j18 h => ?_)
  refine swp_blk (a := v19) ?_
  refine sr ?_
  refine SRun.ck tbok 3 ⟨74, [(0, vs aA), (1, vs aB), (5, .own 5), (7, vi s10.1), (8, .own 8), (9, vi s16.1), (36, .own 5), (38, vi (w64 (s16.1 - 1)))], [(5, oa 2 1 (eI .i64) s10.2), (8, oa 2 1 (eI .i64) s16.2)]⟩ ?_
  obtain ⟨x20, hx20, h⟩ := bind_some h
  refine SRun.ls (x_index_own (d := 5) (L := s10.2) (f := (eI .i64)) (ti := ti54) (tj := ti2) (e := 2) (e' := 2) (m := 1) (k := .i64) tbok rfl hx20) ?_
  refine SRun.ls (x_load_own (d := 5) (m := 1) (j := 0) (L := s10.2) (f := (eI .i64)) (ti := ti2) (e := 2) (v := vi x20) tbok rfl hx20) ?_
  refine ckn tbok 1 ⟨74, [(0, vs aA), (1, vs aB), (5, .own 5), (7, vi s10.1), (8, .own 8), (9, vi s16.1), (10, vi x20)], [(5, oa 2 1 (eI .i64) s10.2), (8, oa 2 1 (eI .i64) s16.2)]⟩ ?_
  refine swp_seq ?_
  refine swp_seq ?_
  refine swp_dr mixed ?_
  refine DGo.ck tbok false 3 ⟨74, [(0, vs aA), (1, vs aB), (5, .own 5), (7, vi s10.1), (8, .own 8), (9, vi s16.1), (10, vi x20), (41, vs aA), (43, vi (w64 (s10.1 - 1)))], [(5, oa 2 1 (eI .i64) s10.2), (8, oa 2 1 (eI .i64) s16.2)]⟩ ?_
  obtain ⟨x21, hx21, h⟩ := bind_some h
  refine DGo.step (x_byte (ti := ti9) (k := .i64) hx21 tbok rfl) ?_
  refine DGo.ck tbok false 3 ⟨74, [(0, vs aA), (1, vs aB), (5, .own 5), (7, vi s10.1), (8, .own 8), (9, vi s16.1), (10, vi x20), (44, .tr (.int .u8 x21)), (45, vs aB), (47, vi (w64 (s16.1 - 1)))], [(5, oa 2 1 (eI .i64) s10.2), (8, oa 2 1 (eI .i64) s16.2)]⟩ ?_
  obtain ⟨x22, hx22, h⟩ := bind_some h
  refine DGo.step (x_byte (ti := ti9) (k := .i64) hx22 tbok rfl) ?_
  refine DGo.ck tbok false 1 ⟨74, [(0, vs aA), (1, vs aB), (5, .own 5), (7, vi s10.1), (8, .own 8), (9, vi s16.1), (10, vi x20), (49, vb (x21 != x22))], [(5, oa 2 1 (eI .i64) s10.2), (8, oa 2 1 (eI .i64) s16.2)]⟩ ?_
  refine DGo.nx ?_
  refine swp_seqJ h (fun j23 => ⟨74, [(0, vs aA), (1, vs aB), (5, .own 5), (7, vi s10.1), (8, .own 8), (9, vi s16.1), (10, vi j23)], [(5, oa 2 1 (eI .i64) s10.2), (8, oa 2 1 (eI .i64) s16.2)]⟩) (fun v24 h => ?_) (fun j23 h => ?_)
  refine swp_cd h (fun h => ?_) fun h => ?_
  refine swp_reg ?_
  refine SRun.ck tbok 3 ⟨74, [(0, vs aA), (1, vs aB), (5, .own 5), (7, vi s10.1), (8, .own 8), (9, vi s16.1), (10, vi (w64 (x20 + 1)))], [(5, oa 2 1 (eI .i64) s10.2), (8, oa 2 1 (eI .i64) s16.2)]⟩ ?_
  refine SRun.nil ?_
  obtain rfl := inj h
  exact q_j (Le.sub0)
  refine swp_skip ?_
  obtain rfl := inj h
  exact q_j (Le.sub0)
  refine swp_dr mixed ?_
  refine DGo.ck tbok false 4 ⟨74, [(0, vs aA), (1, vs aB), (5, .own 5), (7, vi s10.1), (8, .own 8), (9, vi s16.1), (52, .own 8), (53, vi j23), (54, .own 5), (55, vi s16.1)], [(5, oa 2 1 (eI .i64) s10.2), (8, oa 2 1 (eI .i64) s16.2)]⟩ ?_
  obtain ⟨x25, hx25, h⟩ := bind_some h
  refine DGo.step (x_index_own (d := 5) (L := s10.2) (f := (eI .i64)) (ti := ti54) (tj := ti2) (e := 2) (e' := 2) (m := 1) (k := .i64) tbok rfl hx25) ?_
  refine DGo.step (x_load_own (d := 5) (m := 1) (j := 0) (L := s10.2) (f := (eI .i64)) (ti := ti2) (e := 2) (v := vi x25) tbok rfl hx25) ?_
  refine DGo.ck tbok false 4 ⟨74, [(0, vs aA), (1, vs aB), (5, .own 5), (7, vi s10.1), (9, vi s16.1), (52, .own 8), (53, vi j23), (58, vi (w64 (x25 + 1))), (59, .own 8), (61, vi (w64 (s16.1 - 1)))], [(5, oa 2 1 (eI .i64) s10.2), (8, oa 2 1 (eI .i64) s16.2)]⟩ ?_
  obtain ⟨x26, hx26, h⟩ := bind_some h
  refine DGo.step (x_index_own (d := 8) (L := s16.2) (f := (eI .i64)) (ti := ti54) (tj := ti2) (e := 2) (e' := 2) (m := 1) (k := .i64) tbok rfl hx26) ?_
  refine DGo.step (x_load_own (d := 8) (m := 1) (j := 0) (L := s16.2) (f := (eI .i64)) (ti := ti2) (e := 2) (v := vi x26) tbok rfl hx26) ?_
  refine DGo.ck tbok false 3 ⟨74, [(0, vs aA), (1, vs aB), (5, .own 5), (7, vi s10.1), (9, vi s16.1), (52, .own 8), (66, .own 66)], [(5, oa 2 1 (eI .i64) s10.2), (8, oa 2 1 (eI .i64) s16.2), (66, oa 2 1 (eI .i64) ([(minI (minI j23 (w64 (x25 + 1))) (w64 (x26 + 1)))] : List Int))]⟩ ?_
  refine DGo.seq (by kernel_rfl) (by kernel_rfl) ?_
  obtain ⟨x28, hx28, h⟩ := bind_some h
  refine SRun.estep (x_append (f := (eI .i64)) (t := 54) (ti := ti54) (tj := ti2) (zs := [.int .i64 0]) (e := 2) (m := 1) (d := 8) (xv := .own 66) hx28 tbok rfl rfl rfl rfl (x_src_o (e := 2))) ?_
  refine SRun.ck tbok 1 ⟨74, [(0, vs aA), (1, vs aB), (5, .own 5), (7, vi s10.1), (8, .own 67), (9, vi s16.1)], [(5, oa 2 1 (eI .i64) s10.2), (67, oa 2 1 (eI .i64) x28)]⟩ ?_
  refine SRun.nil ?_
  obtain rfl := inj h
  exact q_bn (q_j ((Le.sub' ([(0, vs aA), (1, vs aB), (5, .own 5), (7, vi s10.1), (8, .own 67), (9, vi s16.1)] : List (Nat × SV)) ([(5, oa 2 1 (eI .i64) s10.2), (67, oa 2 1 (eI .i64) x28)] : List (Nat × SO)) (by kernel_rfl) (by kernel_rfl)).trans ((Le.ren' (d := 67) (e := 8) (by kernel_rfl) (by kernel_rfl) (by kernel_rfl)).trans (Le.sub0))))
  refine swp_reg ?_
  refine SRun.ck tbok 3 ⟨74, [(0, vs aA), (1, vs aB), (5, .own 5), (7, vi s10.1), (8, .own 8), (9, vi (w64 (s16.1 + 1)))], [(5, oa 2 1 (eI .i64) s10.2), (8, oa 2 1 (eI .i64) j18)]⟩ ?_
  refine SRun.nil ?_
  obtain rfl := inj h
  exact q_l (Le.sub0)
  refine swp_exit ?_
  obtain rfl := inj h
  exact nx_e (q_re (q_bh (q_j (Le.sub0))))
  refine swp_reg ?_
  refine SRun.ck tbok 2 ⟨74, [(0, vs aA), (1, vs aB), (5, .own 8), (7, vi s10.1)], [(8, oa 2 1 (eI .i64) j14)]⟩ ?_
  refine SRun.nil ?_
  obtain rfl := inj h
  exact q_bn (q_j ((Le.sub' ([(0, vs aA), (1, vs aB), (5, .own 8), (7, vi s10.1)] : List (Nat × SV)) ([(8, oa 2 1 (eI .i64) j14)] : List (Nat × SO)) (by kernel_rfl) (by kernel_rfl)).trans ((Le.ren' (d := 8) (e := 5) (by kernel_rfl) (by kernel_rfl) (by kernel_rfl)).trans (Le.sub0))))
  refine swp_reg ?_
  refine SRun.ck tbok 3 ⟨74, [(0, vs aA), (1, vs aB), (5, .own 5), (7, vi (w64 (s10.1 + 1)))], [(5, oa 2 1 (eI .i64) j12)]⟩ ?_
  refine SRun.nil ?_
  obtain rfl := inj h
  exact q_l (Le.sub0)
  refine swp_exit ?_
  obtain rfl := inj h
  exact nx_e (q_re (q_bh (q_j (Le.sub0))))
  refine sr ?_
  refine SRun.ck tbok 3 ⟨74, [(69, .own 5), (71, vi (aB.size : Int))], [(5, oa 2 1 (eI .i64) j8)]⟩ ?_
  obtain ⟨x29, hx29, h⟩ := bind_some h
  refine SRun.ls (x_index_own (d := 5) (L := j8) (f := (eI .i64)) (ti := ti54) (tj := ti2) (e := 2) (e' := 2) (m := 1) (k := .i64) tbok rfl hx29) ?_
  refine SRun.ls (x_load_own (d := 5) (m := 1) (j := 0) (L := j8) (f := (eI .i64)) (ti := ti2) (e := 2) (v := vi x29) tbok rfl hx29) ?_
  refine ckn tbok 1 ⟨74, [(4, vi x29)], []⟩ ?_
  refine swp_ret ?_
  obtain rfl := inj h
  exact q_fr (f1 fv)
theorem ents122 : Ents Tryz.prog 122 := ents_of Tryz.func122 (by kernel_rfl) rfl
noncomputable def spec_l30Distance (aA : ByteArray) (aB : ByteArray) : Option (Int) :=
  ((spec_l01Phrase aA).bind fun x1 => ((spec_l01Phrase aB).bind fun x2 => (((forS (maxI (x1.1.length : Int) (x2.1.length : Int)) (fun (i5 : Int) (s5 : Int) => (((bif (decide (i5 < (x1.1.length : Int))) then ((at' x1.1 i5).bind fun x11 => some x11) else some (ByteArray.mk #[]))).bind fun (j9 : ByteArray) => (((bif (decide (i5 < (x2.1.length : Int))) then ((at' x2.1 i5).bind fun x14 => some x14) else some (ByteArray.mk #[]))).bind fun (j12 : ByteArray) => ((spec_l01Distance j9 j12).bind fun x15 => some (w64 (s5 + x15)))))) (fun (s5 : Int) => s5) 0 0)).bind fun (j3 : Int) => some j3)))
theorem spec_l30Distance_run (aA : ByteArray) (aB : ByteArray) (r : Int) (h : spec_l30Distance aA aB = some r) : SCall Tryz.prog 77 [.v (vs aA), .v (vs aB)] ⟨[.v (vi r)], [], false⟩ := by
  refine scall_in Tryz.func77 rfl [(.tmp 4)] rfl (fun r => ⟨[.v (vi r)], [], false⟩) (r := r) ?_
  unfold spec_l30Distance at h
  refine srk tbok ⟨54, [(0, vs aA), (1, vs aB)], []⟩ ?_
  refine sr ?_
  refine SRun.ck tbok 1 ⟨54, [(1, vs aB), (14, vs aA)], []⟩ ?_
  obtain ⟨x1, hx1, h⟩ := bind_some h
  refine SRun.ls (xc ents121 (spec_l01Phrase_run aA _ hx1)) ?_
  refine ckn tbok 5 ⟨54, [(1, vs aB), (5, .own 15)], [(15, oa 9 1 eS x1.1)]⟩ ?_
  refine sr ?_
  refine SRun.ck tbok 1 ⟨54, [(5, .own 15), (19, vs aB)], [(15, oa 9 1 eS x1.1)]⟩ ?_
  obtain ⟨x2, hx2, h⟩ := bind_some h
  refine SRun.ls (xc ents121 (spec_l01Phrase_run aB _ hx2)) ?_
  refine ckn tbok 5 ⟨54, [(5, .own 15), (7, .own 20)], [(15, oa 9 1 eS x1.1), (20, oa 9 1 eS x2.1)]⟩ ?_
  refine srk tbok ⟨54, [(5, .own 15), (7, .own 20), (9, vi 0)], [(15, oa 9 1 eS x1.1), (20, oa 9 1 eS x2.1)]⟩ ?_
  refine swp_seq ?_
  refine srk tbok ⟨54, [(5, .own 15), (7, .own 20), (9, vi 0), (10, vi 0)], [(15, oa 9 1 eS x1.1), (20, oa 9 1 eS x2.1)]⟩ ?_
  refine swp_seqJ h (fun j3 => ⟨54, [(9, vi j3)], []⟩) (fun v4 h => ?_) (fun j3 h => ?_)
  refine swp_blk (a := v4) ?_
  refine swp_lpL (r := v4) (s := (0, 0)) _ (fun s5 => ⟨54, [(5, .own 5), (7, .own 7), (9, vi s5.2), (10, vi s5.1)], [(5, oa 9 1 eS x1.1), (7, oa 9 1 eS x2.1)]⟩) _ ((Le.sub' ([(5, .own 15), (7, .own 20), (9, vi 0), (10, vi 0)] : List (Nat × SV)) ([(15, oa 9 1 eS x1.1), (20, oa 9 1 eS x2.1)] : List (Nat × SO)) (by kernel_rfl) (by kernel_rfl)).trans ((Le.ren' (d := 15) (e := 5) (by kernel_rfl) (by kernel_rfl) (by kernel_rfl)).trans ((Le.ren' (d := 20) (e := 7) (by kernel_rfl) (by kernel_rfl) (by kernel_rfl)).trans (Le.sub0)))) h (fun s5 v6 h => ?_)
  refine swp_seq ?_
  refine srk tbok ⟨54, [(5, .own 5), (7, .own 7), (9, vi s5.2), (10, vi s5.1), (29, vb (decide (s5.1 < (maxI (x1.1.length : Int) (x2.1.length : Int)))))], [(5, oa 9 1 eS x1.1), (7, oa 9 1 eS x2.1)]⟩ ?_
  refine swp_cd h (fun h => ?_) fun h => ?_
  refine swp_skip ?_
  refine nx_n ?_
  refine swp_seq ?_
  refine swp_seqJ h (fun j7 => ⟨54, [(5, .own 5), (7, .own 7), (9, vi j7), (10, vi s5.1)], [(5, oa 9 1 eS x1.1), (7, oa 9 1 eS x2.1)]⟩) (fun v8 h => ?_) (fun j7 h => ?_)
  refine swp_blk (a := v8) ?_
  refine srk tbok ⟨54, [(5, .own 5), (7, .own 7), (9, vi s5.2), (10, vi s5.1), (11, vs (ByteArray.mk #[])), (12, vs (ByteArray.mk #[]))], [(5, oa 9 1 eS x1.1), (7, oa 9 1 eS x2.1)]⟩ ?_
  refine swp_seq ?_
  refine srk tbok ⟨54, [(5, .own 5), (7, .own 7), (9, vi s5.2), (10, vi s5.1), (11, vs (ByteArray.mk #[])), (12, vs (ByteArray.mk #[])), (35, vb (decide (s5.1 < (x1.1.length : Int))))], [(5, oa 9 1 eS x1.1), (7, oa 9 1 eS x2.1)]⟩ ?_
  refine swp_seqJ h (fun j9 => ⟨54, [(5, .own 5), (7, .own 7), (9, vi s5.2), (10, vi s5.1), (11, vs j9), (12, vs (ByteArray.mk #[]))], [(5, oa 9 1 eS x1.1), (7, oa 9 1 eS x2.1)]⟩) (fun v10 h => ?_) (fun j9 h => ?_)
  refine swp_cd h (fun h => ?_) fun h => ?_
  refine swp_reg ?_
  refine SRun.ck tbok 2 ⟨54, [(5, .own 5), (7, .own 7), (9, vi s5.2), (10, vi s5.1), (12, vs (ByteArray.mk #[])), (36, .own 5), (37, vi s5.1)], [(5, oa 9 1 eS x1.1), (7, oa 9 1 eS x2.1)]⟩ ?_
  obtain ⟨x11, hx11, h⟩ := bind_some h
  refine SRun.ls (x_index_own (d := 5) (L := x1.1) (f := eS) (ti := ti28) (tj := ti9) (e := 9) (e' := 9) (m := 1) (k := .i64) tbok rfl hx11) ?_
  refine SRun.ls (x_load_own (d := 5) (m := 1) (j := 0) (L := x1.1) (f := eS) (ti := ti9) (e := 9) (v := vs x11) tbok rfl hx11) ?_
  refine SRun.ck tbok 1 ⟨54, [(5, .own 5), (7, .own 7), (9, vi s5.2), (10, vi s5.1), (11, vs x11), (12, vs (ByteArray.mk #[]))], [(5, oa 9 1 eS x1.1), (7, oa 9 1 eS x2.1)]⟩ ?_
  refine SRun.nil ?_
  obtain rfl := inj h
  exact q_j (Le.sub0)
  refine swp_skip ?_
  obtain rfl := inj h
  exact q_j (Le.sub0)
  refine swp_seq ?_
  refine srk tbok ⟨54, [(5, .own 5), (7, .own 7), (9, vi s5.2), (10, vi s5.1), (11, vs j9), (12, vs (ByteArray.mk #[])), (43, vb (decide (s5.1 < (x2.1.length : Int))))], [(5, oa 9 1 eS x1.1), (7, oa 9 1 eS x2.1)]⟩ ?_
  refine swp_seqJ h (fun j12 => ⟨54, [(5, .own 5), (7, .own 7), (9, vi s5.2), (10, vi s5.1), (11, vs j9), (12, vs j12)], [(5, oa 9 1 eS x1.1), (7, oa 9 1 eS x2.1)]⟩) (fun v13 h => ?_) (fun j12 h => ?_)
  refine swp_cd h (fun h => ?_) fun h => ?_
  refine swp_reg ?_
  refine SRun.ck tbok 2 ⟨54, [(5, .own 5), (7, .own 7), (9, vi s5.2), (10, vi s5.1), (11, vs j9), (44, .own 7), (45, vi s5.1)], [(5, oa 9 1 eS x1.1), (7, oa 9 1 eS x2.1)]⟩ ?_
  obtain ⟨x14, hx14, h⟩ := bind_some h
  refine SRun.ls (x_index_own (d := 7) (L := x2.1) (f := eS) (ti := ti28) (tj := ti9) (e := 9) (e' := 9) (m := 1) (k := .i64) tbok rfl hx14) ?_
  refine SRun.ls (x_load_own (d := 7) (m := 1) (j := 0) (L := x2.1) (f := eS) (ti := ti9) (e := 9) (v := vs x14) tbok rfl hx14) ?_
  refine SRun.ck tbok 1 ⟨54, [(5, .own 5), (7, .own 7), (9, vi s5.2), (10, vi s5.1), (11, vs j9), (12, vs x14)], [(5, oa 9 1 eS x1.1), (7, oa 9 1 eS x2.1)]⟩ ?_
  refine SRun.nil ?_
  obtain rfl := inj h
  exact q_j (Le.sub0)
  refine swp_skip ?_
  obtain rfl := inj h
  exact q_j (Le.sub0)
  refine swp_reg ?_
  refine SRun.ck tbok 3 ⟨54, [(5, .own 5), (7, .own 7), (10, vi s5.1), (48, vi s5.2), (49, vs j9), (50, vs j12)], [(5, oa 9 1 eS x1.1), (7, oa 9 1 eS x2.1)]⟩ ?_
  obtain ⟨x15, hx15, h⟩ := bind_some h
  refine SRun.ls (xc ents122 (spec_l01Distance_run j9 j12 _ hx15)) ?_
  refine SRun.ck tbok 2 ⟨54, [(5, .own 5), (7, .own 7), (9, vi (w64 (s5.2 + x15))), (10, vi s5.1)], [(5, oa 9 1 eS x1.1), (7, oa 9 1 eS x2.1)]⟩ ?_
  refine SRun.nil ?_
  obtain rfl := inj h
  exact q_bn (q_j (Le.sub0))
  refine swp_reg ?_
  refine SRun.ck tbok 3 ⟨54, [(5, .own 5), (7, .own 7), (9, vi j7), (10, vi (w64 (s5.1 + 1)))], [(5, oa 9 1 eS x1.1), (7, oa 9 1 eS x2.1)]⟩ ?_
  refine SRun.nil ?_
  obtain rfl := inj h
  exact q_l (Le.sub0)
  refine swp_exit ?_
  obtain rfl := inj h
  exact nx_e (q_re (q_bh (q_j (Le.sub0))))
  refine srk tbok ⟨54, [(4, vi j3)], []⟩ ?_
  refine swp_ret ?_
  obtain rfl := inj h
  exact q_fr (f1 fv)
theorem ents77 : Ents Tryz.prog 77 := ents_of Tryz.func77 (by kernel_rfl) rfl
noncomputable def spec_l29Count (aList : (List Site)) (aDescriptions : (List Description)) (aP : Point) : Option (Int) :=
  (((forS (aDescriptions.length : Int) (fun (i3 : Int) (s3 : Int) => ((at' aDescriptions i3).bind fun x7 => ((spec_l29Satisfies aList x7 aP).bind fun x8 => (bif x8 then some (w64 (s3 + 1)) else some s3)))) (fun (s3 : Int) => s3) 0 0)).bind fun (j1 : Int) => some j1)
theorem spec_l29Count_run (aList : (List Site)) (aDescriptions : (List Description)) (aP : Point) (r : Int) (h : spec_l29Count aList aDescriptions aP = some r) : SCall Tryz.prog 114 [.v (vl eSite aList), .v (vl eDescription aDescriptions), .v (.agg (tc ePoint aP))] ⟨[.v (vi r)], [], false⟩ := by
  refine scall_in Tryz.func114 rfl [(.tmp 6)] rfl (fun r => ⟨[.v (vi r)], [], false⟩) (r := r) ?_
  unfold spec_l29Count at h
  refine srk tbok ⟨25, [(0, vl eSite aList), (1, vl eDescription aDescriptions), (5, .ref 5 0)], [(5, .box (tc ePoint aP))]⟩ ?_
  refine srk tbok ⟨25, [(0, vl eSite aList), (1, vl eDescription aDescriptions), (5, .ref 5 0), (7, vi 0)], [(5, .box (tc ePoint aP))]⟩ ?_
  refine swp_seq ?_
  refine srk tbok ⟨25, [(0, vl eSite aList), (1, vl eDescription aDescriptions), (5, .ref 5 0), (7, vi 0), (8, vi 0)], [(5, .box (tc ePoint aP))]⟩ ?_
  refine swp_seqJ h (fun j1 => ⟨25, [(7, vi j1)], []⟩) (fun v2 h => ?_) (fun j1 h => ?_)
  refine swp_blk (a := v2) ?_
  refine swp_lpL (r := v2) (s := (0, 0)) _ (fun s3 => ⟨25, [(0, vl eSite aList), (1, vl eDescription aDescriptions), (5, .ref 5 0), (7, vi s3.2), (8, vi s3.1)], [(5, .box (tc ePoint aP))]⟩) _ (Le.sub0) h (fun s3 v4 h => ?_)
  refine swp_seq ?_
  refine srk tbok ⟨25, [(0, vl eSite aList), (1, vl eDescription aDescriptions), (5, .ref 5 0), (7, vi s3.2), (8, vi s3.1), (12, vb (decide (s3.1 < (aDescriptions.length : Int))))], [(5, .box (tc ePoint aP))]⟩ ?_
  refine swp_cd h (fun h => ?_) fun h => ?_
  refine swp_skip ?_
  refine nx_n ?_
  refine swp_seq ?_
  refine swp_seqJ h (fun j5 => ⟨25, [(0, vl eSite aList), (1, vl eDescription aDescriptions), (5, .ref 5 0), (7, vi j5), (8, vi s3.1)], [(5, .box (tc ePoint aP))]⟩) (fun v6 h => ?_) (fun j5 h => ?_)
  refine swp_blk (a := v6) ?_
  refine swp_seq ?_
  refine swp_dr mixed ?_
  refine DGo.ck tbok false 3 ⟨25, [(0, vl eSite aList), (1, vl eDescription aDescriptions), (5, .ref 5 0), (7, vi s3.2), (8, vi s3.1), (15, vl eSite aList), (16, vl eDescription aDescriptions), (17, vi s3.1)], [(5, .box (tc ePoint aP))]⟩ ?_
  obtain ⟨x7, hx7, h⟩ := bind_some h
  refine DGo.step (x_index (L := aDescriptions) (f := eDescription) (ti := ti35) (tj := ti84) (e := 84) (k := .i64) tbok rfl hx7) ?_
  refine DGo.ck tbok false 2 ⟨25, [(0, vl eSite aList), (1, vl eDescription aDescriptions), (5, .ref 5 0), (7, vi s3.2), (8, vi s3.1), (15, vl eSite aList), (19, .agg (tc eDescription x7)), (20, .agg (tc ePoint aP))], [(5, .box (tc ePoint aP))]⟩ ?_
  obtain ⟨x8, hx8, h⟩ := bind_some h
  refine DGo.step (xc ents52 (spec_l29Satisfies_run aList x7 aP _ hx8)) ?_
  refine DGo.nx ?_
  refine swp_cd h (fun h => ?_) fun h => ?_
  refine swp_reg ?_
  refine SRun.ck tbok 3 ⟨25, [(0, vl eSite aList), (1, vl eDescription aDescriptions), (5, .ref 5 0), (7, vi (w64 (s3.2 + 1))), (8, vi s3.1)], [(5, .box (tc ePoint aP))]⟩ ?_
  refine SRun.nil ?_
  obtain rfl := inj h
  exact q_bn (q_j (Le.sub0))
  refine swp_skip ?_
  obtain rfl := inj h
  exact q_bn (q_j (Le.sub0))
  refine swp_reg ?_
  refine SRun.ck tbok 3 ⟨25, [(0, vl eSite aList), (1, vl eDescription aDescriptions), (5, .ref 5 0), (7, vi j5), (8, vi (w64 (s3.1 + 1)))], [(5, .box (tc ePoint aP))]⟩ ?_
  refine SRun.nil ?_
  obtain rfl := inj h
  exact q_l (Le.sub0)
  refine swp_exit ?_
  obtain rfl := inj h
  exact nx_e (q_re (q_bh (q_j (Le.sub0))))
  refine srk tbok ⟨25, [(6, vi j1)], []⟩ ?_
  refine swp_ret ?_
  obtain rfl := inj h
  exact q_fr (f1 fv)
theorem ents114 : Ents Tryz.prog 114 := ents_of Tryz.func114 (by kernel_rfl) rfl
noncomputable def spec_l30Answer (aC : Candidate) (aText : ByteArray) (aSites : (List Site)) (aDescriptions : (List Description)) : Option (Answer) :=
  ((spec_l30Distance aC.Text aText).bind fun x1 => ((spec_l29Count aSites aDescriptions aC.At).bind fun x2 => some (Answer.mk aC.Code x1 x2)))
theorem spec_l30Answer_run (aC : Candidate) (aText : ByteArray) (aSites : (List Site)) (aDescriptions : (List Description)) (r : Answer) (h : spec_l30Answer aC aText aSites aDescriptions = some r) : SCall Tryz.prog 67 [.v (.agg (tc eCandidate aC)), .v (vs aText), .v (vl eSite aSites), .v (vl eDescription aDescriptions)] ⟨[.v (.agg (tc eAnswer r))], [], false⟩ := by
  refine scall_in Tryz.func67 rfl [(.cell 8 59)] rfl (fun r => ⟨[.v (.agg (tc eAnswer r))], [], false⟩) (r := r) ?_
  unfold spec_l30Answer at h
  refine srk tbok ⟨21, [(1, vs aText), (2, vl eSite aSites), (3, vl eDescription aDescriptions), (4, .ref 4 0), (8, .ref 8 0)], [(4, .box (tc eCandidate aC)), (8, .box [vs (ByteArray.mk #[]), vi 0, vi 0])]⟩ ?_
  refine swp_seq ?_
  refine swp_dr mixed ?_
  refine DGo.ck tbok false 5 ⟨21, [(2, vl eSite aSites), (3, vl eDescription aDescriptions), (4, .ref 4 0), (8, .ref 8 0), (10, vs aC.Code), (12, vs aC.Text), (13, vs aText)], [(4, .box (tc eCandidate aC)), (8, .box [vs (ByteArray.mk #[]), vi 0, vi 0])]⟩ ?_
  obtain ⟨x1, hx1, h⟩ := bind_some h
  refine DGo.step (xc ents77 (spec_l30Distance_run aC.Text aText _ hx1)) ?_
  refine DGo.ck tbok false 4 ⟨21, [(8, .ref 8 0), (10, vs aC.Code), (14, vi x1), (15, vl eSite aSites), (16, vl eDescription aDescriptions), (18, .agg (tc ePoint aC.At))], [(8, .box [vs (ByteArray.mk #[]), vi 0, vi 0])]⟩ ?_
  obtain ⟨x2, hx2, h⟩ := bind_some h
  refine DGo.step (xc ents114 (spec_l29Count_run aSites aDescriptions aC.At _ hx2)) ?_
  refine DGo.step (x_lstep_build (v := .agg [vs aC.Code, vi x1, vi x2]) tbok rfl) ?_
  refine DGo.seq (by kernel_rfl) (by kernel_rfl) ?_
  refine ckn tbok 1 ⟨21, [(8, .ref 8 0)], [(8, .box [vs aC.Code, vi x1, vi x2])]⟩ ?_
  refine swp_ret ?_
  obtain rfl := inj h
  exact q_fr (f1 (fc tbok))
theorem ents67 : Ents Tryz.prog 67 := ents_of Tryz.func67 (by kernel_rfl) rfl
noncomputable def spec_l08Insert (aList : (List ByteArray)) (aS : ByteArray) : Option ((List ByteArray)) :=
  (((loop (fun (s3 : Int) => (((bif (decide (s3 < (aList.length : Int))) then ((at' aList s3).bind fun x5 => some (Op.bytesLess x5.toList aS.toList)) else some false)).bind fun (j6 : Bool) => (bif j6 then some (.inl (w64 (s3 + 1))) else some (.inr s3)))) 0)).bind fun (j1 : Int) => (((bif (decide (j1 < (aList.length : Int))) then ((at' aList j1).bind fun x8 => some (x8.toList == aS.toList)) else some false)).bind fun (j9 : Bool) => (bif j9 then some aList else ((part' aList 0 j1).bind fun x11 => ((app' ([] : List ByteArray) x11).bind fun x12 => ((app' x12 ([aS] : List ByteArray)).bind fun x13 => ((part' aList j1 (aList.length : Int)).bind fun x14 => ((app' x13 x14).bind fun x15 => some x15))))))))
theorem spec_l08Insert_run (aList : (List ByteArray)) (aS : ByteArray) (r : (List ByteArray)) (h : spec_l08Insert aList aS = some r) : SCall Tryz.prog 68 [.v (vl eS aList), .v (vs aS)] ⟨[.v (vl eS r)], [], true⟩ := by
  refine scall_in Tryz.func68 rfl [(.tmp 4)] rfl (fun r => ⟨[.v (vl eS r)], [], true⟩) (r := r) ?_
  unfold spec_l08Insert at h
  refine srk tbok ⟨45, [(0, vl eS aList), (1, vs aS)], []⟩ ?_
  refine srk tbok ⟨45, [(0, vl eS aList), (1, vs aS), (5, vi 0)], []⟩ ?_
  refine swp_seq ?_
  refine swp_seqJ h (fun j1 => ⟨45, [(0, vl eS aList), (1, vs aS), (5, vi j1)], []⟩) (fun v2 h => ?_) (fun j1 h => ?_)
  refine swp_blk (a := v2) ?_
  refine swp_lpL (r := v2) (s := 0) _ (fun s3 => ⟨45, [(0, vl eS aList), (1, vs aS), (5, vi s3)], []⟩) _ (Le.sub0) h (fun s3 v4 h => ?_)
  refine swp_seq ?_
  refine swp_seq ?_
  refine swp_regJ h (fun j6 => ⟨45, [(0, vl eS aList), (1, vs aS), (5, vi s3), (17, vb j6)], []⟩) (fun v7 h => ?_) (fun j6 h => ?_)
  refine SRun.ck tbok 5 ⟨45, [(0, vl eS aList), (1, vs aS), (5, vi s3), (10, vb (decide (s3 < (aList.length : Int))))], []⟩ ?_
  refine SRun.cu [(10, fun b => b)] h (fun h => ?_) fun h => ?_
  refine SRun.ck tbok 2 ⟨45, [(0, vl eS aList), (1, vs aS), (5, vi s3), (10, vb true), (11, vl eS aList), (12, vi s3)], []⟩ ?_
  obtain ⟨x5, hx5, h⟩ := bind_some h
  refine SRun.ls (x_index (L := aList) (f := eS) (ti := ti28) (tj := ti9) (e := 9) (k := .i64) tbok rfl hx5) ?_
  refine SRun.ck tbok 4 ⟨45, [(0, vl eS aList), (1, vs aS), (5, vi s3), (17, vb (Op.bytesLess x5.toList aS.toList))], []⟩ ?_
  refine SRun.nil ?_
  obtain rfl := inj h
  exact Le.sub0
  refine SRun.ck tbok 7 ⟨45, [(0, vl eS aList), (1, vs aS), (5, vi s3), (17, vb false)], []⟩ ?_
  refine SRun.nil ?_
  obtain rfl := inj h
  exact Le.sub0
  refine swp_cd h (fun h => ?_) fun h => ?_
  refine swp_skip ?_
  refine nx_n ?_
  refine swp_blk (a := v4) ?_
  refine swp_reg ?_
  refine SRun.ck tbok 3 ⟨45, [(0, vl eS aList), (1, vs aS), (5, vi (w64 (s3 + 1)))], []⟩ ?_
  refine SRun.nil ?_
  obtain rfl := inj h
  exact q_bn (q_l (Le.sub0))
  refine swp_exit ?_
  obtain rfl := inj h
  exact nx_e (q_re (q_bh (q_j (Le.sub0))))
  refine swp_seq ?_
  refine swp_seq ?_
  refine swp_regJ h (fun j9 => ⟨45, [(0, vl eS aList), (1, vs aS), (5, vi j1), (31, vb j9)], []⟩) (fun v10 h => ?_) (fun j9 h => ?_)
  refine SRun.ck tbok 5 ⟨45, [(0, vl eS aList), (1, vs aS), (5, vi j1), (24, vb (decide (j1 < (aList.length : Int))))], []⟩ ?_
  refine SRun.cu [(24, fun b => b)] h (fun h => ?_) fun h => ?_
  refine SRun.ck tbok 2 ⟨45, [(0, vl eS aList), (1, vs aS), (5, vi j1), (24, vb true), (25, vl eS aList), (26, vi j1)], []⟩ ?_
  obtain ⟨x8, hx8, h⟩ := bind_some h
  refine SRun.ls (x_index (L := aList) (f := eS) (ti := ti28) (tj := ti9) (e := 9) (k := .i64) tbok rfl hx8) ?_
  refine SRun.ck tbok 4 ⟨45, [(0, vl eS aList), (1, vs aS), (5, vi j1), (31, vb (x8.toList == aS.toList))], []⟩ ?_
  refine SRun.nil ?_
  obtain rfl := inj h
  exact Le.sub0
  refine SRun.ck tbok 7 ⟨45, [(0, vl eS aList), (1, vs aS), (5, vi j1), (31, vb false)], []⟩ ?_
  refine SRun.nil ?_
  obtain rfl := inj h
  exact Le.sub0
  refine swp_cd h (fun h => ?_) fun h => ?_
  refine srk tbok ⟨45, [(4, vl eS aList)], []⟩ ?_
  refine swp_ret ?_
  obtain rfl := inj h
  exact nx_r (q_fr (f1 ft))
  refine swp_skip ?_
  refine nx_n ?_
  refine swp_seq ?_
  obtain ⟨x11, hx11, h⟩ := bind_some h
  obtain ⟨x12, hx12, h⟩ := bind_some h
  obtain ⟨x13, hx13, h⟩ := bind_some h
  obtain ⟨x14, hx14, h⟩ := bind_some h
  obtain ⟨x15, hx15, h⟩ := bind_some h
  refine swp_dr mixed ?_
  refine DGo.enum (σE := ⟨45, [(4, .own 44)], [(44, oa 9 1 eS x15)]⟩) (n := 13) (L0 := #[false, false, false, false, false, false, false, false, false, false, false, false, false]) (by kernel_rfl) (by kernel_rfl) (fun K hk => ?_) ?_
  refine DE.share (fuel := 0) (L := #[true, true, true, true, true, true, true, true, true, true, true, true, true]) (σ := ⟨45, [(4, .own 44)], [(44, oa 9 1 eS x15)]⟩) ?_ (fun d28 => ?_)
  exact DE.done (by kernel_rfl) hk
  refine DE.share (fuel := 1) (L := #[true, true, true, true, true, true, true, true, true, true, true, true, false]) (σ := ⟨45, [(44, .own 44)], [(44, oa 9 1 eS x15)]⟩) ?_ (fun d27 => ?_)
  exact DE.take (i := 12) (L' := #[true, true, true, true, true, true, true, true, true, true, true, true, true]) rfl (.inr rfl) rfl (by kernel_rfl) (by kernel_rfl) (by kernel_rfl) (EStep.le (EStep.ofN2 tbok (σ' := ⟨45, [(4, .own 44), (44, .own 44)], [(44, oa 9 1 eS x15)]⟩) (by kernel_rfl)) Le.sub0) (by kernel_rfl) d28
  refine DE.share (fuel := 2) (L := #[true, true, true, true, true, true, true, true, true, true, true, false, false]) (σ := ⟨45, [(40, .own 40), (43, vl eS x14)], [(40, oa 9 1 eS x13)]⟩) ?_ (fun d26 => ?_)
  exact DE.all [11] (by kernel_rfl) (by simp) (List.forall_mem_cons.2 ⟨DEs.mk (i := 11) (L' := #[true, true, true, true, true, true, true, true, true, true, true, true, false]) rfl (EStep.le (x_append (f := eS) (t := 28) (ti := ti28) (tj := ti9) (zs := [.string (ByteArray.mk #[])]) (e := 9) (m := 1) (d := 40) (xv := vl eS x14) hx15 tbok rfl rfl rfl rfl (src_e (fun _ => rfl))) Le.sub0) (by kernel_rfl) d27, (fun _ h => absurd h List.not_mem_nil)⟩)
  refine DE.share (fuel := 3) (L := #[true, true, true, true, true, true, true, false, true, true, true, false, false]) (σ := ⟨45, [(37, .own 37), (39, .own 39), (43, vl eS x14)], [(37, oa 9 1 eS x12), (39, oa 9 1 eS ([aS] : List ByteArray))]⟩) ?_ (fun d25 => ?_)
  exact DE.all [7] (by kernel_rfl) (by simp) (List.forall_mem_cons.2 ⟨DEs.mk (i := 7) (L' := #[true, true, true, true, true, true, true, true, true, true, true, false, false]) rfl (EStep.le (x_append (f := eS) (t := 28) (ti := ti28) (tj := ti9) (zs := [.string (ByteArray.mk #[])]) (e := 9) (m := 1) (d := 37) (xv := .own 39) hx13 tbok rfl rfl rfl rfl (x_src_o (e := 9))) Le.sub0) (by kernel_rfl) d26, (fun _ h => absurd h List.not_mem_nil)⟩)
  refine DE.share (fuel := 3) (L := #[true, true, true, true, true, true, true, true, true, true, false, false, false]) (σ := ⟨45, [(40, .own 40), (41, vl eS aList), (42, vi j1)], [(40, oa 9 1 eS x13)]⟩) ?_ (fun d24 => ?_)
  exact DE.all [10] (by kernel_rfl) (by simp) (List.forall_mem_cons.2 ⟨DEs.mk (i := 10) (L' := #[true, true, true, true, true, true, true, true, true, true, true, false, false]) rfl (EStep.le (EStep.ofL (x_slice (m := 1) (f := eS) (ti := ti28) (tj := ti9) (e := 9) hx14 (fun _ => rfl) tbok rfl) (by kernel_rfl)) Le.sub0) (by kernel_rfl) d26, (fun _ h => absurd h List.not_mem_nil)⟩)
  refine DE.share (fuel := 4) (L := #[true, true, true, true, false, true, true, false, true, true, true, false, false]) (σ := ⟨45, [(33, .own 33), (36, vl eS x11), (39, .own 39), (43, vl eS x14)], [(33, oa 9 1 eS ([] : List ByteArray)), (39, oa 9 1 eS ([aS] : List ByteArray))]⟩) ?_ (fun d23 => ?_)
  exact DE.all [4] (by kernel_rfl) (by simp) (List.forall_mem_cons.2 ⟨DEs.mk (i := 4) (L' := #[true, true, true, true, true, true, true, false, true, true, true, false, false]) rfl (EStep.le (x_append (f := eS) (t := 28) (ti := ti28) (tj := ti9) (zs := [.string (ByteArray.mk #[])]) (e := 9) (m := 1) (d := 33) (xv := vl eS x11) hx12 tbok rfl rfl rfl rfl (src_e (fun _ => rfl))) Le.sub0) (by kernel_rfl) d25, (fun _ h => absurd h List.not_mem_nil)⟩)
  refine DE.share (fuel := 4) (L := #[true, true, true, true, true, true, false, false, true, true, true, false, false]) (σ := ⟨45, [(37, .own 37), (38, vs aS), (43, vl eS x14)], [(37, oa 9 1 eS x12)]⟩) ?_ (fun d22 => ?_)
  exact DE.all [6] (by kernel_rfl) (by simp) (List.forall_mem_cons.2 ⟨DEs.mk (i := 6) (L' := #[true, true, true, true, true, true, true, false, true, true, true, false, false]) rfl (EStep.le (EStep.ofN2 tbok (σ' := ⟨45, [(39, .own 39), (37, .own 37), (38, vs aS), (43, vl eS x14)], [(39, oa 9 1 eS ([aS] : List ByteArray)), (37, oa 9 1 eS x12)]⟩) (by kernel_rfl)) Le.sub0) (by kernel_rfl) d25, (fun _ h => absurd h List.not_mem_nil)⟩)
  refine DE.share (fuel := 4) (L := #[true, true, true, true, true, true, true, false, true, true, false, false, false]) (σ := ⟨45, [(37, .own 37), (39, .own 39), (41, vl eS aList), (42, vi j1)], [(37, oa 9 1 eS x12), (39, oa 9 1 eS ([aS] : List ByteArray))]⟩) ?_ (fun d21 => ?_)
  exact DE.all [7, 10] (by kernel_rfl) (by simp) (List.forall_mem_cons.2 ⟨DEs.mk (i := 7) (L' := #[true, true, true, true, true, true, true, true, true, true, false, false, false]) rfl (EStep.le (x_append (f := eS) (t := 28) (ti := ti28) (tj := ti9) (zs := [.string (ByteArray.mk #[])]) (e := 9) (m := 1) (d := 37) (xv := .own 39) hx13 tbok rfl rfl rfl rfl (x_src_o (e := 9))) Le.sub0) (by kernel_rfl) d24, (List.forall_mem_cons.2 ⟨DEs.mk (i := 10) (L' := #[true, true, true, true, true, true, true, false, true, true, true, false, false]) rfl (EStep.le (EStep.ofL (x_slice (m := 1) (f := eS) (ti := ti28) (tj := ti9) (e := 9) hx14 (fun _ => rfl) tbok rfl) (by kernel_rfl)) Le.sub0) (by kernel_rfl) d25, (fun _ h => absurd h List.not_mem_nil)⟩)⟩)
  refine DE.share (fuel := 5) (L := #[false, true, true, true, false, true, true, false, true, true, true, false, false]) (σ := ⟨45, [(36, vl eS x11), (39, .own 39), (43, vl eS x14)], [(39, oa 9 1 eS ([aS] : List ByteArray))]⟩) ?_ (fun d20 => ?_)
  exact DE.all [0] (by kernel_rfl) (by simp) (List.forall_mem_cons.2 ⟨DEs.mk (i := 0) (L' := #[true, true, true, true, false, true, true, false, true, true, true, false, false]) rfl (EStep.ofN2 tbok (σ' := ⟨45, [(33, .own 33), (36, vl eS x11), (39, .own 39), (43, vl eS x14)], [(33, oa 9 1 eS ([] : List ByteArray)), (39, oa 9 1 eS ([aS] : List ByteArray))]⟩) (by kernel_rfl)) (by kernel_rfl) d23, (fun _ h => absurd h List.not_mem_nil)⟩)
  refine DE.share (fuel := 5) (L := #[true, true, true, false, false, true, true, false, true, true, true, false, false]) (σ := ⟨45, [(33, .own 33), (34, vl eS aList), (35, vi j1), (39, .own 39), (43, vl eS x14)], [(33, oa 9 1 eS ([] : List ByteArray)), (39, oa 9 1 eS ([aS] : List ByteArray))]⟩) ?_ (fun d19 => ?_)
  exact DE.all [3] (by kernel_rfl) (by simp) (List.forall_mem_cons.2 ⟨DEs.mk (i := 3) (L' := #[true, true, true, true, false, true, true, false, true, true, true, false, false]) rfl (EStep.le (EStep.ofL (x_slice (m := 1) (f := eS) (ti := ti28) (tj := ti9) (e := 9) hx11 (fun _ => rfl) tbok rfl) (by kernel_rfl)) Le.sub0) (by kernel_rfl) d23, (fun _ h => absurd h List.not_mem_nil)⟩)
  refine DE.share (fuel := 5) (L := #[true, true, true, true, false, true, false, false, true, true, true, false, false]) (σ := ⟨45, [(33, .own 33), (36, vl eS x11), (38, vs aS), (43, vl eS x14)], [(33, oa 9 1 eS ([] : List ByteArray))]⟩) ?_ (fun d18 => ?_)
  exact DE.all [4, 6] (by kernel_rfl) (by simp) (List.forall_mem_cons.2 ⟨DEs.mk (i := 4) (L' := #[true, true, true, true, true, true, false, false, true, true, true, false, false]) rfl (EStep.le (x_append (f := eS) (t := 28) (ti := ti28) (tj := ti9) (zs := [.string (ByteArray.mk #[])]) (e := 9) (m := 1) (d := 33) (xv := vl eS x11) hx12 tbok rfl rfl rfl rfl (src_e (fun _ => rfl))) Le.sub0) (by kernel_rfl) d22, (List.forall_mem_cons.2 ⟨DEs.mk (i := 6) (L' := #[true, true, true, true, false, true, true, false, true, true, true, false, false]) rfl (EStep.le (EStep.ofN2 tbok (σ' := ⟨45, [(39, .own 39), (33, .own 33), (36, vl eS x11), (38, vs aS), (43, vl eS x14)], [(39, oa 9 1 eS ([aS] : List ByteArray)), (33, oa 9 1 eS ([] : List ByteArray))]⟩) (by kernel_rfl)) Le.sub0) (by kernel_rfl) d23, (fun _ h => absurd h List.not_mem_nil)⟩)⟩)
  refine DE.share (fuel := 5) (L := #[true, true, true, true, false, true, true, false, true, true, false, false, false]) (σ := ⟨45, [(33, .own 33), (36, vl eS x11), (39, .own 39), (41, vl eS aList), (42, vi j1)], [(33, oa 9 1 eS ([] : List ByteArray)), (39, oa 9 1 eS ([aS] : List ByteArray))]⟩) ?_ (fun d17 => ?_)
  exact DE.all [4, 10] (by kernel_rfl) (by simp) (List.forall_mem_cons.2 ⟨DEs.mk (i := 4) (L' := #[true, true, true, true, true, true, true, false, true, true, false, false, false]) rfl (EStep.le (x_append (f := eS) (t := 28) (ti := ti28) (tj := ti9) (zs := [.string (ByteArray.mk #[])]) (e := 9) (m := 1) (d := 33) (xv := vl eS x11) hx12 tbok rfl rfl rfl rfl (src_e (fun _ => rfl))) Le.sub0) (by kernel_rfl) d21, (List.forall_mem_cons.2 ⟨DEs.mk (i := 10) (L' := #[true, true, true, true, false, true, true, false, true, true, true, false, false]) rfl (EStep.le (EStep.ofL (x_slice (m := 1) (f := eS) (ti := ti28) (tj := ti9) (e := 9) hx14 (fun _ => rfl) tbok rfl) (by kernel_rfl)) Le.sub0) (by kernel_rfl) d23, (fun _ h => absurd h List.not_mem_nil)⟩)⟩)
  refine DE.share (fuel := 5) (L := #[true, true, true, true, true, true, false, false, true, true, false, false, false]) (σ := ⟨45, [(37, .own 37), (38, vs aS), (41, vl eS aList), (42, vi j1)], [(37, oa 9 1 eS x12)]⟩) ?_ (fun d16 => ?_)
  exact DE.all [6, 10] (by kernel_rfl) (by simp) (List.forall_mem_cons.2 ⟨DEs.mk (i := 6) (L' := #[true, true, true, true, true, true, true, false, true, true, false, false, false]) rfl (EStep.le (EStep.ofN2 tbok (σ' := ⟨45, [(39, .own 39), (37, .own 37), (38, vs aS), (41, vl eS aList), (42, vi j1)], [(39, oa 9 1 eS ([aS] : List ByteArray)), (37, oa 9 1 eS x12)]⟩) (by kernel_rfl)) Le.sub0) (by kernel_rfl) d21, (List.forall_mem_cons.2 ⟨DEs.mk (i := 10) (L' := #[true, true, true, true, true, true, false, false, true, true, true, false, false]) rfl (EStep.le (EStep.ofL (x_slice (m := 1) (f := eS) (ti := ti28) (tj := ti9) (e := 9) hx14 (fun _ => rfl) tbok rfl) (by kernel_rfl)) Le.sub0) (by kernel_rfl) d22, (fun _ h => absurd h List.not_mem_nil)⟩)⟩)
  refine DE.share (fuel := 6) (L := #[false, true, true, false, false, true, true, false, true, true, true, false, false]) (σ := ⟨45, [(34, vl eS aList), (35, vi j1), (39, .own 39), (43, vl eS x14)], [(39, oa 9 1 eS ([aS] : List ByteArray))]⟩) ?_ (fun d15 => ?_)
  exact DE.all [0, 3] (by kernel_rfl) (by simp) (List.forall_mem_cons.2 ⟨DEs.mk (i := 0) (L' := #[true, true, true, false, false, true, true, false, true, true, true, false, false]) rfl (EStep.ofN2 tbok (σ' := ⟨45, [(33, .own 33), (34, vl eS aList), (35, vi j1), (39, .own 39), (43, vl eS x14)], [(33, oa 9 1 eS ([] : List ByteArray)), (39, oa 9 1 eS ([aS] : List ByteArray))]⟩) (by kernel_rfl)) (by kernel_rfl) d19, (List.forall_mem_cons.2 ⟨DEs.mk (i := 3) (L' := #[false, true, true, true, false, true, true, false, true, true, true, false, false]) rfl (EStep.le (EStep.ofL (x_slice (m := 1) (f := eS) (ti := ti28) (tj := ti9) (e := 9) hx11 (fun _ => rfl) tbok rfl) (by kernel_rfl)) Le.sub0) (by kernel_rfl) d20, (fun _ h => absurd h List.not_mem_nil)⟩)⟩)
  refine DE.share (fuel := 6) (L := #[false, true, true, true, false, true, false, false, true, true, true, false, false]) (σ := ⟨45, [(36, vl eS x11), (38, vs aS), (43, vl eS x14)], []⟩) ?_ (fun d14 => ?_)
  exact DE.all [0, 6] (by kernel_rfl) (by simp) (List.forall_mem_cons.2 ⟨DEs.mk (i := 0) (L' := #[true, true, true, true, false, true, false, false, true, true, true, false, false]) rfl (EStep.ofN2 tbok (σ' := ⟨45, [(33, .own 33), (36, vl eS x11), (38, vs aS), (43, vl eS x14)], [(33, oa 9 1 eS ([] : List ByteArray))]⟩) (by kernel_rfl)) (by kernel_rfl) d18, (List.forall_mem_cons.2 ⟨DEs.mk (i := 6) (L' := #[false, true, true, true, false, true, true, false, true, true, true, false, false]) rfl (EStep.le (EStep.ofN2 tbok (σ' := ⟨45, [(39, .own 39), (36, vl eS x11), (38, vs aS), (43, vl eS x14)], [(39, oa 9 1 eS ([aS] : List ByteArray))]⟩) (by kernel_rfl)) Le.sub0) (by kernel_rfl) d20, (fun _ h => absurd h List.not_mem_nil)⟩)⟩)
  refine DE.share (fuel := 6) (L := #[false, true, true, true, false, true, true, false, true, true, false, false, false]) (σ := ⟨45, [(36, vl eS x11), (39, .own 39), (41, vl eS aList), (42, vi j1)], [(39, oa 9 1 eS ([aS] : List ByteArray))]⟩) ?_ (fun d13 => ?_)
  exact DE.all [0, 10] (by kernel_rfl) (by simp) (List.forall_mem_cons.2 ⟨DEs.mk (i := 0) (L' := #[true, true, true, true, false, true, true, false, true, true, false, false, false]) rfl (EStep.ofN2 tbok (σ' := ⟨45, [(33, .own 33), (36, vl eS x11), (39, .own 39), (41, vl eS aList), (42, vi j1)], [(33, oa 9 1 eS ([] : List ByteArray)), (39, oa 9 1 eS ([aS] : List ByteArray))]⟩) (by kernel_rfl)) (by kernel_rfl) d17, (List.forall_mem_cons.2 ⟨DEs.mk (i := 10) (L' := #[false, true, true, true, false, true, true, false, true, true, true, false, false]) rfl (EStep.le (EStep.ofL (x_slice (m := 1) (f := eS) (ti := ti28) (tj := ti9) (e := 9) hx14 (fun _ => rfl) tbok rfl) (by kernel_rfl)) Le.sub0) (by kernel_rfl) d20, (fun _ h => absurd h List.not_mem_nil)⟩)⟩)
  refine DE.share (fuel := 6) (L := #[true, true, true, false, false, true, false, false, true, true, true, false, false]) (σ := ⟨45, [(33, .own 33), (34, vl eS aList), (35, vi j1), (38, vs aS), (43, vl eS x14)], [(33, oa 9 1 eS ([] : List ByteArray))]⟩) ?_ (fun d12 => ?_)
  exact DE.all [3, 6] (by kernel_rfl) (by simp) (List.forall_mem_cons.2 ⟨DEs.mk (i := 3) (L' := #[true, true, true, true, false, true, false, false, true, true, true, false, false]) rfl (EStep.le (EStep.ofL (x_slice (m := 1) (f := eS) (ti := ti28) (tj := ti9) (e := 9) hx11 (fun _ => rfl) tbok rfl) (by kernel_rfl)) Le.sub0) (by kernel_rfl) d18, (List.forall_mem_cons.2 ⟨DEs.mk (i := 6) (L' := #[true, true, true, false, false, true, true, false, true, true, true, false, false]) rfl (EStep.le (EStep.ofN2 tbok (σ' := ⟨45, [(39, .own 39), (33, .own 33), (34, vl eS aList), (35, vi j1), (38, vs aS), (43, vl eS x14)], [(39, oa 9 1 eS ([aS] : List ByteArray)), (33, oa 9 1 eS ([] : List ByteArray))]⟩) (by kernel_rfl)) Le.sub0) (by kernel_rfl) d19, (fun _ h => absurd h List.not_mem_nil)⟩)⟩)
  refine DE.share (fuel := 6) (L := #[true, true, true, false, false, true, true, false, true, true, false, false, false]) (σ := ⟨45, [(33, .own 33), (34, vl eS aList), (35, vi j1), (39, .own 39), (41, vl eS aList), (42, vi j1)], [(33, oa 9 1 eS ([] : List ByteArray)), (39, oa 9 1 eS ([aS] : List ByteArray))]⟩) ?_ (fun d11 => ?_)
  exact DE.all [3, 10] (by kernel_rfl) (by simp) (List.forall_mem_cons.2 ⟨DEs.mk (i := 3) (L' := #[true, true, true, true, false, true, true, false, true, true, false, false, false]) rfl (EStep.le (EStep.ofL (x_slice (m := 1) (f := eS) (ti := ti28) (tj := ti9) (e := 9) hx11 (fun _ => rfl) tbok rfl) (by kernel_rfl)) Le.sub0) (by kernel_rfl) d17, (List.forall_mem_cons.2 ⟨DEs.mk (i := 10) (L' := #[true, true, true, false, false, true, true, false, true, true, true, false, false]) rfl (EStep.le (EStep.ofL (x_slice (m := 1) (f := eS) (ti := ti28) (tj := ti9) (e := 9) hx14 (fun _ => rfl) tbok rfl) (by kernel_rfl)) Le.sub0) (by kernel_rfl) d19, (fun _ h => absurd h List.not_mem_nil)⟩)⟩)
  refine DE.share (fuel := 6) (L := #[true, true, true, true, false, true, false, false, true, true, false, false, false]) (σ := ⟨45, [(33, .own 33), (36, vl eS x11), (38, vs aS), (41, vl eS aList), (42, vi j1)], [(33, oa 9 1 eS ([] : List ByteArray))]⟩) ?_ (fun d10 => ?_)
  exact DE.all [4, 6, 10] (by kernel_rfl) (by simp) (List.forall_mem_cons.2 ⟨DEs.mk (i := 4) (L' := #[true, true, true, true, true, true, false, false, true, true, false, false, false]) rfl (EStep.le (x_append (f := eS) (t := 28) (ti := ti28) (tj := ti9) (zs := [.string (ByteArray.mk #[])]) (e := 9) (m := 1) (d := 33) (xv := vl eS x11) hx12 tbok rfl rfl rfl rfl (src_e (fun _ => rfl))) Le.sub0) (by kernel_rfl) d16, (List.forall_mem_cons.2 ⟨DEs.mk (i := 6) (L' := #[true, true, true, true, false, true, true, false, true, true, false, false, false]) rfl (EStep.le (EStep.ofN2 tbok (σ' := ⟨45, [(39, .own 39), (33, .own 33), (36, vl eS x11), (38, vs aS), (41, vl eS aList), (42, vi j1)], [(39, oa 9 1 eS ([aS] : List ByteArray)), (33, oa 9 1 eS ([] : List ByteArray))]⟩) (by kernel_rfl)) Le.sub0) (by kernel_rfl) d17, (List.forall_mem_cons.2 ⟨DEs.mk (i := 10) (L' := #[true, true, true, true, false, true, false, false, true, true, true, false, false]) rfl (EStep.le (EStep.ofL (x_slice (m := 1) (f := eS) (ti := ti28) (tj := ti9) (e := 9) hx14 (fun _ => rfl) tbok rfl) (by kernel_rfl)) Le.sub0) (by kernel_rfl) d18, (fun _ h => absurd h List.not_mem_nil)⟩)⟩)⟩)
  refine DE.share (fuel := 7) (L := #[false, true, true, false, false, true, false, false, true, true, true, false, false]) (σ := ⟨45, [(34, vl eS aList), (35, vi j1), (38, vs aS), (43, vl eS x14)], []⟩) ?_ (fun d9 => ?_)
  exact DE.all [0, 3, 6] (by kernel_rfl) (by simp) (List.forall_mem_cons.2 ⟨DEs.mk (i := 0) (L' := #[true, true, true, false, false, true, false, false, true, true, true, false, false]) rfl (EStep.ofN2 tbok (σ' := ⟨45, [(33, .own 33), (34, vl eS aList), (35, vi j1), (38, vs aS), (43, vl eS x14)], [(33, oa 9 1 eS ([] : List ByteArray))]⟩) (by kernel_rfl)) (by kernel_rfl) d12, (List.forall_mem_cons.2 ⟨DEs.mk (i := 3) (L' := #[false, true, true, true, false, true, false, false, true, true, true, false, false]) rfl (EStep.le (EStep.ofL (x_slice (m := 1) (f := eS) (ti := ti28) (tj := ti9) (e := 9) hx11 (fun _ => rfl) tbok rfl) (by kernel_rfl)) Le.sub0) (by kernel_rfl) d14, (List.forall_mem_cons.2 ⟨DEs.mk (i := 6) (L' := #[false, true, true, false, false, true, true, false, true, true, true, false, false]) rfl (EStep.le (EStep.ofN2 tbok (σ' := ⟨45, [(39, .own 39), (34, vl eS aList), (35, vi j1), (38, vs aS), (43, vl eS x14)], [(39, oa 9 1 eS ([aS] : List ByteArray))]⟩) (by kernel_rfl)) Le.sub0) (by kernel_rfl) d15, (fun _ h => absurd h List.not_mem_nil)⟩)⟩)⟩)
  refine DE.share (fuel := 7) (L := #[false, true, true, false, false, true, true, false, true, true, false, false, false]) (σ := ⟨45, [(34, vl eS aList), (35, vi j1), (39, .own 39), (41, vl eS aList), (42, vi j1)], [(39, oa 9 1 eS ([aS] : List ByteArray))]⟩) ?_ (fun d8 => ?_)
  exact DE.all [0, 3, 10] (by kernel_rfl) (by simp) (List.forall_mem_cons.2 ⟨DEs.mk (i := 0) (L' := #[true, true, true, false, false, true, true, false, true, true, false, false, false]) rfl (EStep.ofN2 tbok (σ' := ⟨45, [(33, .own 33), (34, vl eS aList), (35, vi j1), (39, .own 39), (41, vl eS aList), (42, vi j1)], [(33, oa 9 1 eS ([] : List ByteArray)), (39, oa 9 1 eS ([aS] : List ByteArray))]⟩) (by kernel_rfl)) (by kernel_rfl) d11, (List.forall_mem_cons.2 ⟨DEs.mk (i := 3) (L' := #[false, true, true, true, false, true, true, false, true, true, false, false, false]) rfl (EStep.le (EStep.ofL (x_slice (m := 1) (f := eS) (ti := ti28) (tj := ti9) (e := 9) hx11 (fun _ => rfl) tbok rfl) (by kernel_rfl)) Le.sub0) (by kernel_rfl) d13, (List.forall_mem_cons.2 ⟨DEs.mk (i := 10) (L' := #[false, true, true, false, false, true, true, false, true, true, true, false, false]) rfl (EStep.le (EStep.ofL (x_slice (m := 1) (f := eS) (ti := ti28) (tj := ti9) (e := 9) hx14 (fun _ => rfl) tbok rfl) (by kernel_rfl)) Le.sub0) (by kernel_rfl) d15, (fun _ h => absurd h List.not_mem_nil)⟩)⟩)⟩)
  refine DE.share (fuel := 7) (L := #[false, true, true, true, false, true, false, false, true, true, false, false, false]) (σ := ⟨45, [(36, vl eS x11), (38, vs aS), (41, vl eS aList), (42, vi j1)], []⟩) ?_ (fun d7 => ?_)
  exact DE.all [0, 6, 10] (by kernel_rfl) (by simp) (List.forall_mem_cons.2 ⟨DEs.mk (i := 0) (L' := #[true, true, true, true, false, true, false, false, true, true, false, false, false]) rfl (EStep.ofN2 tbok (σ' := ⟨45, [(33, .own 33), (36, vl eS x11), (38, vs aS), (41, vl eS aList), (42, vi j1)], [(33, oa 9 1 eS ([] : List ByteArray))]⟩) (by kernel_rfl)) (by kernel_rfl) d10, (List.forall_mem_cons.2 ⟨DEs.mk (i := 6) (L' := #[false, true, true, true, false, true, true, false, true, true, false, false, false]) rfl (EStep.le (EStep.ofN2 tbok (σ' := ⟨45, [(39, .own 39), (36, vl eS x11), (38, vs aS), (41, vl eS aList), (42, vi j1)], [(39, oa 9 1 eS ([aS] : List ByteArray))]⟩) (by kernel_rfl)) Le.sub0) (by kernel_rfl) d13, (List.forall_mem_cons.2 ⟨DEs.mk (i := 10) (L' := #[false, true, true, true, false, true, false, false, true, true, true, false, false]) rfl (EStep.le (EStep.ofL (x_slice (m := 1) (f := eS) (ti := ti28) (tj := ti9) (e := 9) hx14 (fun _ => rfl) tbok rfl) (by kernel_rfl)) Le.sub0) (by kernel_rfl) d14, (fun _ h => absurd h List.not_mem_nil)⟩)⟩)⟩)
  refine DE.share (fuel := 7) (L := #[true, true, true, false, false, true, false, false, true, true, false, false, false]) (σ := ⟨45, [(33, .own 33), (34, vl eS aList), (35, vi j1), (38, vs aS), (41, vl eS aList), (42, vi j1)], [(33, oa 9 1 eS ([] : List ByteArray))]⟩) ?_ (fun d6 => ?_)
  exact DE.all [3, 6, 10] (by kernel_rfl) (by simp) (List.forall_mem_cons.2 ⟨DEs.mk (i := 3) (L' := #[true, true, true, true, false, true, false, false, true, true, false, false, false]) rfl (EStep.le (EStep.ofL (x_slice (m := 1) (f := eS) (ti := ti28) (tj := ti9) (e := 9) hx11 (fun _ => rfl) tbok rfl) (by kernel_rfl)) Le.sub0) (by kernel_rfl) d10, (List.forall_mem_cons.2 ⟨DEs.mk (i := 6) (L' := #[true, true, true, false, false, true, true, false, true, true, false, false, false]) rfl (EStep.le (EStep.ofN2 tbok (σ' := ⟨45, [(39, .own 39), (33, .own 33), (34, vl eS aList), (35, vi j1), (38, vs aS), (41, vl eS aList), (42, vi j1)], [(39, oa 9 1 eS ([aS] : List ByteArray)), (33, oa 9 1 eS ([] : List ByteArray))]⟩) (by kernel_rfl)) Le.sub0) (by kernel_rfl) d11, (List.forall_mem_cons.2 ⟨DEs.mk (i := 10) (L' := #[true, true, true, false, false, true, false, false, true, true, true, false, false]) rfl (EStep.le (EStep.ofL (x_slice (m := 1) (f := eS) (ti := ti28) (tj := ti9) (e := 9) hx14 (fun _ => rfl) tbok rfl) (by kernel_rfl)) Le.sub0) (by kernel_rfl) d12, (fun _ h => absurd h List.not_mem_nil)⟩)⟩)⟩)
  refine DE.share (fuel := 8) (L := #[false, true, true, false, false, true, false, false, true, true, false, false, false]) (σ := ⟨45, [(34, vl eS aList), (35, vi j1), (38, vs aS), (41, vl eS aList), (42, vi j1)], []⟩) ?_ (fun d5 => ?_)
  exact DE.all [0, 3, 6, 10] (by kernel_rfl) (by simp) (List.forall_mem_cons.2 ⟨DEs.mk (i := 0) (L' := #[true, true, true, false, false, true, false, false, true, true, false, false, false]) rfl (EStep.ofN2 tbok (σ' := ⟨45, [(33, .own 33), (34, vl eS aList), (35, vi j1), (38, vs aS), (41, vl eS aList), (42, vi j1)], [(33, oa 9 1 eS ([] : List ByteArray))]⟩) (by kernel_rfl)) (by kernel_rfl) d6, (List.forall_mem_cons.2 ⟨DEs.mk (i := 3) (L' := #[false, true, true, true, false, true, false, false, true, true, false, false, false]) rfl (EStep.le (EStep.ofL (x_slice (m := 1) (f := eS) (ti := ti28) (tj := ti9) (e := 9) hx11 (fun _ => rfl) tbok rfl) (by kernel_rfl)) Le.sub0) (by kernel_rfl) d7, (List.forall_mem_cons.2 ⟨DEs.mk (i := 6) (L' := #[false, true, true, false, false, true, true, false, true, true, false, false, false]) rfl (EStep.le (EStep.ofN2 tbok (σ' := ⟨45, [(39, .own 39), (34, vl eS aList), (35, vi j1), (38, vs aS), (41, vl eS aList), (42, vi j1)], [(39, oa 9 1 eS ([aS] : List ByteArray))]⟩) (by kernel_rfl)) Le.sub0) (by kernel_rfl) d8, (List.forall_mem_cons.2 ⟨DEs.mk (i := 10) (L' := #[false, true, true, false, false, true, false, false, true, true, true, false, false]) rfl (EStep.le (EStep.ofL (x_slice (m := 1) (f := eS) (ti := ti28) (tj := ti9) (e := 9) hx14 (fun _ => rfl) tbok rfl) (by kernel_rfl)) Le.sub0) (by kernel_rfl) d9, (fun _ h => absurd h List.not_mem_nil)⟩)⟩)⟩)⟩)
  refine DE.share (fuel := 9) (L := #[false, true, true, false, false, true, false, false, true, false, false, false, false]) (σ := ⟨45, [(5, vi j1), (34, vl eS aList), (35, vi j1), (38, vs aS), (41, vl eS aList)], []⟩) ?_ (fun d4 => ?_)
  exact DE.take (i := 9) (L' := #[false, true, true, false, false, true, false, false, true, true, false, false, false]) rfl (.inl rfl) rfl (by kernel_rfl) (by kernel_rfl) (by kernel_rfl) (EStep.le (EStep.ofN2 tbok (σ' := ⟨45, [(42, vi j1), (5, vi j1), (34, vl eS aList), (35, vi j1), (38, vs aS), (41, vl eS aList)], []⟩) (by kernel_rfl)) Le.sub0) (by kernel_rfl) d5
  refine DE.share (fuel := 10) (L := #[false, true, true, false, false, true, false, false, false, false, false, false, false]) (σ := ⟨45, [(0, vl eS aList), (5, vi j1), (34, vl eS aList), (35, vi j1), (38, vs aS)], []⟩) ?_ (fun d3 => ?_)
  exact DE.take (i := 8) (L' := #[false, true, true, false, false, true, false, false, true, false, false, false, false]) rfl (.inl rfl) rfl (by kernel_rfl) (by kernel_rfl) (by kernel_rfl) (EStep.le (EStep.ofN2 tbok (σ' := ⟨45, [(41, vl eS aList), (0, vl eS aList), (5, vi j1), (34, vl eS aList), (35, vi j1), (38, vs aS)], []⟩) (by kernel_rfl)) Le.sub0) (by kernel_rfl) d4
  refine DE.share (fuel := 11) (L := #[false, true, true, false, false, false, false, false, false, false, false, false, false]) (σ := ⟨45, [(0, vl eS aList), (1, vs aS), (5, vi j1), (34, vl eS aList), (35, vi j1)], []⟩) ?_ (fun d2 => ?_)
  exact DE.take (i := 5) (L' := #[false, true, true, false, false, true, false, false, false, false, false, false, false]) rfl (.inl rfl) rfl (by kernel_rfl) (by kernel_rfl) (by kernel_rfl) (EStep.le (EStep.ofN2 tbok (σ' := ⟨45, [(38, vs aS), (0, vl eS aList), (1, vs aS), (5, vi j1), (34, vl eS aList), (35, vi j1)], []⟩) (by kernel_rfl)) Le.sub0) (by kernel_rfl) d3
  refine DE.share (fuel := 12) (L := #[false, true, false, false, false, false, false, false, false, false, false, false, false]) (σ := ⟨45, [(0, vl eS aList), (1, vs aS), (5, vi j1), (34, vl eS aList)], []⟩) ?_ (fun d1 => ?_)
  exact DE.take (i := 2) (L' := #[false, true, true, false, false, false, false, false, false, false, false, false, false]) rfl (.inl rfl) rfl (by kernel_rfl) (by kernel_rfl) (by kernel_rfl) (EStep.le (EStep.ofN2 tbok (σ' := ⟨45, [(35, vi j1), (0, vl eS aList), (1, vs aS), (5, vi j1), (34, vl eS aList)], []⟩) (by kernel_rfl)) Le.sub0) (by kernel_rfl) d2
  exact DE.take (i := 1) (L' := #[false, true, false, false, false, false, false, false, false, false, false, false, false]) rfl (.inl rfl) rfl (by kernel_rfl) (by kernel_rfl) (by kernel_rfl) (EStep.le (EStep.ofN2 tbok (σ' := ⟨45, [(34, vl eS aList), (0, vl eS aList), (1, vs aS), (5, vi j1), (31, vb j9)], []⟩) (by kernel_rfl)) Le.sub0) (by kernel_rfl) d1
  refine nx_n ?_
  refine swp_le (Le.frz' (d := 44) (e := 9) (m := 1) (n := x15.length) (es := x15.map eS) (by kernel_rfl) (by kernel_rfl)) ?_
  refine swp_ret ?_
  obtain rfl := inj h
  exact q_fr (f1 ft)
theorem ents68 : Ents Tryz.prog 68 := ents_of Tryz.func68 (by kernel_rfl) rfl
noncomputable def spec_ExactAnswers (aList : (List Candidate)) (aText : ByteArray) (aSites : (List Site)) (aDescriptions : (List Description)) : Option ((List ByteArray) × Int) :=
  ((spec_l30Code aList aText aSites aDescriptions).bind fun x1 => (bif (x1 != 0) then some (([] : List ByteArray), x1) else (((forS (aList.length : Int) (fun (i4 : Int) (s4 : (List ByteArray)) => ((at' aList i4).bind fun x8 => ((spec_l30Answer x8 aText aSites aDescriptions).bind fun x9 => (bif ((x9.Distance == 0) && (x9.Satisfied == (aDescriptions.length : Int))) then ((spec_l08Insert s4 x9.Code).bind fun x10 => some x10) else some s4)))) (fun (s4 : (List ByteArray)) => s4) 0 ([] : List ByteArray))).bind fun (j2 : (List ByteArray)) => some (j2, 0))))
theorem spec_ExactAnswers_run (aList : (List Candidate)) (aText : ByteArray) (aSites : (List Site)) (aDescriptions : (List Description)) (r : (List ByteArray) × Int) (h : spec_ExactAnswers aList aText aSites aDescriptions = some r) : SCall Tryz.prog 24 [.v (vl eCandidate aList), .v (vs aText), .v (vl eSite aSites), .v (vl eDescription aDescriptions)] ⟨[.v (vl eS r.1), .v (vi r.2)], [], true⟩ := by
  refine scall_in Tryz.func24 rfl [(.tmp 8), (.tmp 9)] rfl (fun r => ⟨[.v (vl eS r.1), .v (vi r.2)], [], true⟩) (r := r) ?_
  unfold spec_ExactAnswers at h
  refine srk tbok ⟨52, [(0, vl eCandidate aList), (1, vs aText), (2, vl eSite aSites), (3, vl eDescription aDescriptions)], []⟩ ?_
  refine sr ?_
  refine SRun.ck tbok 4 ⟨52, [(0, vl eCandidate aList), (1, vs aText), (2, vl eSite aSites), (3, vl eDescription aDescriptions), (14, vl eCandidate aList), (15, vs aText), (16, vl eSite aSites), (17, vl eDescription aDescriptions)], []⟩ ?_
  obtain ⟨x1, hx1, h⟩ := bind_some h
  refine SRun.ls (xc ents66 (spec_l30Code_run aList aText aSites aDescriptions _ hx1)) ?_
  refine ckn tbok 1 ⟨52, [(0, vl eCandidate aList), (1, vs aText), (2, vl eSite aSites), (3, vl eDescription aDescriptions), (10, vi x1)], []⟩ ?_
  refine swp_seq ?_
  refine srk tbok ⟨52, [(0, vl eCandidate aList), (1, vs aText), (2, vl eSite aSites), (3, vl eDescription aDescriptions), (10, vi x1), (20, vb (x1 != 0))], []⟩ ?_
  refine swp_cd h (fun h => ?_) fun h => ?_
  refine srk tbok ⟨52, [(8, .own 8), (9, vi x1)], [(8, oa 9 1 eS ([] : List ByteArray))]⟩ ?_
  refine swp_le (Le.frz' (d := 8) (e := 9) (m := 1) (n := ([] : List ByteArray).length) (es := ([] : List ByteArray).map eS) (by kernel_rfl) (by kernel_rfl)) ?_
  refine swp_ret ?_
  obtain rfl := inj h
  exact nx_r (q_fr (f2 ft ft))
  refine swp_skip ?_
  refine nx_n ?_
  refine srk tbok ⟨52, [(0, vl eCandidate aList), (1, vs aText), (2, vl eSite aSites), (3, vl eDescription aDescriptions), (11, .own 22)], [(22, oa 9 1 eS ([] : List ByteArray))]⟩ ?_
  refine swp_seq ?_
  refine srk tbok ⟨52, [(0, vl eCandidate aList), (1, vs aText), (2, vl eSite aSites), (3, vl eDescription aDescriptions), (11, .own 22), (12, vi 0)], [(22, oa 9 1 eS ([] : List ByteArray))]⟩ ?_
  refine swp_seqJ h (fun j2 => ⟨52, [(11, vl eS j2)], []⟩) (fun v3 h => ?_) (fun j2 h => ?_)
  refine swp_blk (a := v3) ?_
  refine swp_le (Le.frz' (d := 22) (e := 9) (m := 1) (n := ([] : List ByteArray).length) (es := ([] : List ByteArray).map eS) (by kernel_rfl) (by kernel_rfl)) ?_
  refine swp_lpL (r := v3) (s := (0, ([] : List ByteArray))) _ (fun s4 => ⟨52, [(0, vl eCandidate aList), (1, vs aText), (2, vl eSite aSites), (3, vl eDescription aDescriptions), (11, vl eS s4.2), (12, vi s4.1)], []⟩) _ (Le.sub0) h (fun s4 v5 h => ?_)
  refine swp_seq ?_
  refine srk tbok ⟨52, [(0, vl eCandidate aList), (1, vs aText), (2, vl eSite aSites), (3, vl eDescription aDescriptions), (11, vl eS s4.2), (12, vi s4.1), (26, vb (decide (s4.1 < (aList.length : Int))))], []⟩ ?_
  refine swp_cd h (fun h => ?_) fun h => ?_
  refine swp_skip ?_
  refine nx_n ?_
  refine swp_seq ?_
  refine swp_seqJ h (fun j6 => ⟨52, [(0, vl eCandidate aList), (1, vs aText), (2, vl eSite aSites), (3, vl eDescription aDescriptions), (11, vl eS j6), (12, vi s4.1)], []⟩) (fun v7 h => ?_) (fun j6 h => ?_)
  refine swp_blk (a := v7) ?_
  refine sr ?_
  refine SRun.ck tbok 2 ⟨52, [(0, vl eCandidate aList), (1, vs aText), (2, vl eSite aSites), (3, vl eDescription aDescriptions), (11, vl eS s4.2), (12, vi s4.1), (29, vl eCandidate aList), (30, vi s4.1)], []⟩ ?_
  obtain ⟨x8, hx8, h⟩ := bind_some h
  refine SRun.ls (x_index (L := aList) (f := eCandidate) (ti := ti31) (tj := ti87) (e := 87) (k := .i64) tbok rfl hx8) ?_
  refine SRun.ck tbok 4 ⟨52, [(0, vl eCandidate aList), (1, vs aText), (2, vl eSite aSites), (3, vl eDescription aDescriptions), (11, vl eS s4.2), (12, vi s4.1), (32, .agg (tc eCandidate x8)), (33, vs aText), (34, vl eSite aSites), (35, vl eDescription aDescriptions)], []⟩ ?_
  obtain ⟨x9, hx9, h⟩ := bind_some h
  refine SRun.ls (xc ents67 (spec_l30Answer_run x8 aText aSites aDescriptions _ hx9)) ?_
  refine ckn tbok 2 ⟨52, [(0, vl eCandidate aList), (1, vs aText), (2, vl eSite aSites), (3, vl eDescription aDescriptions), (11, vl eS s4.2), (12, vi s4.1), (13, .ref 13 0)], [(13, .box (tc eAnswer x9))]⟩ ?_
  refine swp_seq ?_
  refine swp_regP ⟨52, [(0, vl eCandidate aList), (1, vs aText), (2, vl eSite aSites), (3, vl eDescription aDescriptions), (11, vl eS s4.2), (12, vi s4.1), (13, .ref 13 0), (46, vb ((x9.Distance == 0) && (x9.Satisfied == (aDescriptions.length : Int))))], [(13, .box (tc eAnswer x9))]⟩ ?_ ?_
  refine SRun.ck tbok 4 ⟨52, [(0, vl eCandidate aList), (1, vs aText), (2, vl eSite aSites), (3, vl eDescription aDescriptions), (11, vl eS s4.2), (12, vi s4.1), (13, .ref 13 0), (40, vb (x9.Distance == 0))], [(13, .box (tc eAnswer x9))]⟩ ?_
  generalize (x9.Distance == 0) = bb
  cases bb
  refine SRun.ck tbok 6 ⟨52, [(0, vl eCandidate aList), (1, vs aText), (2, vl eSite aSites), (3, vl eDescription aDescriptions), (11, vl eS s4.2), (12, vi s4.1), (13, .ref 13 0), (46, vb false)], [(13, .box (tc eAnswer x9))]⟩ ?_
  exact SRun.nil (Le.sub0)
  refine SRun.ck tbok 6 ⟨52, [(0, vl eCandidate aList), (1, vs aText), (2, vl eSite aSites), (3, vl eDescription aDescriptions), (11, vl eS s4.2), (12, vi s4.1), (13, .ref 13 0), (46, vb (x9.Satisfied == (aDescriptions.length : Int)))], [(13, .box (tc eAnswer x9))]⟩ ?_
  exact SRun.nil (Le.sub0)
  refine swp_cd h (fun h => ?_) fun h => ?_
  refine swp_reg ?_
  refine SRun.ck tbok 3 ⟨52, [(0, vl eCandidate aList), (1, vs aText), (2, vl eSite aSites), (3, vl eDescription aDescriptions), (12, vi s4.1), (47, vl eS s4.2), (49, vs x9.Code)], []⟩ ?_
  obtain ⟨x10, hx10, h⟩ := bind_some h
  refine SRun.ls (xc ents68 (spec_l08Insert_run s4.2 x9.Code _ hx10)) ?_
  refine SRun.ck tbok 1 ⟨52, [(0, vl eCandidate aList), (1, vs aText), (2, vl eSite aSites), (3, vl eDescription aDescriptions), (11, vl eS x10), (12, vi s4.1)], []⟩ ?_
  refine SRun.nil ?_
  obtain rfl := inj h
  exact q_bn (q_j (Le.sub0))
  refine swp_skip ?_
  obtain rfl := inj h
  exact q_bn (q_j (Le.sub0))
  refine swp_reg ?_
  refine SRun.ck tbok 3 ⟨52, [(0, vl eCandidate aList), (1, vs aText), (2, vl eSite aSites), (3, vl eDescription aDescriptions), (11, vl eS j6), (12, vi (w64 (s4.1 + 1)))], []⟩ ?_
  refine SRun.nil ?_
  obtain rfl := inj h
  exact q_l (Le.sub0)
  refine swp_exit ?_
  obtain rfl := inj h
  exact nx_e (q_re (q_bh (q_j (Le.sub0))))
  refine srk tbok ⟨52, [(8, vl eS j2), (9, vi 0)], []⟩ ?_
  refine swp_ret ?_
  obtain rfl := inj h
  exact q_fr (f2 ft ft)
theorem ents24 : Ents Tryz.prog 24 := ents_of Tryz.func24 (by kernel_rfl) rfl
noncomputable def impl_question_code (aQ : question) (aList : (List Candidate)) : Option (Int) :=
  ((((impl_AreCandidates aList).bind fun x1 => (bif x1 then ((impl_IsPhrase aQ.text).bind fun x2 => ((impl_siteCode aQ.sites aQ.descriptions x2).bind fun x3 => some x3)) else ((impl_siteCode aQ.sites aQ.descriptions false).bind fun x4 => some x4)))).bind fun (j5 : Int) => some j5)
theorem impl_question_code_run (aQ : question) (aList : (List Candidate)) (r : Int) (h : impl_question_code aQ aList = some r) : SCall Tryz.prog 79 [.v (.agg (tc equestion aQ)), .v (vl eCandidate aList)] ⟨[.v (vi r)], [], false⟩ := by
  refine scall_in Tryz.func79 rfl [(.tmp 4)] rfl (fun r => ⟨[.v (vi r)], [], false⟩) (r := r) ?_
  unfold impl_question_code at h
  refine srk tbok ⟨17, [(1, vl eCandidate aList), (2, .ref 2 0)], [(2, .box (tc equestion aQ))]⟩ ?_
  refine swp_seq ?_
  refine swp_drJ mixed h (fun j5 => ⟨17, [(4, vi j5)], []⟩) (fun v6 h => ?_) (fun j5 h => ?_)
  refine DGo.ck tbok false 5 ⟨17, [(2, .ref 2 0), (6, vl eSite aQ.sites), (8, vl eDescription aQ.descriptions), (9, vl eCandidate aList)], [(2, .box (tc equestion aQ))]⟩ ?_
  obtain ⟨x1, hx1, h⟩ := bind_some h
  refine DGo.step (xc ents45 (impl_AreCandidates_run aList _ hx1)) ?_
  refine DGo.ck tbok false 1 ⟨17, [(2, .ref 2 0), (6, vl eSite aQ.sites), (8, vl eDescription aQ.descriptions), (11, vb x1)], [(2, .box (tc equestion aQ))]⟩ ?_
  refine DGo.cu [(11, fun b => b)] h (fun h => ?_) fun h => ?_
  refine DGo.ck tbok false 2 ⟨17, [(6, vl eSite aQ.sites), (8, vl eDescription aQ.descriptions), (11, vb true), (13, vs aQ.text)], []⟩ ?_
  obtain ⟨x2, hx2, h⟩ := bind_some h
  refine DGo.step (xc ents87 (impl_IsPhrase_run aQ.text _ hx2)) ?_
  refine DGo.ck tbok false 1 ⟨17, [(6, vl eSite aQ.sites), (8, vl eDescription aQ.descriptions), (15, vb x2)], []⟩ ?_
  obtain ⟨x3, hx3, h⟩ := bind_some h
  refine DGo.step (xc ents58 (impl_siteCode_run aQ.sites aQ.descriptions x2 _ hx3)) ?_
  refine DGo.ck tbok false 1 ⟨17, [(4, vi x3)], []⟩ ?_
  refine DGo.nil (by kernel_rfl) ?_
  obtain rfl := inj h
  exact Le.sub0
  refine DGo.ck tbok false 4 ⟨17, [(6, vl eSite aQ.sites), (8, vl eDescription aQ.descriptions), (15, vb false)], []⟩ ?_
  obtain ⟨x4, hx4, h⟩ := bind_some h
  refine DGo.step (xc ents58 (impl_siteCode_run aQ.sites aQ.descriptions false _ hx4)) ?_
  refine DGo.ck tbok false 1 ⟨17, [(4, vi x4)], []⟩ ?_
  refine DGo.nil (by kernel_rfl) ?_
  obtain rfl := inj h
  exact Le.sub0
  refine swp_ret ?_
  obtain rfl := inj h
  exact q_fr (f1 fv)
theorem ents79 : Ents Tryz.prog 79 := ents_of Tryz.func79 (by kernel_rfl) rfl
noncomputable def impl_editDistance (aA : ByteArray) (aB : ByteArray) : Option (Int) :=
  ((make' 0 (w64 ((aB.size : Int) + 1))).bind fun x1 => (((forS (x1.length : Int) (fun (i4 : Int) (s4 : (List Int)) => ((at' s4 i4).bind fun _ => some (List.set s4 (Int.toNat i4) i4))) (fun (s4 : (List Int)) => s4) 0 x1)).bind fun (j2 : (List Int)) => (((forS (aA.size : Int) (fun (i11 : Int) (s11 : (List Int)) => (((forS (aB.size : Int) (fun (i17 : Int) (s17 : (List Int)) => ((at' s11 i17).bind fun x21 => ((byte' aA i11).bind fun x22 => ((byte' aB i17).bind fun x23 => (((bif (x22 != x23) then some (w64 (x21 + 1)) else some x21)).bind fun (j24 : Int) => ((at' s11 (w64 (i17 + 1))).bind fun x26 => ((at' s17 i17).bind fun x27 => ((app' s17 ([(minI (minI j24 (w64 (x26 + 1))) (w64 (x27 + 1)))] : List Int)).bind fun x29 => some x29)))))))) (fun (s17 : (List Int)) => s17) 0 ([(w64 (i11 + 1))] : List Int))).bind fun (j15 : (List Int)) => some j15)) (fun (s11 : (List Int)) => s11) 0 j2)).bind fun (j9 : (List Int)) => ((at' j9 (aB.size : Int)).bind fun x30 => some x30))))
theorem impl_editDistance_run (aA : ByteArray) (aB : ByteArray) (r : Int) (h : impl_editDistance aA aB = some r) : SCall Tryz.prog 120 [.v (vs aA), .v (vs aB)] ⟨[.v (vi r)], [], false⟩ := by
  refine scall_in Tryz.func120 rfl [(.tmp 4)] rfl (fun r => ⟨[.v (vi r)], [], false⟩) (r := r) ?_
  unfold impl_editDistance at h
  refine srk tbok ⟨75, [(0, vs aA), (1, vs aB)], []⟩ ?_
  refine sr ?_
  refine SRun.ck tbok 3 ⟨75, [(0, vs aA), (1, vs aB), (13, vi (w64 ((aB.size : Int) + 1)))], []⟩ ?_
  obtain ⟨x1, hx1, h⟩ := bind_some h
  refine SRun.ls (x_make (z := 0) (f := (eI .i64)) (ti := ti54) (tj := ti2) (e := 2) (m := 1) (k := .i64) (k' := .i64) hx1 tbok rfl rfl (zs := [.int .i64 0])) ?_
  refine ckn tbok 1 ⟨75, [(0, vs aA), (1, vs aB), (5, .own 14)], [(14, oa 2 1 (eI .i64) x1)]⟩ ?_
  refine swp_seq ?_
  refine srk tbok ⟨75, [(0, vs aA), (1, vs aB), (5, .own 14), (16, vi (x1.length : Int)), (17, vi 0)], [(14, oa 2 1 (eI .i64) x1)]⟩ ?_
  refine swp_seqJ h (fun j2 => ⟨75, [(0, vs aA), (1, vs aB), (5, .own 5)], [(5, oa 2 1 (eI .i64) j2)]⟩) (fun v3 h => ?_) (fun j2 h => ?_)
  refine swp_blk (a := v3) ?_
  refine swp_lpL (r := v3) (s := (0, x1)) _ (fun s4 => ⟨75, [(0, vs aA), (1, vs aB), (5, .own 5), (16, vi (x1.length : Int)), (17, vi s4.1)], [(5, oa 2 1 (eI .i64) s4.2)]⟩) _ ((Le.sub' ([(0, vs aA), (1, vs aB), (5, .own 14), (16, vi (x1.length : Int)), (17, vi 0)] : List (Nat × SV)) ([(14, oa 2 1 (eI .i64) x1)] : List (Nat × SO)) (by kernel_rfl) (by kernel_rfl)).trans ((Le.ren' (d := 14) (e := 5) (by kernel_rfl) (by kernel_rfl) (by kernel_rfl)).trans (Le.sub0))) h (fun s4 v5 h => ?_)
  refine srk tbok ⟨75, [(0, vs aA), (1, vs aB), (5, .own 5), (16, vi (x1.length : Int)), (17, vi s4.1), (18, vb (decide (s4.1 < (x1.length : Int))))], [(5, oa 2 1 (eI .i64) s4.2)]⟩ ?_
  refine swp_seq ?_
  refine swp_cd h (fun h => ?_) fun h => ?_
  refine swp_skip ?_
  refine nx_n ?_
  refine swp_seq ?_
  refine swp_seqJ h (fun j6 => ⟨75, [(0, vs aA), (1, vs aB), (5, .own 5), (16, vi (x1.length : Int)), (17, vi s4.1)], [(5, oa 2 1 (eI .i64) j6)]⟩) (fun v7 h => ?_) (fun j6 h => ?_)
  refine swp_blk (a := v7) ?_
  refine srk tbok ⟨75, [(0, vs aA), (1, vs aB), (5, .own 5), (6, vi s4.1), (16, vi (x1.length : Int)), (17, vi s4.1)], [(5, oa 2 1 (eI .i64) s4.2)]⟩ ?_
  refine swp_reg ?_
  refine SRun.ck tbok 3 ⟨75, [(0, vs aA), (1, vs aB), (5, .own 5), (16, vi (x1.length : Int)), (17, vi s4.1), (20, .own 5), (21, vi s4.1), (22, vi s4.1)], [(5, oa 2 1 (eI .i64) s4.2)]⟩ ?_
  obtain ⟨x8, hx8, h⟩ := bind_some h
  refine SRun.ls (x_index_own (d := 5) (L := s4.2) (f := (eI .i64)) (ti := ti54) (tj := ti2) (e := 2) (e' := 2) (m := 1) (k := .i64) tbok rfl hx8) ?_
  refine SRun.estep (x_store_own (d := 5) (m := 1) (j := 0) (L := s4.2) (f := (eI .i64)) (x := s4.1) (z := x8) (ti := ti2) (e := 2) (ts := [.int .i64 s4.1]) (vs := [vi s4.1]) (v := vi s4.1) tbok rfl rfl hx8) ?_
  refine SRun.nil ?_
  obtain rfl := inj h
  exact q_bn (q_j (Le.sub0))
  refine swp_reg ?_
  refine SRun.ck tbok 2 ⟨75, [(0, vs aA), (1, vs aB), (5, .own 5), (16, vi (x1.length : Int)), (17, vi (w64 (s4.1 + 1)))], [(5, oa 2 1 (eI .i64) j6)]⟩ ?_
  refine SRun.nil ?_
  obtain rfl := inj h
  exact q_l (Le.sub0)
  refine swp_exit ?_
  obtain rfl := inj h
  exact nx_e (q_re (q_bh (q_j (Le.sub0))))
  refine swp_seq ?_
  refine srk tbok ⟨75, [(0, vs aA), (1, vs aB), (5, .own 5), (26, vi (aA.size : Int)), (27, vi 0)], [(5, oa 2 1 (eI .i64) j2)]⟩ ?_
  refine swp_seqJ h (fun j9 => ⟨75, [(1, vs aB), (5, .own 5)], [(5, oa 2 1 (eI .i64) j9)]⟩) (fun v10 h => ?_) (fun j9 h => ?_)
  refine swp_blk (a := v10) ?_
  refine swp_lpL (r := v10) (s := (0, j2)) _ (fun s11 => ⟨75, [(0, vs aA), (1, vs aB), (5, .own 5), (26, vi (aA.size : Int)), (27, vi s11.1)], [(5, oa 2 1 (eI .i64) s11.2)]⟩) _ (Le.sub0) h (fun s11 v12 h => ?_)
  refine srk tbok ⟨75, [(0, vs aA), (1, vs aB), (5, .own 5), (26, vi (aA.size : Int)), (27, vi s11.1), (28, vb (decide (s11.1 < (aA.size : Int))))], [(5, oa 2 1 (eI .i64) s11.2)]⟩ ?_
  refine swp_seq ?_
  refine swp_cd h (fun h => ?_) fun h => ?_
  refine swp_skip ?_
  refine nx_n ?_
  refine swp_seq ?_
  refine swp_seqJ h (fun j13 => ⟨75, [(0, vs aA), (1, vs aB), (5, .own 5), (26, vi (aA.size : Int)), (27, vi s11.1)], [(5, oa 2 1 (eI .i64) j13)]⟩) (fun v14 h => ?_) (fun j13 h => ?_)
  refine swp_blk (a := v14) ?_
  refine srk tbok ⟨75, [(0, vs aA), (1, vs aB), (5, .own 5), (7, vi s11.1), (26, vi (aA.size : Int)), (27, vi s11.1)], [(5, oa 2 1 (eI .i64) s11.2)]⟩ ?_
  refine srk tbok ⟨75, [(0, vs aA), (1, vs aB), (5, .own 5), (7, vi s11.1), (8, .own 32), (26, vi (aA.size : Int)), (27, vi s11.1)], [(5, oa 2 1 (eI .i64) s11.2), (32, oa 2 1 (eI .i64) ([(w64 (s11.1 + 1))] : List Int))]⟩ ?_
  refine swp_seq ?_
  refine srk tbok ⟨75, [(0, vs aA), (1, vs aB), (5, .own 5), (7, vi s11.1), (8, .own 32), (26, vi (aA.size : Int)), (27, vi s11.1), (34, vi (aB.size : Int)), (35, vi 0)], [(5, oa 2 1 (eI .i64) s11.2), (32, oa 2 1 (eI .i64) ([(w64 (s11.1 + 1))] : List Int))]⟩ ?_
  refine swp_seqJ h (fun j15 => ⟨75, [(0, vs aA), (1, vs aB), (8, .own 8), (26, vi (aA.size : Int)), (27, vi s11.1)], [(8, oa 2 1 (eI .i64) j15)]⟩) (fun v16 h => ?_) (fun j15 h => ?_)
  refine swp_blk (a := v16) ?_
  refine swp_lpL (r := v16) (s := (0, ([(w64 (s11.1 + 1))] : List Int))) _ (fun s17 => ⟨75, [(0, vs aA), (1, vs aB), (5, .own 5), (7, vi s11.1), (8, .own 8), (26, vi (aA.size : Int)), (27, vi s11.1), (34, vi (aB.size : Int)), (35, vi s17.1)], [(5, oa 2 1 (eI .i64) s11.2), (8, oa 2 1 (eI .i64) s17.2)]⟩) _ ((Le.sub' ([(0, vs aA), (1, vs aB), (5, .own 5), (7, vi s11.1), (8, .own 32), (26, vi (aA.size : Int)), (27, vi s11.1), (34, vi (aB.size : Int)), (35, vi 0)] : List (Nat × SV)) ([(5, oa 2 1 (eI .i64) s11.2), (32, oa 2 1 (eI .i64) ([(w64 (s11.1 + 1))] : List Int))] : List (Nat × SO)) (by kernel_rfl) (by kernel_rfl)).trans ((Le.ren' (d := 32) (e := 8) (by kernel_rfl) (by kernel_rfl) (by kernel_rfl)).trans (Le.sub0))) h (fun s17 v18 h => ?_)
  refine srk tbok ⟨75, [(0, vs aA), (1, vs aB), (5, .own 5), (7, vi s11.1), (8, .own 8), (26, vi (aA.size : Int)), (27, vi s11.1), (34, vi (aB.size : Int)), (35, vi s17.1), (36, vb (decide (s17.1 < (aB.size : Int))))], [(5, oa 2 1 (eI .i64) s11.2), (8, oa 2 1 (eI .i64) s17.2)]⟩ ?_
  refine swp_seq ?_
  refine swp_cd h (fun h => ?_) fun h => ?_
  refine swp_skip ?_
  refine nx_n ?_
  refine swp_seq ?_
  refine swp_seqJ h (fun j19 => ⟨75, [(0, vs aA), (1, vs aB), (5, .own 5), (7, vi s11.1), (8, .own 8), (26, vi (aA.size : Int)), (27, vi s11.1), (34, vi (aB.size : Int)), (35, vi s17.1)], [(5, oa 2 1 (eI .i64) s11.2), (8, oa 2 1 (eI .i64) j19)]⟩) (fun v20 h => ?_) (fun j19 h => ?_)
  refine swp_blk (a := v20) ?_
  refine srk tbok ⟨75, [(0, vs aA), (1, vs aB), (5, .own 5), (7, vi s11.1), (8, .own 8), (9, vi s17.1), (26, vi (aA.size : Int)), (27, vi s11.1), (34, vi (aB.size : Int)), (35, vi s17.1)], [(5, oa 2 1 (eI .i64) s11.2), (8, oa 2 1 (eI .i64) s17.2)]⟩ ?_
  refine sr ?_
  refine SRun.ck tbok 2 ⟨75, [(0, vs aA), (1, vs aB), (5, .own 5), (7, vi s11.1), (8, .own 8), (9, vi s17.1), (26, vi (aA.size : Int)), (27, vi s11.1), (34, vi (aB.size : Int)), (35, vi s17.1), (38, .own 5), (39, vi s17.1)], [(5, oa 2 1 (eI .i64) s11.2), (8, oa 2 1 (eI .i64) s17.2)]⟩ ?_
  obtain ⟨x21, hx21, h⟩ := bind_some h
  refine SRun.ls (x_index_own (d := 5) (L := s11.2) (f := (eI .i64)) (ti := ti54) (tj := ti2) (e := 2) (e' := 2) (m := 1) (k := .i64) tbok rfl hx21) ?_
  refine SRun.ls (x_load_own (d := 5) (m := 1) (j := 0) (L := s11.2) (f := (eI .i64)) (ti := ti2) (e := 2) (v := vi x21) tbok rfl hx21) ?_
  refine ckn tbok 1 ⟨75, [(0, vs aA), (1, vs aB), (5, .own 5), (7, vi s11.1), (8, .own 8), (9, vi s17.1), (10, vi x21), (26, vi (aA.size : Int)), (27, vi s11.1), (34, vi (aB.size : Int)), (35, vi s17.1)], [(5, oa 2 1 (eI .i64) s11.2), (8, oa 2 1 (eI .i64) s17.2)]⟩ ?_
  refine swp_seq ?_
  refine swp_seq ?_
  refine swp_dr mixed ?_
  refine DGo.ck tbok false 2 ⟨75, [(0, vs aA), (1, vs aB), (5, .own 5), (7, vi s11.1), (8, .own 8), (9, vi s17.1), (10, vi x21), (26, vi (aA.size : Int)), (27, vi s11.1), (34, vi (aB.size : Int)), (35, vi s17.1), (42, vs aA), (43, vi s11.1)], [(5, oa 2 1 (eI .i64) s11.2), (8, oa 2 1 (eI .i64) s17.2)]⟩ ?_
  obtain ⟨x22, hx22, h⟩ := bind_some h
  refine DGo.step (x_byte (ti := ti9) (k := .i64) hx22 tbok rfl) ?_
  refine DGo.ck tbok false 2 ⟨75, [(0, vs aA), (1, vs aB), (5, .own 5), (7, vi s11.1), (8, .own 8), (9, vi s17.1), (10, vi x21), (26, vi (aA.size : Int)), (27, vi s11.1), (34, vi (aB.size : Int)), (35, vi s17.1), (44, .tr (.int .u8 x22)), (45, vs aB), (46, vi s17.1)], [(5, oa 2 1 (eI .i64) s11.2), (8, oa 2 1 (eI .i64) s17.2)]⟩ ?_
  obtain ⟨x23, hx23, h⟩ := bind_some h
  refine DGo.step (x_byte (ti := ti9) (k := .i64) hx23 tbok rfl) ?_
  refine DGo.ck tbok false 1 ⟨75, [(0, vs aA), (1, vs aB), (5, .own 5), (7, vi s11.1), (8, .own 8), (9, vi s17.1), (10, vi x21), (26, vi (aA.size : Int)), (27, vi s11.1), (34, vi (aB.size : Int)), (35, vi s17.1), (48, vb (x22 != x23))], [(5, oa 2 1 (eI .i64) s11.2), (8, oa 2 1 (eI .i64) s17.2)]⟩ ?_
  refine DGo.nx ?_
  refine swp_seqJ h (fun j24 => ⟨75, [(0, vs aA), (1, vs aB), (5, .own 5), (7, vi s11.1), (8, .own 8), (9, vi s17.1), (10, vi j24), (26, vi (aA.size : Int)), (27, vi s11.1), (34, vi (aB.size : Int)), (35, vi s17.1)], [(5, oa 2 1 (eI .i64) s11.2), (8, oa 2 1 (eI .i64) s17.2)]⟩) (fun v25 h => ?_) (fun j24 h => ?_)
  refine swp_cd h (fun h => ?_) fun h => ?_
  refine swp_reg ?_
  refine SRun.ck tbok 3 ⟨75, [(0, vs aA), (1, vs aB), (5, .own 5), (7, vi s11.1), (8, .own 8), (9, vi s17.1), (10, vi (w64 (x21 + 1))), (26, vi (aA.size : Int)), (27, vi s11.1), (34, vi (aB.size : Int)), (35, vi s17.1)], [(5, oa 2 1 (eI .i64) s11.2), (8, oa 2 1 (eI .i64) s17.2)]⟩ ?_
  refine SRun.nil ?_
  obtain rfl := inj h
  exact q_j (Le.sub0)
  refine swp_skip ?_
  obtain rfl := inj h
  exact q_j (Le.sub0)
  refine swp_dr mixed ?_
  refine DGo.ck tbok false 5 ⟨75, [(0, vs aA), (1, vs aB), (5, .own 5), (7, vi s11.1), (8, .own 8), (9, vi s17.1), (26, vi (aA.size : Int)), (27, vi s11.1), (34, vi (aB.size : Int)), (35, vi s17.1), (51, .own 8), (52, vi j24), (53, .own 5), (55, vi (w64 (s17.1 + 1)))], [(5, oa 2 1 (eI .i64) s11.2), (8, oa 2 1 (eI .i64) s17.2)]⟩ ?_
  obtain ⟨x26, hx26, h⟩ := bind_some h
  refine DGo.step (x_index_own (d := 5) (L := s11.2) (f := (eI .i64)) (ti := ti54) (tj := ti2) (e := 2) (e' := 2) (m := 1) (k := .i64) tbok rfl hx26) ?_
  refine DGo.step (x_load_own (d := 5) (m := 1) (j := 0) (L := s11.2) (f := (eI .i64)) (ti := ti2) (e := 2) (v := vi x26) tbok rfl hx26) ?_
  refine DGo.ck tbok false 3 ⟨75, [(0, vs aA), (1, vs aB), (5, .own 5), (7, vi s11.1), (26, vi (aA.size : Int)), (27, vi s11.1), (34, vi (aB.size : Int)), (35, vi s17.1), (51, .own 8), (52, vi j24), (58, vi (w64 (x26 + 1))), (59, .own 8), (60, vi s17.1)], [(5, oa 2 1 (eI .i64) s11.2), (8, oa 2 1 (eI .i64) s17.2)]⟩ ?_
  obtain ⟨x27, hx27, h⟩ := bind_some h
  refine DGo.step (x_index_own (d := 8) (L := s17.2) (f := (eI .i64)) (ti := ti54) (tj := ti2) (e := 2) (e' := 2) (m := 1) (k := .i64) tbok rfl hx27) ?_
  refine DGo.step (x_load_own (d := 8) (m := 1) (j := 0) (L := s17.2) (f := (eI .i64)) (ti := ti2) (e := 2) (v := vi x27) tbok rfl hx27) ?_
  refine DGo.ck tbok false 3 ⟨75, [(0, vs aA), (1, vs aB), (5, .own 5), (7, vi s11.1), (26, vi (aA.size : Int)), (27, vi s11.1), (34, vi (aB.size : Int)), (35, vi s17.1), (51, .own 8), (65, .own 65)], [(5, oa 2 1 (eI .i64) s11.2), (8, oa 2 1 (eI .i64) s17.2), (65, oa 2 1 (eI .i64) ([(minI (minI j24 (w64 (x26 + 1))) (w64 (x27 + 1)))] : List Int))]⟩ ?_
  refine DGo.seq (by kernel_rfl) (by kernel_rfl) ?_
  obtain ⟨x29, hx29, h⟩ := bind_some h
  refine SRun.estep (x_append (f := (eI .i64)) (t := 54) (ti := ti54) (tj := ti2) (zs := [.int .i64 0]) (e := 2) (m := 1) (d := 8) (xv := .own 65) hx29 tbok rfl rfl rfl rfl (x_src_o (e := 2))) ?_
  refine SRun.ck tbok 1 ⟨75, [(0, vs aA), (1, vs aB), (5, .own 5), (7, vi s11.1), (8, .own 66), (26, vi (aA.size : Int)), (27, vi s11.1), (34, vi (aB.size : Int)), (35, vi s17.1)], [(5, oa 2 1 (eI .i64) s11.2), (66, oa 2 1 (eI .i64) x29)]⟩ ?_
  refine SRun.nil ?_
  obtain rfl := inj h
  exact q_bn (q_j ((Le.sub' ([(0, vs aA), (1, vs aB), (5, .own 5), (7, vi s11.1), (8, .own 66), (26, vi (aA.size : Int)), (27, vi s11.1), (34, vi (aB.size : Int)), (35, vi s17.1)] : List (Nat × SV)) ([(5, oa 2 1 (eI .i64) s11.2), (66, oa 2 1 (eI .i64) x29)] : List (Nat × SO)) (by kernel_rfl) (by kernel_rfl)).trans ((Le.ren' (d := 66) (e := 8) (by kernel_rfl) (by kernel_rfl) (by kernel_rfl)).trans (Le.sub0))))
  refine swp_reg ?_
  refine SRun.ck tbok 2 ⟨75, [(0, vs aA), (1, vs aB), (5, .own 5), (7, vi s11.1), (8, .own 8), (26, vi (aA.size : Int)), (27, vi s11.1), (34, vi (aB.size : Int)), (35, vi (w64 (s17.1 + 1)))], [(5, oa 2 1 (eI .i64) s11.2), (8, oa 2 1 (eI .i64) j19)]⟩ ?_
  refine SRun.nil ?_
  obtain rfl := inj h
  exact q_l (Le.sub0)
  refine swp_exit ?_
  obtain rfl := inj h
  exact nx_e (q_re (q_bh (q_j (Le.sub0))))
  refine swp_reg ?_
  refine SRun.ck tbok 2 ⟨75, [(0, vs aA), (1, vs aB), (5, .own 8), (26, vi (aA.size : Int)), (27, vi s11.1)], [(8, oa 2 1 (eI .i64) j15)]⟩ ?_
  refine SRun.nil ?_
  obtain rfl := inj h
  exact q_bn (q_j ((Le.sub' ([(0, vs aA), (1, vs aB), (5, .own 8), (26, vi (aA.size : Int)), (27, vi s11.1)] : List (Nat × SV)) ([(8, oa 2 1 (eI .i64) j15)] : List (Nat × SO)) (by kernel_rfl) (by kernel_rfl)).trans ((Le.ren' (d := 8) (e := 5) (by kernel_rfl) (by kernel_rfl) (by kernel_rfl)).trans (Le.sub0))))
  refine swp_reg ?_
  refine SRun.ck tbok 2 ⟨75, [(0, vs aA), (1, vs aB), (5, .own 5), (26, vi (aA.size : Int)), (27, vi (w64 (s11.1 + 1)))], [(5, oa 2 1 (eI .i64) j13)]⟩ ?_
  refine SRun.nil ?_
  obtain rfl := inj h
  exact q_l (Le.sub0)
  refine swp_exit ?_
  obtain rfl := inj h
  exact nx_e (q_re (q_bh (q_j (Le.sub0))))
  refine sr ?_
  refine SRun.ck tbok 3 ⟨75, [(70, .own 5), (72, vi (aB.size : Int))], [(5, oa 2 1 (eI .i64) j9)]⟩ ?_
  obtain ⟨x30, hx30, h⟩ := bind_some h
  refine SRun.ls (x_index_own (d := 5) (L := j9) (f := (eI .i64)) (ti := ti54) (tj := ti2) (e := 2) (e' := 2) (m := 1) (k := .i64) tbok rfl hx30) ?_
  refine SRun.ls (x_load_own (d := 5) (m := 1) (j := 0) (L := j9) (f := (eI .i64)) (ti := ti2) (e := 2) (v := vi x30) tbok rfl hx30) ?_
  refine ckn tbok 1 ⟨75, [(4, vi x30)], []⟩ ?_
  refine swp_ret ?_
  obtain rfl := inj h
  exact q_fr (f1 fv)
theorem ents120 : Ents Tryz.prog 120 := ents_of Tryz.func120 (by kernel_rfl) rfl
noncomputable def impl_phraseDistance (aA : ByteArray) (aB : ByteArray) : Option (Int) :=
  ((impl_wordsOf aA).bind fun x1 => ((impl_wordsOf aB).bind fun x2 => (((bif (decide ((x1.length : Int) < (x2.length : Int))) then some (x2, x1) else some (x1, x2))).bind fun (j3 : (List ByteArray) × (List ByteArray)) => (((forS (j3.1.length : Int) (fun (i7 : Int) (s7 : Int) => ((at' j3.1 i7).bind fun x11 => (bif (decide (i7 < (j3.2.length : Int))) then ((at' j3.2 i7).bind fun x12 => ((impl_editDistance x11 x12).bind fun x13 => some (w64 (s7 + x13)))) else some (w64 (s7 + (x11.size : Int)))))) (fun (s7 : Int) => s7) 0 0)).bind fun (j5 : Int) => some j5))))
theorem impl_phraseDistance_run (aA : ByteArray) (aB : ByteArray) (r : Int) (h : impl_phraseDistance aA aB = some r) : SCall Tryz.prog 75 [.v (vs aA), .v (vs aB)] ⟨[.v (vi r)], [], false⟩ := by
  refine scall_in Tryz.func75 rfl [(.tmp 4)] rfl (fun r => ⟨[.v (vi r)], [], false⟩) (r := r) ?_
  unfold impl_phraseDistance at h
  refine srk tbok ⟨46, [(0, vs aA), (1, vs aB)], []⟩ ?_
  refine sr ?_
  refine SRun.ck tbok 1 ⟨46, [(1, vs aB), (10, vs aA)], []⟩ ?_
  obtain ⟨x1, hx1, h⟩ := bind_some h
  refine SRun.ls (xc ents119 (impl_wordsOf_run aA _ hx1)) ?_
  refine SRun.ck tbok 1 ⟨46, [(11, .own 11), (12, vs aB)], [(11, oa 9 1 eS x1)]⟩ ?_
  obtain ⟨x2, hx2, h⟩ := bind_some h
  refine SRun.ls (xc ents119 (impl_wordsOf_run aB _ hx2)) ?_
  refine ckn tbok 2 ⟨46, [(5, .own 11), (6, .own 13)], [(11, oa 9 1 eS x1), (13, oa 9 1 eS x2)]⟩ ?_
  refine swp_seq ?_
  refine srk tbok ⟨46, [(5, .own 11), (6, .own 13), (18, vb (decide ((x1.length : Int) < (x2.length : Int))))], [(11, oa 9 1 eS x1), (13, oa 9 1 eS x2)]⟩ ?_
  refine swp_seqJ h (fun j3 => ⟨46, [(5, .own 5), (6, .own 6)], [(5, oa 9 1 eS j3.1), (6, oa 9 1 eS j3.2)]⟩) (fun v4 h => ?_) (fun j3 h => ?_)
  refine swp_cd h (fun h => ?_) fun h => ?_
  refine swp_reg ?_
  refine SRun.ck tbok 4 ⟨46, [(5, .own 13), (6, .own 11)], [(11, oa 9 1 eS x1), (13, oa 9 1 eS x2)]⟩ ?_
  refine SRun.nil ?_
  obtain rfl := inj h
  exact q_j ((Le.sub' ([(5, .own 13), (6, .own 11)] : List (Nat × SV)) ([(11, oa 9 1 eS x1), (13, oa 9 1 eS x2)] : List (Nat × SO)) (by kernel_rfl) (by kernel_rfl)).trans ((Le.ren' (d := 13) (e := 5) (by kernel_rfl) (by kernel_rfl) (by kernel_rfl)).trans ((Le.ren' (d := 11) (e := 6) (by kernel_rfl) (by kernel_rfl) (by kernel_rfl)).trans (Le.sub0))))
  refine swp_skip ?_
  obtain rfl := inj h
  exact q_j ((Le.sub' ([(5, .own 11), (6, .own 13)] : List (Nat × SV)) ([(11, oa 9 1 eS x1), (13, oa 9 1 eS x2)] : List (Nat × SO)) (by kernel_rfl) (by kernel_rfl)).trans ((Le.ren' (d := 11) (e := 5) (by kernel_rfl) (by kernel_rfl) (by kernel_rfl)).trans ((Le.ren' (d := 13) (e := 6) (by kernel_rfl) (by kernel_rfl) (by kernel_rfl)).trans (Le.sub0))))
  refine srk tbok ⟨46, [(5, .own 5), (6, .own 6), (7, vi 0)], [(5, oa 9 1 eS j3.1), (6, oa 9 1 eS j3.2)]⟩ ?_
  refine swp_seq ?_
  refine srk tbok ⟨46, [(6, .own 6), (7, vi 0), (21, .own 5), (22, vi (j3.1.length : Int)), (23, vi 0)], [(5, oa 9 1 eS j3.1), (6, oa 9 1 eS j3.2)]⟩ ?_
  refine swp_seqJ h (fun j5 => ⟨46, [(7, vi j5)], []⟩) (fun v6 h => ?_) (fun j5 h => ?_)
  refine swp_blk (a := v6) ?_
  refine swp_lpL (r := v6) (s := (0, 0)) _ (fun s7 => ⟨46, [(6, .own 6), (7, vi s7.2), (21, .own 21), (22, vi (j3.1.length : Int)), (23, vi s7.1)], [(21, oa 9 1 eS j3.1), (6, oa 9 1 eS j3.2)]⟩) _ ((Le.sub' ([(6, .own 6), (7, vi 0), (21, .own 5), (22, vi (j3.1.length : Int)), (23, vi 0)] : List (Nat × SV)) ([(5, oa 9 1 eS j3.1), (6, oa 9 1 eS j3.2)] : List (Nat × SO)) (by kernel_rfl) (by kernel_rfl)).trans ((Le.ren' (d := 5) (e := 21) (by kernel_rfl) (by kernel_rfl) (by kernel_rfl)).trans (Le.sub0))) h (fun s7 v8 h => ?_)
  refine srk tbok ⟨46, [(6, .own 6), (7, vi s7.2), (21, .own 21), (22, vi (j3.1.length : Int)), (23, vi s7.1), (24, vb (decide (s7.1 < (j3.1.length : Int))))], [(6, oa 9 1 eS j3.2), (21, oa 9 1 eS j3.1)]⟩ ?_
  refine swp_seq ?_
  refine swp_cd h (fun h => ?_) fun h => ?_
  refine swp_skip ?_
  refine nx_n ?_
  refine swp_seq ?_
  refine swp_seqJ h (fun j9 => ⟨46, [(6, .own 6), (7, vi j9), (21, .own 21), (22, vi (j3.1.length : Int)), (23, vi s7.1)], [(6, oa 9 1 eS j3.2), (21, oa 9 1 eS j3.1)]⟩) (fun v10 h => ?_) (fun j9 h => ?_)
  refine swp_blk (a := v10) ?_
  refine sr ?_
  refine SRun.ck tbok 1 ⟨46, [(6, .own 6), (7, vi s7.2), (21, .own 21), (22, vi (j3.1.length : Int)), (23, vi s7.1), (25, vi s7.1)], [(6, oa 9 1 eS j3.2), (21, oa 9 1 eS j3.1)]⟩ ?_
  obtain ⟨x11, hx11, h⟩ := bind_some h
  refine SRun.ls (x_index_own (d := 21) (L := j3.1) (f := eS) (ti := ti28) (tj := ti9) (e := 9) (e' := 9) (m := 1) (k := .i64) tbok rfl hx11) ?_
  refine SRun.ls (x_load_own (d := 21) (m := 1) (j := 0) (L := j3.1) (f := eS) (ti := ti9) (e := 9) (v := vs x11) tbok rfl hx11) ?_
  refine ckn tbok 2 ⟨46, [(6, .own 6), (7, vi s7.2), (8, vi s7.1), (9, vs x11), (21, .own 21), (22, vi (j3.1.length : Int)), (23, vi s7.1)], [(6, oa 9 1 eS j3.2), (21, oa 9 1 eS j3.1)]⟩ ?_
  refine srk tbok ⟨46, [(6, .own 6), (7, vi s7.2), (8, vi s7.1), (9, vs x11), (21, .own 21), (22, vi (j3.1.length : Int)), (23, vi s7.1), (31, vb (decide (s7.1 < (j3.2.length : Int))))], [(6, oa 9 1 eS j3.2), (21, oa 9 1 eS j3.1)]⟩ ?_
  refine swp_cd h (fun h => ?_) fun h => ?_
  refine swp_reg ?_
  refine SRun.ck tbok 4 ⟨46, [(6, .own 6), (21, .own 21), (22, vi (j3.1.length : Int)), (23, vi s7.1), (32, vi s7.2), (33, vs x11), (34, .own 6), (35, vi s7.1)], [(6, oa 9 1 eS j3.2), (21, oa 9 1 eS j3.1)]⟩ ?_
  obtain ⟨x12, hx12, h⟩ := bind_some h
  refine SRun.ls (x_index_own (d := 6) (L := j3.2) (f := eS) (ti := ti28) (tj := ti9) (e := 9) (e' := 9) (m := 1) (k := .i64) tbok rfl hx12) ?_
  refine SRun.ls (x_load_own (d := 6) (m := 1) (j := 0) (L := j3.2) (f := eS) (ti := ti9) (e := 9) (v := vs x12) tbok rfl hx12) ?_
  obtain ⟨x13, hx13, h⟩ := bind_some h
  refine SRun.ls (xc ents120 (impl_editDistance_run x11 x12 _ hx13)) ?_
  refine SRun.ck tbok 2 ⟨46, [(6, .own 6), (7, vi (w64 (s7.2 + x13))), (21, .own 21), (22, vi (j3.1.length : Int)), (23, vi s7.1)], [(6, oa 9 1 eS j3.2), (21, oa 9 1 eS j3.1)]⟩ ?_
  refine SRun.nil ?_
  obtain rfl := inj h
  exact q_bn (q_j (Le.sub0))
  refine swp_reg ?_
  refine SRun.ck tbok 5 ⟨46, [(6, .own 6), (7, vi (w64 (s7.2 + (x11.size : Int)))), (21, .own 21), (22, vi (j3.1.length : Int)), (23, vi s7.1)], [(6, oa 9 1 eS j3.2), (21, oa 9 1 eS j3.1)]⟩ ?_
  refine SRun.nil ?_
  obtain rfl := inj h
  exact q_bn (q_j (Le.sub0))
  refine swp_reg ?_
  refine SRun.ck tbok 2 ⟨46, [(6, .own 6), (7, vi j9), (21, .own 21), (22, vi (j3.1.length : Int)), (23, vi (w64 (s7.1 + 1)))], [(6, oa 9 1 eS j3.2), (21, oa 9 1 eS j3.1)]⟩ ?_
  refine SRun.nil ?_
  obtain rfl := inj h
  exact q_l (Le.sub0)
  refine swp_exit ?_
  obtain rfl := inj h
  exact nx_e (q_re (q_bh (q_j (Le.sub0))))
  refine srk tbok ⟨46, [(4, vi j5)], []⟩ ?_
  refine swp_ret ?_
  obtain rfl := inj h
  exact q_fr (f1 fv)
theorem ents75 : Ents Tryz.prog 75 := ents_of Tryz.func75 (by kernel_rfl) rfl
noncomputable def impl_countSatisfied (aList : (List Site)) (aDescriptions : (List Description)) (aP : Point) : Option (Int) :=
  (((forS (aDescriptions.length : Int) (fun (i3 : Int) (s3 : Int) => ((at' aDescriptions i3).bind fun x7 => ((impl_satisfies aList x7 aP).bind fun x8 => (bif x8 then some (w64 (s3 + 1)) else some s3)))) (fun (s3 : Int) => s3) 0 0)).bind fun (j1 : Int) => some j1)
theorem impl_countSatisfied_run (aList : (List Site)) (aDescriptions : (List Description)) (aP : Point) (r : Int) (h : impl_countSatisfied aList aDescriptions aP = some r) : SCall Tryz.prog 132 [.v (vl eSite aList), .v (vl eDescription aDescriptions), .v (.agg (tc ePoint aP))] ⟨[.v (vi r)], [], false⟩ := by
  refine scall_in Tryz.func132 rfl [(.tmp 6)] rfl (fun r => ⟨[.v (vi r)], [], false⟩) (r := r) ?_
  unfold impl_countSatisfied at h
  refine srk tbok ⟨24, [(0, vl eSite aList), (1, vl eDescription aDescriptions), (5, .ref 5 0)], [(5, .box (tc ePoint aP))]⟩ ?_
  refine srk tbok ⟨24, [(0, vl eSite aList), (1, vl eDescription aDescriptions), (5, .ref 5 0), (7, vi 0)], [(5, .box (tc ePoint aP))]⟩ ?_
  refine swp_seq ?_
  refine srk tbok ⟨24, [(0, vl eSite aList), (5, .ref 5 0), (7, vi 0), (10, vl eDescription aDescriptions), (11, vi (aDescriptions.length : Int)), (12, vi 0)], [(5, .box (tc ePoint aP))]⟩ ?_
  refine swp_seqJ h (fun j1 => ⟨24, [(7, vi j1)], []⟩) (fun v2 h => ?_) (fun j1 h => ?_)
  refine swp_blk (a := v2) ?_
  refine swp_lpL (r := v2) (s := (0, 0)) _ (fun s3 => ⟨24, [(0, vl eSite aList), (5, .ref 5 0), (7, vi s3.2), (10, vl eDescription aDescriptions), (11, vi (aDescriptions.length : Int)), (12, vi s3.1)], [(5, .box (tc ePoint aP))]⟩) _ (Le.sub0) h (fun s3 v4 h => ?_)
  refine srk tbok ⟨24, [(0, vl eSite aList), (5, .ref 5 0), (7, vi s3.2), (10, vl eDescription aDescriptions), (11, vi (aDescriptions.length : Int)), (12, vi s3.1), (13, vb (decide (s3.1 < (aDescriptions.length : Int))))], [(5, .box (tc ePoint aP))]⟩ ?_
  refine swp_seq ?_
  refine swp_cd h (fun h => ?_) fun h => ?_
  refine swp_skip ?_
  refine nx_n ?_
  refine swp_seq ?_
  refine swp_seqJ h (fun j5 => ⟨24, [(0, vl eSite aList), (5, .ref 5 0), (7, vi j5), (10, vl eDescription aDescriptions), (11, vi (aDescriptions.length : Int)), (12, vi s3.1)], [(5, .box (tc ePoint aP))]⟩) (fun v6 h => ?_) (fun j5 h => ?_)
  refine swp_blk (a := v6) ?_
  refine sr ?_
  obtain ⟨x7, hx7, h⟩ := bind_some h
  refine SRun.ls (x_index (L := aDescriptions) (f := eDescription) (ti := ti35) (tj := ti84) (e := 84) (k := .i64) tbok rfl hx7) ?_
  refine ckn tbok 3 ⟨24, [(0, vl eSite aList), (5, .ref 5 0), (7, vi s3.2), (9, .ref 9 0), (10, vl eDescription aDescriptions), (11, vi (aDescriptions.length : Int)), (12, vi s3.1)], [(5, .box (tc ePoint aP)), (9, .box (tc eDescription x7))]⟩ ?_
  refine sr ?_
  refine SRun.ck tbok 3 ⟨24, [(0, vl eSite aList), (5, .ref 5 0), (7, vi s3.2), (10, vl eDescription aDescriptions), (11, vi (aDescriptions.length : Int)), (12, vi s3.1), (16, vl eSite aList), (17, .agg (tc eDescription x7)), (18, .agg (tc ePoint aP))], [(5, .box (tc ePoint aP))]⟩ ?_
  obtain ⟨x8, hx8, h⟩ := bind_some h
  refine SRun.ls (xc ents60 (impl_satisfies_run aList x7 aP _ hx8)) ?_
  refine SRun.nx ?_
  refine swp_cd h (fun h => ?_) fun h => ?_
  refine swp_reg ?_
  refine SRun.ck tbok 3 ⟨24, [(0, vl eSite aList), (5, .ref 5 0), (7, vi (w64 (s3.2 + 1))), (10, vl eDescription aDescriptions), (11, vi (aDescriptions.length : Int)), (12, vi s3.1)], [(5, .box (tc ePoint aP))]⟩ ?_
  refine SRun.nil ?_
  obtain rfl := inj h
  exact q_bn (q_j (Le.sub0))
  refine swp_skip ?_
  obtain rfl := inj h
  exact q_bn (q_j (Le.sub0))
  refine swp_reg ?_
  refine SRun.ck tbok 2 ⟨24, [(0, vl eSite aList), (5, .ref 5 0), (7, vi j5), (10, vl eDescription aDescriptions), (11, vi (aDescriptions.length : Int)), (12, vi (w64 (s3.1 + 1)))], [(5, .box (tc ePoint aP))]⟩ ?_
  refine SRun.nil ?_
  obtain rfl := inj h
  exact q_l (Le.sub0)
  refine swp_exit ?_
  obtain rfl := inj h
  exact nx_e (q_re (q_bh (q_j (Le.sub0))))
  refine srk tbok ⟨24, [(6, vi j1)], []⟩ ?_
  refine swp_ret ?_
  obtain rfl := inj h
  exact q_fr (f1 fv)
theorem ents132 : Ents Tryz.prog 132 := ents_of Tryz.func132 (by kernel_rfl) rfl
noncomputable def impl_question_answer (aQ : question) (aC : Candidate) : Option (Answer) :=
  ((impl_phraseDistance aQ.text aC.Text).bind fun x1 => ((impl_countSatisfied aQ.sites aQ.descriptions aC.At).bind fun x2 => some (Answer.mk aC.Code x1 x2)))
theorem impl_question_answer_run (aQ : question) (aC : Candidate) (r : Answer) (h : impl_question_answer aQ aC = some r) : SCall Tryz.prog 83 [.v (.agg (tc equestion aQ)), .v (.agg (tc eCandidate aC))] ⟨[.v (.agg (tc eAnswer r))], [], false⟩ := by
  refine scall_in Tryz.func83 rfl [(.cell 4 59)] rfl (fun r => ⟨[.v (.agg (tc eAnswer r))], [], false⟩) (r := r) ?_
  unfold impl_question_answer at h
  refine srk tbok ⟨20, [(2, .ref 2 0), (3, .ref 3 0), (4, .ref 4 0)], [(2, .box (tc equestion aQ)), (3, .box (tc eCandidate aC)), (4, .box [vs (ByteArray.mk #[]), vi 0, vi 0])]⟩ ?_
  refine swp_seq ?_
  refine swp_dr mixed ?_
  refine DGo.ck tbok false 6 ⟨20, [(2, .ref 2 0), (3, .ref 3 0), (4, .ref 4 0), (6, vs aC.Code), (8, vs aQ.text), (10, vs aC.Text)], [(2, .box (tc equestion aQ)), (3, .box (tc eCandidate aC)), (4, .box [vs (ByteArray.mk #[]), vi 0, vi 0])]⟩ ?_
  obtain ⟨x1, hx1, h⟩ := bind_some h
  refine DGo.step (xc ents75 (impl_phraseDistance_run aQ.text aC.Text _ hx1)) ?_
  refine DGo.ck tbok false 6 ⟨20, [(4, .ref 4 0), (6, vs aC.Code), (11, vi x1), (13, vl eSite aQ.sites), (15, vl eDescription aQ.descriptions), (17, .agg (tc ePoint aC.At))], [(4, .box [vs (ByteArray.mk #[]), vi 0, vi 0])]⟩ ?_
  obtain ⟨x2, hx2, h⟩ := bind_some h
  refine DGo.step (xc ents132 (impl_countSatisfied_run aQ.sites aQ.descriptions aC.At _ hx2)) ?_
  refine DGo.step (x_lstep_build (v := .agg [vs aC.Code, vi x1, vi x2]) tbok rfl) ?_
  refine DGo.seq (by kernel_rfl) (by kernel_rfl) ?_
  refine ckn tbok 1 ⟨20, [(4, .ref 4 0)], [(4, .box [vs aC.Code, vi x1, vi x2])]⟩ ?_
  refine swp_ret ?_
  obtain rfl := inj h
  exact q_fr (f1 (fc tbok))
theorem ents83 : Ents Tryz.prog 83 := ents_of Tryz.func83 (by kernel_rfl) rfl
noncomputable def bits_Len32 (aX : Int) : Option (Int) :=
  (((bif (decide (aX ≥ 65536)) then some ((Int.fdiv aX (2 ^ 16)), 16) else some (aX, 0))).bind fun (j1 : Int × Int) => (((bif (decide (j1.1 ≥ 256)) then some ((Int.fdiv j1.1 (2 ^ 8)), (w64 (j1.2 + 8))) else some (j1.1, j1.2))).bind fun (j3 : Int × Int) => ((byte' (ByteArray.mk #[0, 1, 2, 2, 3, 3, 3, 3, 4, 4, 4, 4, 4, 4, 4, 4, 5, 5, 5, 5, 5, 5, 5, 5, 5, 5, 5, 5, 5, 5, 5, 5, 6, 6, 6, 6, 6, 6, 6, 6, 6, 6, 6, 6, 6, 6, 6, 6, 6, 6, 6, 6, 6, 6, 6, 6, 6, 6, 6, 6, 6, 6, 6, 6, 7, 7, 7, 7, 7, 7, 7, 7, 7, 7, 7, 7, 7, 7, 7, 7, 7, 7, 7, 7, 7, 7, 7, 7, 7, 7, 7, 7, 7, 7, 7, 7, 7, 7, 7, 7, 7, 7, 7, 7, 7, 7, 7, 7, 7, 7, 7, 7, 7, 7, 7, 7, 7, 7, 7, 7, 7, 7, 7, 7, 7, 7, 7, 7, 8, 8, 8, 8, 8, 8, 8, 8, 8, 8, 8, 8, 8, 8, 8, 8, 8, 8, 8, 8, 8, 8, 8, 8, 8, 8, 8, 8, 8, 8, 8, 8, 8, 8, 8, 8, 8, 8, 8, 8, 8, 8, 8, 8, 8, 8, 8, 8, 8, 8, 8, 8, 8, 8, 8, 8, 8, 8, 8, 8, 8, 8, 8, 8, 8, 8, 8, 8, 8, 8, 8, 8, 8, 8, 8, 8, 8, 8, 8, 8, 8, 8, 8, 8, 8, 8, 8, 8, 8, 8, 8, 8, 8, 8, 8, 8, 8, 8, 8, 8, 8, 8, 8, 8, 8, 8, 8, 8, 8, 8, 8, 8, 8, 8, 8, 8, 8, 8, 8, 8, 8, 8, 8, 8, 8, 8, 8, 8]) (IntKind.wrap .u8 j3.1)).bind fun x5 => some (w64 (j3.2 + (w64 x5))))))
theorem bits_Len32_run (aX : Int) (r : Int) (h : bits_Len32 aX = some r) : SCall Tryz.prog 178 [.v (.tr (.int .u32 aX))] ⟨[.v (vi r)], [], false⟩ := by
  refine scall_in Tryz.func178 rfl [(.tmp 2)] rfl (fun r => ⟨[.v (vi r)], [], false⟩) (r := r) ?_
  unfold bits_Len32 at h
  refine srk tbok ⟨19, [(0, .tr (.int .u32 aX)), (2, vi 0)], []⟩ ?_
  refine swp_seq ?_
  refine srk tbok ⟨19, [(0, .tr (.int .u32 aX)), (2, vi 0), (4, vb (decide (aX ≥ 65536)))], []⟩ ?_
  refine swp_seqJ h (fun j1 => ⟨19, [(0, .tr (.int .u32 j1.1)), (2, vi j1.2)], []⟩) (fun v2 h => ?_) (fun j1 h => ?_)
  refine swp_cd h (fun h => ?_) fun h => ?_
  refine srk tbok ⟨19, [(0, .tr (.int .u32 (Int.fdiv aX (2 ^ 16))))], []⟩ ?_
  refine swp_reg ?_
  refine SRun.ck tbok 1 ⟨19, [(0, .tr (.int .u32 (Int.fdiv aX (2 ^ 16)))), (2, vi 16)], []⟩ ?_
  refine SRun.nil ?_
  obtain rfl := inj h
  exact q_j (Le.sub0)
  refine swp_skip ?_
  obtain rfl := inj h
  exact q_j (Le.sub0)
  refine swp_seq ?_
  refine srk tbok ⟨19, [(0, .tr (.int .u32 j1.1)), (2, vi j1.2), (8, vb (decide (j1.1 ≥ 256)))], []⟩ ?_
  refine swp_seqJ h (fun j3 => ⟨19, [(0, .tr (.int .u32 j3.1)), (2, vi j3.2)], []⟩) (fun v4 h => ?_) (fun j3 h => ?_)
  refine swp_cd h (fun h => ?_) fun h => ?_
  refine srk tbok ⟨19, [(0, .tr (.int .u32 (Int.fdiv j1.1 (2 ^ 8)))), (2, vi j1.2)], []⟩ ?_
  refine swp_reg ?_
  refine SRun.ck tbok 3 ⟨19, [(0, .tr (.int .u32 (Int.fdiv j1.1 (2 ^ 8)))), (2, vi (w64 (j1.2 + 8)))], []⟩ ?_
  refine SRun.nil ?_
  obtain rfl := inj h
  exact q_j (Le.sub0)
  refine swp_skip ?_
  obtain rfl := inj h
  exact q_j (Le.sub0)
  refine sr ?_
  refine SRun.ck tbok 3 ⟨19, [(13, vi j3.2), (15, .tr (.int .u8 (IntKind.wrap .u8 j3.1)))], []⟩ ?_
  obtain ⟨x5, hx5, h⟩ := bind_some h
  refine SRun.ls (x_byte (ti := ti9) (k := .u8) hx5 tbok rfl) ?_
  refine ckn tbok 3 ⟨19, [(2, vi (w64 (j3.2 + (w64 x5))))], []⟩ ?_
  refine swp_ret ?_
  obtain rfl := inj h
  exact q_fr (f1 fv)
theorem ents178 : Ents Tryz.prog 178 := ents_of Tryz.func178 (by kernel_rfl) rfl
noncomputable def bits_Len64 (aX : Int) : Option (Int) :=
  (((bif (decide (aX ≥ 4294967296)) then some ((Int.fdiv aX (2 ^ 32)), 32) else some (aX, 0))).bind fun (j1 : Int × Int) => (((bif (decide (j1.1 ≥ 65536)) then some ((Int.fdiv j1.1 (2 ^ 16)), (w64 (j1.2 + 16))) else some (j1.1, j1.2))).bind fun (j3 : Int × Int) => (((bif (decide (j3.1 ≥ 256)) then some ((Int.fdiv j3.1 (2 ^ 8)), (w64 (j3.2 + 8))) else some (j3.1, j3.2))).bind fun (j5 : Int × Int) => ((byte' (ByteArray.mk #[0, 1, 2, 2, 3, 3, 3, 3, 4, 4, 4, 4, 4, 4, 4, 4, 5, 5, 5, 5, 5, 5, 5, 5, 5, 5, 5, 5, 5, 5, 5, 5, 6, 6, 6, 6, 6, 6, 6, 6, 6, 6, 6, 6, 6, 6, 6, 6, 6, 6, 6, 6, 6, 6, 6, 6, 6, 6, 6, 6, 6, 6, 6, 6, 7, 7, 7, 7, 7, 7, 7, 7, 7, 7, 7, 7, 7, 7, 7, 7, 7, 7, 7, 7, 7, 7, 7, 7, 7, 7, 7, 7, 7, 7, 7, 7, 7, 7, 7, 7, 7, 7, 7, 7, 7, 7, 7, 7, 7, 7, 7, 7, 7, 7, 7, 7, 7, 7, 7, 7, 7, 7, 7, 7, 7, 7, 7, 7, 8, 8, 8, 8, 8, 8, 8, 8, 8, 8, 8, 8, 8, 8, 8, 8, 8, 8, 8, 8, 8, 8, 8, 8, 8, 8, 8, 8, 8, 8, 8, 8, 8, 8, 8, 8, 8, 8, 8, 8, 8, 8, 8, 8, 8, 8, 8, 8, 8, 8, 8, 8, 8, 8, 8, 8, 8, 8, 8, 8, 8, 8, 8, 8, 8, 8, 8, 8, 8, 8, 8, 8, 8, 8, 8, 8, 8, 8, 8, 8, 8, 8, 8, 8, 8, 8, 8, 8, 8, 8, 8, 8, 8, 8, 8, 8, 8, 8, 8, 8, 8, 8, 8, 8, 8, 8, 8, 8, 8, 8, 8, 8, 8, 8, 8, 8, 8, 8, 8, 8, 8, 8, 8, 8, 8, 8, 8, 8]) (IntKind.wrap .u8 j5.1)).bind fun x7 => some (w64 (j5.2 + (w64 x7)))))))
theorem bits_Len64_run (aX : Int) (r : Int) (h : bits_Len64 aX = some r) : SCall Tryz.prog 179 [.v (.tr (.int .u64 aX))] ⟨[.v (vi r)], [], false⟩ := by
  refine scall_in Tryz.func179 rfl [(.tmp 2)] rfl (fun r => ⟨[.v (vi r)], [], false⟩) (r := r) ?_
  unfold bits_Len64 at h
  refine srk tbok ⟨25, [(0, .tr (.int .u64 aX)), (2, vi 0)], []⟩ ?_
  refine swp_seq ?_
  refine srk tbok ⟨25, [(0, .tr (.int .u64 aX)), (2, vi 0), (4, vb (decide (aX ≥ 4294967296)))], []⟩ ?_
  refine swp_seqJ h (fun j1 => ⟨25, [(0, .tr (.int .u64 j1.1)), (2, vi j1.2)], []⟩) (fun v2 h => ?_) (fun j1 h => ?_)
  refine swp_cd h (fun h => ?_) fun h => ?_
  refine srk tbok ⟨25, [(0, .tr (.int .u64 (Int.fdiv aX (2 ^ 32))))], []⟩ ?_
  refine swp_reg ?_
  refine SRun.ck tbok 1 ⟨25, [(0, .tr (.int .u64 (Int.fdiv aX (2 ^ 32)))), (2, vi 32)], []⟩ ?_
  refine SRun.nil ?_
  obtain rfl := inj h
  exact q_j (Le.sub0)
  refine swp_skip ?_
  obtain rfl := inj h
  exact q_j (Le.sub0)
  refine swp_seq ?_
  refine srk tbok ⟨25, [(0, .tr (.int .u64 j1.1)), (2, vi j1.2), (8, vb (decide (j1.1 ≥ 65536)))], []⟩ ?_
  refine swp_seqJ h (fun j3 => ⟨25, [(0, .tr (.int .u64 j3.1)), (2, vi j3.2)], []⟩) (fun v4 h => ?_) (fun j3 h => ?_)
  refine swp_cd h (fun h => ?_) fun h => ?_
  refine srk tbok ⟨25, [(0, .tr (.int .u64 (Int.fdiv j1.1 (2 ^ 16)))), (2, vi j1.2)], []⟩ ?_
  refine swp_reg ?_
  refine SRun.ck tbok 3 ⟨25, [(0, .tr (.int .u64 (Int.fdiv j1.1 (2 ^ 16)))), (2, vi (w64 (j1.2 + 16)))], []⟩ ?_
  refine SRun.nil ?_
  obtain rfl := inj h
  exact q_j (Le.sub0)
  refine swp_skip ?_
  obtain rfl := inj h
  exact q_j (Le.sub0)
  refine swp_seq ?_
  refine srk tbok ⟨25, [(0, .tr (.int .u64 j3.1)), (2, vi j3.2), (14, vb (decide (j3.1 ≥ 256)))], []⟩ ?_
  refine swp_seqJ h (fun j5 => ⟨25, [(0, .tr (.int .u64 j5.1)), (2, vi j5.2)], []⟩) (fun v6 h => ?_) (fun j5 h => ?_)
  refine swp_cd h (fun h => ?_) fun h => ?_
  refine srk tbok ⟨25, [(0, .tr (.int .u64 (Int.fdiv j3.1 (2 ^ 8)))), (2, vi j3.2)], []⟩ ?_
  refine swp_reg ?_
  refine SRun.ck tbok 3 ⟨25, [(0, .tr (.int .u64 (Int.fdiv j3.1 (2 ^ 8)))), (2, vi (w64 (j3.2 + 8)))], []⟩ ?_
  refine SRun.nil ?_
  obtain rfl := inj h
  exact q_j (Le.sub0)
  refine swp_skip ?_
  obtain rfl := inj h
  exact q_j (Le.sub0)
  refine sr ?_
  refine SRun.ck tbok 3 ⟨25, [(19, vi j5.2), (21, .tr (.int .u8 (IntKind.wrap .u8 j5.1)))], []⟩ ?_
  obtain ⟨x7, hx7, h⟩ := bind_some h
  refine SRun.ls (x_byte (ti := ti9) (k := .u8) hx7 tbok rfl) ?_
  refine ckn tbok 3 ⟨25, [(2, vi (w64 (j5.2 + (w64 x7))))], []⟩ ?_
  refine swp_ret ?_
  obtain rfl := inj h
  exact q_fr (f1 fv)
theorem ents179 : Ents Tryz.prog 179 := ents_of Tryz.func179 (by kernel_rfl) rfl
noncomputable def bits_Len (aX : Int) : Option (Int) :=
  (bif false then ((bits_Len32 (IntKind.wrap .u32 aX)).bind fun x1 => some x1) else ((bits_Len64 aX).bind fun x2 => some x2))
theorem bits_Len_run (aX : Int) (r : Int) (h : bits_Len aX = some r) : SCall Tryz.prog 152 [.v (.tr (.int .u64 aX))] ⟨[.v (vi r)], [], false⟩ := by
  refine scall_in Tryz.func152 rfl [(.tmp 2)] rfl (fun r => ⟨[.v (vi r)], [], false⟩) (r := r) ?_
  unfold bits_Len at h
  refine srk tbok ⟨8, [(0, .tr (.int .u64 aX))], []⟩ ?_
  refine swp_seq ?_
  refine swp_cd h (fun h => ?_) fun h => ?_
  refine sr ?_
  refine SRun.ck tbok 2 ⟨8, [(4, .tr (.int .u32 (IntKind.wrap .u32 aX)))], []⟩ ?_
  obtain ⟨x1, hx1, h⟩ := bind_some h
  refine SRun.ls (xc ents178 (bits_Len32_run (IntKind.wrap .u32 aX) _ hx1)) ?_
  refine ckn tbok 1 ⟨8, [(2, vi x1)], []⟩ ?_
  refine swp_ret ?_
  obtain rfl := inj h
  exact nx_r (q_fr (f1 fv))
  refine swp_skip ?_
  refine nx_n ?_
  refine sr ?_
  refine SRun.ck tbok 1 ⟨8, [(6, .tr (.int .u64 aX))], []⟩ ?_
  obtain ⟨x2, hx2, h⟩ := bind_some h
  refine SRun.ls (xc ents179 (bits_Len64_run aX _ hx2)) ?_
  refine ckn tbok 1 ⟨8, [(2, vi x2)], []⟩ ?_
  refine swp_ret ?_
  obtain rfl := inj h
  exact q_fr (f1 fv)
theorem ents152 : Ents Tryz.prog 152 := ents_of Tryz.func152 (by kernel_rfl) rfl
noncomputable def cmp_isNaN_int64 (aX : Int) : Option (Bool) :=
  some (aX != aX)
theorem cmp_isNaN_int64_run (aX : Int) (r : Bool) (h : cmp_isNaN_int64 aX = some r) : SCall Tryz.prog 161 [.v (vi aX)] ⟨[.v (vb r)], [], false⟩ := by
  refine scall_in Tryz.func161 rfl [(.tmp 2)] rfl (fun r => ⟨[.v (vb r)], [], false⟩) (r := r) ?_
  unfold cmp_isNaN_int64 at h
  refine srk tbok ⟨6, [(0, vi aX)], []⟩ ?_
  refine srk tbok ⟨6, [(2, vb (aX != aX))], []⟩ ?_
  refine swp_ret ?_
  obtain rfl := inj h
  exact q_fr (f1 fv)
theorem ents161 : Ents Tryz.prog 161 := ents_of Tryz.func161 (by kernel_rfl) rfl
noncomputable def cmp_Compare_int64 (aX : Int) (aY : Int) : Option (Int) :=
  ((cmp_isNaN_int64 aX).bind fun x1 => ((cmp_isNaN_int64 aY).bind fun x2 => (bif x1 then (bif x2 then some 0 else some (-1)) else (bif x2 then some 1 else (bif (decide (aX < aY)) then some (-1) else (bif (decide (aX > aY)) then some 1 else some 0))))))
theorem cmp_Compare_int64_run (aX : Int) (aY : Int) (r : Int) (h : cmp_Compare_int64 aX aY = some r) : SCall Tryz.prog 128 [.v (vi aX), .v (vi aY)] ⟨[.v (vi r)], [], false⟩ := by
  refine scall_in Tryz.func128 rfl [(.tmp 4)] rfl (fun r => ⟨[.v (vi r)], [], false⟩) (r := r) ?_
  unfold cmp_Compare_int64 at h
  refine srk tbok ⟨20, [(0, vi aX), (1, vi aY)], []⟩ ?_
  refine sr ?_
  refine SRun.ck tbok 1 ⟨20, [(0, vi aX), (1, vi aY), (7, vi aX)], []⟩ ?_
  obtain ⟨x1, hx1, h⟩ := bind_some h
  refine SRun.ls (xc ents161 (cmp_isNaN_int64_run aX _ hx1)) ?_
  refine ckn tbok 1 ⟨20, [(0, vi aX), (1, vi aY), (5, vb x1)], []⟩ ?_
  refine sr ?_
  refine SRun.ck tbok 1 ⟨20, [(0, vi aX), (1, vi aY), (5, vb x1), (9, vi aY)], []⟩ ?_
  obtain ⟨x2, hx2, h⟩ := bind_some h
  refine SRun.ls (xc ents161 (cmp_isNaN_int64_run aY _ hx2)) ?_
  refine ckn tbok 1 ⟨20, [(0, vi aX), (1, vi aY), (5, vb x1), (6, vb x2)], []⟩ ?_
  refine swp_seq ?_
  refine srk tbok ⟨20, [(0, vi aX), (1, vi aY), (6, vb x2), (11, vb x1)], []⟩ ?_
  refine swp_cd h (fun h => ?_) fun h => ?_
  refine swp_seq ?_
  refine srk tbok ⟨20, [(12, vb x2)], []⟩ ?_
  refine swp_cd h (fun h => ?_) fun h => ?_
  refine srk tbok ⟨20, [(4, vi 0)], []⟩ ?_
  refine swp_ret ?_
  obtain rfl := inj h
  exact nx_r (nx_r (q_fr (f1 fv)))
  refine swp_skip ?_
  refine nx_n ?_
  refine srk tbok ⟨20, [(4, vi (-1))], []⟩ ?_
  refine swp_ret ?_
  obtain rfl := inj h
  exact nx_r (q_fr (f1 fv))
  refine swp_skip ?_
  refine nx_n ?_
  refine swp_seq ?_
  refine srk tbok ⟨20, [(0, vi aX), (1, vi aY), (13, vb x2)], []⟩ ?_
  refine swp_cd h (fun h => ?_) fun h => ?_
  refine srk tbok ⟨20, [(4, vi 1)], []⟩ ?_
  refine swp_ret ?_
  obtain rfl := inj h
  exact nx_r (q_fr (f1 fv))
  refine swp_skip ?_
  refine nx_n ?_
  refine swp_seq ?_
  refine srk tbok ⟨20, [(0, vi aX), (1, vi aY), (16, vb (decide (aX < aY)))], []⟩ ?_
  refine swp_cd h (fun h => ?_) fun h => ?_
  refine srk tbok ⟨20, [(4, vi (-1))], []⟩ ?_
  refine swp_ret ?_
  obtain rfl := inj h
  exact nx_r (q_fr (f1 fv))
  refine swp_skip ?_
  refine nx_n ?_
  refine swp_seq ?_
  refine srk tbok ⟨20, [(19, vb (decide (aX > aY)))], []⟩ ?_
  refine swp_cd h (fun h => ?_) fun h => ?_
  refine srk tbok ⟨20, [(4, vi 1)], []⟩ ?_
  refine swp_ret ?_
  obtain rfl := inj h
  exact nx_r (q_fr (f1 fv))
  refine swp_skip ?_
  refine nx_n ?_
  refine srk tbok ⟨20, [(4, vi 0)], []⟩ ?_
  refine swp_ret ?_
  obtain rfl := inj h
  exact q_fr (f1 fv)
theorem ents128 : Ents Tryz.prog 128 := ents_of Tryz.func128 (by kernel_rfl) rfl
noncomputable def cmp_Or_int (aVals : (List Int)) : Option (Int) :=
  (((forN (aVals.length : Int) (fun (i3 : Int) (_ : Unit) => ((at' aVals i3).bind fun x7 => (bif (x7 != 0) then some (.inr (.inr x7)) else some (.inl ())))) (fun (_ : Unit) => .inl ()) 0 ())).bind (Sum.elim (fun (_ : Unit) => some 0) some))
theorem cmp_Or_int_run (aVals : (List Int)) (r : Int) (h : cmp_Or_int aVals = some r) : SCall Tryz.prog 127 [.v (vl (eI .i64) aVals)] ⟨[.v (vi r)], [], false⟩ := by
  refine scall_in Tryz.func127 rfl [(.tmp 2)] rfl (fun r => ⟨[.v (vi r)], [], false⟩) (r := r) ?_
  unfold cmp_Or_int at h
  refine srk tbok ⟨18, [(0, vl (eI .i64) aVals)], []⟩ ?_
  refine srk tbok ⟨18, [(0, vl (eI .i64) aVals), (3, vi 0)], []⟩ ?_
  refine swp_seq ?_
  refine srk tbok ⟨18, [(3, vi 0), (6, vl (eI .i64) aVals), (7, vi (aVals.length : Int)), (8, vi 0)], []⟩ ?_
  refine swp_seqE (r := r) h (fun j1 => ⟨18, [(3, vi 0)], []⟩) (fun v2 h => ?_) (fun j1 h => ?_)
  refine swp_blk (a := v2) ?_
  refine swp_lpL (r := v2) (s := (0, ())) _ (fun s3 => ⟨18, [(3, vi 0), (6, vl (eI .i64) aVals), (7, vi (aVals.length : Int)), (8, vi s3.1)], []⟩) _ (Le.sub0) h (fun s3 v4 h => ?_)
  refine srk tbok ⟨18, [(3, vi 0), (6, vl (eI .i64) aVals), (7, vi (aVals.length : Int)), (8, vi s3.1), (9, vb (decide (s3.1 < (aVals.length : Int))))], []⟩ ?_
  refine swp_seq ?_
  refine swp_cd h (fun h => ?_) fun h => ?_
  refine swp_skip ?_
  refine nx_n ?_
  refine swp_seq ?_
  refine swp_seqL (r := v4) h (fun j5 => ⟨18, [(3, vi 0), (6, vl (eI .i64) aVals), (7, vi (aVals.length : Int)), (8, vi s3.1)], []⟩) (fun v6 h => ?_) (fun j5 h => ?_)
  refine swp_blk (a := v6) ?_
  refine sr ?_
  obtain ⟨x7, hx7, h⟩ := bind_some h
  refine SRun.ls (x_index (L := aVals) (f := (eI .i64)) (ti := ti183) (tj := ti3) (e := 3) (k := .i64) tbok rfl hx7) ?_
  refine ckn tbok 2 ⟨18, [(3, vi 0), (5, vi x7), (6, vl (eI .i64) aVals), (7, vi (aVals.length : Int)), (8, vi s3.1)], []⟩ ?_
  refine srk tbok ⟨18, [(3, vi 0), (5, vi x7), (6, vl (eI .i64) aVals), (7, vi (aVals.length : Int)), (8, vi s3.1), (14, vb (x7 != 0))], []⟩ ?_
  refine swp_cd h (fun h => ?_) fun h => ?_
  refine srk tbok ⟨18, [(2, vi x7)], []⟩ ?_
  refine swp_ret ?_
  obtain rfl := inj h
  exact q_br (q_rr (q_rr (q_br (q_rr (q_fr (f1 fv))))))
  refine swp_skip ?_
  obtain rfl := inj h
  exact q_bn (q_l (Le.sub0))
  refine swp_reg ?_
  refine SRun.ck tbok 2 ⟨18, [(3, vi 0), (6, vl (eI .i64) aVals), (7, vi (aVals.length : Int)), (8, vi (w64 (s3.1 + 1)))], []⟩ ?_
  refine SRun.nil ?_
  obtain rfl := inj h
  exact q_l (Le.sub0)
  refine swp_exit ?_
  obtain rfl := inj h
  exact nx_e (q_re (q_bh (q_l (Le.sub0))))
  refine srk tbok ⟨18, [(2, vi 0)], []⟩ ?_
  refine swp_ret ?_
  obtain rfl := inj h
  exact q_fr (f1 fv)
theorem ents127 : Ents Tryz.prog 127 := ents_of Tryz.func127 (by kernel_rfl) rfl
noncomputable def impl_question_answers_1 (aA : Answer) (aB : Answer) : Option (Int) :=
  ((cmp_Compare_int64 (w64 ((w64 (10 * aB.Satisfied)) - aB.Distance)) (w64 ((w64 (10 * aA.Satisfied)) - aA.Distance))).bind fun x1 => ((strings_Compare aA.Code aB.Code).bind fun x2 => ((cmp_Or_int ([x1, x2] : List Int)).bind fun x3 => some x3)))
theorem impl_question_answers_1_run (aA : Answer) (aB : Answer) (r : Int) (h : impl_question_answers_1 aA aB = some r) : SCall Tryz.prog 126 [.v (.agg (tc eAnswer aA)), .v (.agg (tc eAnswer aB))] ⟨[.v (vi r)], [], false⟩ := by
  refine scall_in Tryz.func126 rfl [(.tmp 4)] rfl (fun r => ⟨[.v (vi r)], [], false⟩) (r := r) ?_
  unfold impl_question_answers_1 at h
  refine srk tbok ⟨25, [(2, .ref 2 0), (3, .ref 3 0)], [(2, .box (tc eAnswer aA)), (3, .box (tc eAnswer aB))]⟩ ?_
  refine swp_seq ?_
  refine swp_dr mixed ?_
  refine DGo.ck tbok false 12 ⟨25, [(2, .ref 2 0), (3, .ref 3 0), (10, vi (w64 ((w64 (10 * aB.Satisfied)) - aB.Distance))), (16, vi (w64 ((w64 (10 * aA.Satisfied)) - aA.Distance)))], [(2, .box (tc eAnswer aA)), (3, .box (tc eAnswer aB))]⟩ ?_
  obtain ⟨x1, hx1, h⟩ := bind_some h
  refine DGo.step (xc ents128 (cmp_Compare_int64_run (w64 ((w64 (10 * aB.Satisfied)) - aB.Distance)) (w64 ((w64 (10 * aA.Satisfied)) - aA.Distance)) _ hx1)) ?_
  refine DGo.ck tbok false 4 ⟨25, [(17, vi x1), (19, vs aA.Code), (21, vs aB.Code)], []⟩ ?_
  obtain ⟨x2, hx2, h⟩ := bind_some h
  refine DGo.step (xc ents129 (strings_Compare_run aA.Code aB.Code _ hx2)) ?_
  refine DGo.ck tbok false 1 ⟨25, [(23, .own 23)], [(23, oa 3 1 (eI .i64) ([x1, x2] : List Int))]⟩ ?_
  obtain ⟨x3, hx3, h⟩ := bind_some h
  refine DGo.stepW false [23] (xc ents127 (cmp_Or_int_run ([x1, x2] : List Int) _ hx3)) ?_
  refine DGo.ck tbok false 1 ⟨25, [(4, vi x3)], []⟩ ?_
  refine DGo.nx ?_
  refine swp_ret ?_
  obtain rfl := inj h
  exact q_fr (f1 fv)
theorem ents126 : Ents Tryz.prog 126 := ents_of Tryz.func126 (by kernel_rfl) rfl
end Go.Proofs.YtodgenjlhiiieaaGreatDoor.Sh
