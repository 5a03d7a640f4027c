/- Typed functions and the calls that do what they say. -/
import Derived.Test.YtodgenjlhiiieaaGreatDoorGAp0
import Derived.Test.YtodgenjlhiiieaaGreatDoorKA
import Derived.Test.YtodgenjlhiiieaaGreatDoorKC
import Derived.Test.YtodgenjlhiiieaaGreatDoorKF
import Derived.Test.YtodgenjlhiiieaaGreatDoorKS
import Derived.Test.YtodgenjlhiiieaaGreatDoorSN
import Derived.Test.YtodgenjlhiiieaaGreatDoorH1
namespace Go.Proofs.YtodgenjlhiiieaaGreatDoor.Sh
open Go.RowKit
set_option maxRecDepth 100000
set_option maxHeartbeats 4000000
noncomputable def impl_isBetween (aA : Point) (aB : Point) (aP : Point) : Option (Bool) :=
  (bif ((aA.X == aB.X) && (aA.Y == aB.Y)) then some ((aP.X == aA.X) && (aP.Y == aA.Y)) else ((((impl_squared aA aB).bind fun x1 => ((impl_within (w64 ((w64 ((w64 (aP.X - aA.X)) * (w64 (aB.X - aA.X)))) + (w64 ((w64 (aP.Y - aA.Y)) * (w64 (aB.Y - aA.Y)))))) 0 x1).bind fun x2 => (bif x2 then ((impl_turn aA aB aP).bind fun x3 => ((impl_abs x3).bind fun x4 => ((impl_squared aA aB).bind fun x5 => some (decide ((w64 (4 * x4)) ≤ x5))))) else some false)))).bind fun (j6 : Bool) => some j6))
theorem impl_isBetween_run (aA : Point) (aB : Point) (aP : Point) (r : Bool) (h : impl_isBetween aA aB aP = some r) : SCall Tryz.prog 110 [.v (.agg (tc ePoint aA)), .v (.agg (tc ePoint aB)), .v (.agg (tc ePoint aP))] ⟨[.v (vb r)], [], false⟩ := by
  refine scall_in Tryz.func110 rfl [(.tmp 6)] rfl (fun r => ⟨[.v (vb r)], [], false⟩) (r := r) ?_
  unfold impl_isBetween at h
  refine srk tbok ⟨54, [(3, .ref 3 0), (4, .ref 4 0), (5, .ref 5 0)], [(3, .box (tc ePoint aA)), (4, .box (tc ePoint aB)), (5, .box (tc ePoint aP))]⟩ ?_
  refine swp_seq ?_
  refine sr ?_
  refine SRun.ck tbok 2 ⟨54, [(3, .ref 3 0), (4, .ref 4 0), (5, .ref 5 0), (8, .agg (tc ePoint aA)), (9, .agg (tc ePoint aB))], [(3, .box (tc ePoint aA)), (4, .box (tc ePoint aB)), (5, .box (tc ePoint aP))]⟩ ?_
  refine SRun.ls (x_lstep_eq tbok false (xs := [vi aA.X, vi aA.Y]) (ys := [vi aB.X, vi aB.Y]) (b := ((aA.X == aB.X) && (aA.Y == aB.Y))) rfl) ?_
  refine SRun.nx ?_
  refine swp_cd h (fun h => ?_) fun h => ?_
  refine sr ?_
  refine SRun.ck tbok 2 ⟨54, [(11, .agg (tc ePoint aP)), (12, .agg (tc ePoint aA))], []⟩ ?_
  refine SRun.ls (x_lstep_eq tbok false (xs := [vi aP.X, vi aP.Y]) (ys := [vi aA.X, vi aA.Y]) (b := ((aP.X == aA.X) && (aP.Y == aA.Y))) rfl) ?_
  refine ckn tbok 1 ⟨54, [(6, vb ((aP.X == aA.X) && (aP.Y == aA.Y)))], []⟩ ?_
  refine swp_ret ?_
  obtain rfl := inj h
  exact nx_r (q_fr (f1 fv))
  refine swp_skip ?_
  refine nx_n ?_
  refine srk tbok ⟨54, [(3, .ref 3 0), (4, .ref 4 0), (5, .ref 5 0), (7, vi (w64 ((w64 ((w64 (aP.X - aA.X)) * (w64 (aB.X - aA.X)))) + (w64 ((w64 (aP.Y - aA.Y)) * (w64 (aB.Y - aA.Y)))))))], [(3, .box (tc ePoint aA)), (4, .box (tc ePoint aB)), (5, .box (tc ePoint aP))]⟩ ?_
  refine swp_seq ?_
  refine swp_drJ mixed h (fun j6 => ⟨54, [(6, vb j6)], []⟩) (fun v7 h => ?_) (fun j6 h => ?_)
  refine DGo.ck tbok false 3 ⟨54, [(3, .ref 3 0), (4, .ref 4 0), (5, .ref 5 0), (37, vi (w64 ((w64 ((w64 (aP.X - aA.X)) * (w64 (aB.X - aA.X)))) + (w64 ((w64 (aP.Y - aA.Y)) * (w64 (aB.Y - aA.Y))))))), (38, .agg (tc ePoint aA)), (39, .agg (tc ePoint aB))], [(3, .box (tc ePoint aA)), (4, .box (tc ePoint aB)), (5, .box (tc ePoint aP))]⟩ ?_
  obtain ⟨x1, hx1, h⟩ := bind_some h
  refine DGo.step (xc ents108 (impl_squared_run aA aB _ hx1)) ?_
  obtain ⟨x2, hx2, h⟩ := bind_some h
  refine DGo.step (xc ents135 (impl_within_run (w64 ((w64 ((w64 (aP.X - aA.X)) * (w64 (aB.X - aA.X)))) + (w64 ((w64 (aP.Y - aA.Y)) * (w64 (aB.Y - aA.Y)))))) 0 x1 _ hx2)) ?_
  refine DGo.ck tbok false 1 ⟨54, [(3, .ref 3 0), (4, .ref 4 0), (5, .ref 5 0), (42, vb x2)], [(3, .box (tc ePoint aA)), (4, .box (tc ePoint aB)), (5, .box (tc ePoint aP))]⟩ ?_
  refine DGo.cu [(42, fun b => b)] h (fun h => ?_) fun h => ?_
  refine DGo.ck tbok false 3 ⟨54, [(3, .ref 3 0), (4, .ref 4 0), (42, vb true), (43, .agg (tc ePoint aA)), (44, .agg (tc ePoint aB)), (45, .agg (tc ePoint aP))], [(3, .box (tc ePoint aA)), (4, .box (tc ePoint aB))]⟩ ?_
  obtain ⟨x3, hx3, h⟩ := bind_some h
  refine DGo.step (xc ents147 (impl_turn_run aA aB aP _ hx3)) ?_
  obtain ⟨x4, hx4, h⟩ := bind_some h
  refine DGo.step (xc ents146 (impl_abs_run x3 _ hx4)) ?_
  refine DGo.ck tbok false 3 ⟨54, [(42, vb true), (48, vi (w64 (4 * x4))), (49, .agg (tc ePoint aA)), (50, .agg (tc ePoint aB))], []⟩ ?_
  obtain ⟨x5, hx5, h⟩ := bind_some h
  refine DGo.step (xc ents108 (impl_squared_run aA aB _ hx5)) ?_
  refine DGo.ck tbok false 3 ⟨54, [(6, vb (decide ((w64 (4 * x4)) ≤ x5)))], []⟩ ?_
  refine DGo.nil (by kernel_rfl) ?_
  obtain rfl := inj h
  exact Le.sub0
  refine DGo.ck tbok false 12 ⟨54, [(6, vb false)], []⟩ ?_
  refine DGo.nil (by kernel_rfl) ?_
  obtain rfl := inj h
  exact Le.sub0
  refine swp_ret ?_
  obtain rfl := inj h
  exact q_fr (f1 fv)
theorem ents110 : Ents Tryz.prog 110 := ents_of Tryz.func110 (by kernel_rfl) rfl
noncomputable def impl_satisfies (aList : (List Site)) (aD : Description) (aP : Point) : Option (Bool) :=
  ((impl_findSite aList aD.A).bind fun x1 => (((bif (aD.Kind == 0) then some (.inr ((aP.X == x1.1.X) && (aP.Y == x1.1.Y))) else (bif (aD.Kind == 1) then ((impl_squared x1.1 aP).bind fun x4 => some (.inr (decide (x4 ≤ 64)))) else (bif (aD.Kind == 2) then ((impl_Description_isFrom aD x1.1 aP).bind fun x5 => some (.inr x5)) else some (.inl ()))))).bind (Sum.elim (fun (_ : Unit) => ((impl_findSite aList aD.B).bind fun x6 => ((impl_isBetween x1.1 x6.1 aP).bind fun x7 => some x7))) some)))
theorem impl_satisfies_run (aList : (List Site)) (aD : Description) (aP : Point) (r : Bool) (h : impl_satisfies aList aD aP = some r) : SCall Tryz.prog 60 [.v (vl eSite aList), .v (.agg (tc eDescription aD)), .v (.agg (tc ePoint aP))] ⟨[.v (vb r)], [], false⟩ := by
  refine scall_in Tryz.func60 rfl [(.tmp 6)] rfl (fun r => ⟨[.v (vb r)], [], false⟩) (r := r) ?_
  unfold impl_satisfies at h
  refine srk tbok ⟨48, [(0, vl eSite aList), (4, .ref 4 0), (5, .ref 5 0)], [(4, .box (tc eDescription aD)), (5, .box (tc ePoint aP))]⟩ ?_
  refine sr ?_
  refine SRun.ck tbok 3 ⟨48, [(0, vl eSite aList), (4, .ref 4 0), (5, .ref 5 0), (12, vl eSite aList), (14, vs aD.A)], [(4, .box (tc eDescription aD)), (5, .box (tc ePoint aP))]⟩ ?_
  obtain ⟨x1, hx1, h⟩ := bind_some h
  refine SRun.ls (xc ents105 (impl_findSite_run aList aD.A _ hx1)) ?_
  refine ckn tbok 6 ⟨48, [(0, vl eSite aList), (4, .ref 4 0), (5, .ref 5 0), (7, .ref 7 0)], [(4, .box (tc eDescription aD)), (5, .box (tc ePoint aP)), (7, .box (tc ePoint x1.1))]⟩ ?_
  refine swp_seq ?_
  refine srk tbok ⟨48, [(0, vl eSite aList), (4, .ref 4 0), (5, .ref 5 0), (7, .ref 7 0), (19, vi aD.Kind)], [(4, .box (tc eDescription aD)), (5, .box (tc ePoint aP)), (7, .box (tc ePoint x1.1))]⟩ ?_
  refine swp_seqE (r := r) h (fun j2 => ⟨48, [(0, vl eSite aList), (4, .ref 4 0), (5, .ref 5 0), (7, .ref 7 0)], [(4, .box (tc eDescription aD)), (5, .box (tc ePoint aP)), (7, .box (tc ePoint x1.1))]⟩) (fun v3 h => ?_) (fun j2 h => ?_)
  refine swp_blk (a := v3) ?_
  refine srk tbok ⟨48, [(0, vl eSite aList), (4, .ref 4 0), (5, .ref 5 0), (7, .ref 7 0), (19, vi aD.Kind), (20, vb (aD.Kind == 0))], [(4, .box (tc eDescription aD)), (5, .box (tc ePoint aP)), (7, .box (tc ePoint x1.1))]⟩ ?_
  refine swp_cd h (fun h => ?_) fun h => ?_
  refine sr ?_
  refine SRun.ck tbok 2 ⟨48, [(22, .agg (tc ePoint aP)), (23, .agg (tc ePoint x1.1))], []⟩ ?_
  refine SRun.ls (x_lstep_eq tbok false (xs := [vi aP.X, vi aP.Y]) (ys := [vi x1.1.X, vi x1.1.Y]) (b := ((aP.X == x1.1.X) && (aP.Y == x1.1.Y))) rfl) ?_
  refine ckn tbok 1 ⟨48, [(6, vb ((aP.X == x1.1.X) && (aP.Y == x1.1.Y)))], []⟩ ?_
  refine swp_ret ?_
  obtain rfl := inj h
  exact q_br (q_rr (q_fr (f1 fv)))
  refine srk tbok ⟨48, [(0, vl eSite aList), (4, .ref 4 0), (5, .ref 5 0), (7, .ref 7 0), (19, vi aD.Kind), (25, vb (aD.Kind == 1))], [(4, .box (tc eDescription aD)), (5, .box (tc ePoint aP)), (7, .box (tc ePoint x1.1))]⟩ ?_
  refine swp_cd h (fun h => ?_) fun h => ?_
  refine sr ?_
  refine SRun.ck tbok 2 ⟨48, [(27, .agg (tc ePoint x1.1)), (28, .agg (tc ePoint aP))], []⟩ ?_
  obtain ⟨x4, hx4, h⟩ := bind_some h
  refine SRun.ls (xc ents108 (impl_squared_run x1.1 aP _ hx4)) ?_
  refine ckn tbok 2 ⟨48, [(6, vb (decide (x4 ≤ 64)))], []⟩ ?_
  refine swp_ret ?_
  obtain rfl := inj h
  exact q_br (q_rr (q_fr (f1 fv)))
  refine srk tbok ⟨48, [(0, vl eSite aList), (4, .ref 4 0), (5, .ref 5 0), (7, .ref 7 0), (31, vb (aD.Kind == 2))], [(4, .box (tc eDescription aD)), (5, .box (tc ePoint aP)), (7, .box (tc ePoint x1.1))]⟩ ?_
  refine swp_cd h (fun h => ?_) fun h => ?_
  refine sr ?_
  refine SRun.ck tbok 3 ⟨48, [(33, .agg (tc eDescription aD)), (34, .agg (tc ePoint x1.1)), (35, .agg (tc ePoint aP))], []⟩ ?_
  obtain ⟨x5, hx5, h⟩ := bind_some h
  refine SRun.ls (xc ents109 (impl_Description_isFrom_run aD x1.1 aP _ hx5)) ?_
  refine ckn tbok 1 ⟨48, [(6, vb x5)], []⟩ ?_
  refine swp_ret ?_
  obtain rfl := inj h
  exact q_br (q_rr (q_fr (f1 fv)))
  refine swp_skip ?_
  obtain rfl := inj h
  exact q_bn (q_l (Le.sub0))
  refine sr ?_
  refine SRun.ck tbok 3 ⟨48, [(5, .ref 5 0), (7, .ref 7 0), (38, vl eSite aList), (40, vs aD.B)], [(5, .box (tc ePoint aP)), (7, .box (tc ePoint x1.1))]⟩ ?_
  obtain ⟨x6, hx6, h⟩ := bind_some h
  refine SRun.ls (xc ents105 (impl_findSite_run aList aD.B _ hx6)) ?_
  refine ckn tbok 6 ⟨48, [(5, .ref 5 0), (7, .ref 7 0), (9, .ref 9 0)], [(5, .box (tc ePoint aP)), (7, .box (tc ePoint x1.1)), (9, .box (tc ePoint x6.1))]⟩ ?_
  refine sr ?_
  refine SRun.ck tbok 3 ⟨48, [(44, .agg (tc ePoint x1.1)), (45, .agg (tc ePoint x6.1)), (46, .agg (tc ePoint aP))], []⟩ ?_
  obtain ⟨x7, hx7, h⟩ := bind_some h
  refine SRun.ls (xc ents110 (impl_isBetween_run x1.1 x6.1 aP _ hx7)) ?_
  refine ckn tbok 1 ⟨48, [(6, vb x7)], []⟩ ?_
  refine swp_ret ?_
  obtain rfl := inj h
  exact q_fr (f1 fv)
theorem ents60 : Ents Tryz.prog 60 := ents_of Tryz.func60 (by kernel_rfl) rfl
theorem strconv_FormatInt_run (n b : Int) (r : ByteArray) (h : strconv_FormatInt n b = some r) : SCall Tryz.prog 148 [.v (.tr (.int .i64 n)), .v (.tr (.int .i64 b))] ⟨[.v (.tr (.str r))], [], false⟩ := format_run Tryz.lays173 148 rfl n b r h
theorem ents148 : Ents Tryz.prog 148 := ents_of Tryz.func148 (by kernel_rfl) rfl
noncomputable def impl_decimal (aN : Int) : Option (ByteArray) :=
  ((strconv_FormatInt aN 10).bind fun x1 => some x1)
theorem impl_decimal_run (aN : Int) (r : ByteArray) (h : impl_decimal aN = some r) : SCall Tryz.prog 111 [.v (vi aN)] ⟨[.v (vs r)], [], false⟩ := by
  refine scall_in Tryz.func111 rfl [(.tmp 2)] rfl (fun r => ⟨[.v (vs r)], [], false⟩) (r := r) ?_
  unfold impl_decimal at h
  refine srk tbok ⟨5, [(0, vi aN)], []⟩ ?_
  refine sr ?_
  refine SRun.ck tbok 1 ⟨5, [(3, vi aN)], []⟩ ?_
  obtain ⟨x1, hx1, h⟩ := bind_some h
  refine SRun.ls (xc ents148 (strconv_FormatInt_run aN 10 _ hx1)) ?_
  refine ckn tbok 1 ⟨5, [(2, vs x1)], []⟩ ?_
  refine swp_ret ?_
  obtain rfl := inj h
  exact q_fr (f1 fv)
theorem ents111 : Ents Tryz.prog 111 := ents_of Tryz.func111 (by kernel_rfl) rfl
noncomputable def impl_descriptionText (aD : Description) : Option (ByteArray) :=
  (((bif (aD.Kind == 0) then ((cat' (ByteArray.mk #[97, 116, 32]) aD.A).bind fun x3 => some (.inr x3)) else (bif (aD.Kind == 1) then ((cat' (ByteArray.mk #[110, 101, 97, 114, 32]) aD.A).bind fun x4 => some (.inr x4)) else (bif (aD.Kind == 2) then ((impl_decimal aD.Count).bind fun x5 => ((cat' x5 (ByteArray.mk #[32])).bind fun x6 => ((cat' x6 aD.Unit).bind fun x7 => ((cat' x7 (ByteArray.mk #[32])).bind fun x8 => ((at' glob0 aD.Direction).bind fun x9 => ((cat' x8 x9).bind fun x10 => ((cat' x10 (ByteArray.mk #[32, 111, 102, 32])).bind fun x11 => ((cat' x11 aD.A).bind fun x12 => some (.inr x12))))))))) else some (.inl ()))))).bind (Sum.elim (fun (_ : Unit) => ((cat' (ByteArray.mk #[98, 101, 116, 119, 101, 101, 110, 32]) aD.A).bind fun x13 => ((cat' x13 (ByteArray.mk #[32, 97, 110, 100, 32])).bind fun x14 => ((cat' x14 aD.B).bind fun x15 => some x15)))) some))
theorem impl_descriptionText_run (aD : Description) (r : ByteArray) (h : impl_descriptionText aD = some r) : SCall Tryz.prog 61 [.v (.agg (tc eDescription aD))] ⟨[.v (vs r)], [], false⟩ := by
  refine scall_in Tryz.func61 rfl [(.tmp 2)] rfl (fun r => ⟨[.v (vs r)], [], false⟩) (r := r) ?_
  unfold impl_descriptionText at h
  refine srk tbok ⟨41, [(1, .ref 1 0)], [(1, .box (tc eDescription aD))]⟩ ?_
  refine swp_seq ?_
  refine srk tbok ⟨41, [(1, .ref 1 0), (4, vi aD.Kind)], [(1, .box (tc eDescription aD))]⟩ ?_
  refine swp_seqE (r := r) h (fun j1 => ⟨41, [(1, .ref 1 0)], [(1, .box (tc eDescription aD))]⟩) (fun v2 h => ?_) (fun j1 h => ?_)
  refine swp_blk (a := v2) ?_
  refine srk tbok ⟨41, [(1, .ref 1 0), (4, vi aD.Kind), (5, vb (aD.Kind == 0))], [(1, .box (tc eDescription aD))]⟩ ?_
  refine swp_cd h (fun h => ?_) fun h => ?_
  refine sr ?_
  refine SRun.ck tbok 2 ⟨41, [(8, vs aD.A)], []⟩ ?_
  obtain ⟨x3, hx3, h⟩ := bind_some h
  refine SRun.ls (x_cat hx3 rfl) ?_
  refine ckn tbok 1 ⟨41, [(2, vs x3)], []⟩ ?_
  refine swp_ret ?_
  obtain rfl := inj h
  exact q_br (q_rr (q_fr (f1 fv)))
  refine srk tbok ⟨41, [(1, .ref 1 0), (4, vi aD.Kind), (10, vb (aD.Kind == 1))], [(1, .box (tc eDescription aD))]⟩ ?_
  refine swp_cd h (fun h => ?_) fun h => ?_
  refine sr ?_
  refine SRun.ck tbok 2 ⟨41, [(13, vs aD.A)], []⟩ ?_
  obtain ⟨x4, hx4, h⟩ := bind_some h
  refine SRun.ls (x_cat hx4 rfl) ?_
  refine ckn tbok 1 ⟨41, [(2, vs x4)], []⟩ ?_
  refine swp_ret ?_
  obtain rfl := inj h
  exact q_br (q_rr (q_fr (f1 fv)))
  refine srk tbok ⟨41, [(1, .ref 1 0), (15, vb (aD.Kind == 2))], [(1, .box (tc eDescription aD))]⟩ ?_
  refine swp_cd h (fun h => ?_) fun h => ?_
  refine swp_seq ?_
  refine swp_dr mixed ?_
  refine DGo.ck tbok false 2 ⟨41, [(1, .ref 1 0), (18, vi aD.Count)], [(1, .box (tc eDescription aD))]⟩ ?_
  obtain ⟨x5, hx5, h⟩ := bind_some h
  refine DGo.step (xc ents111 (impl_decimal_run aD.Count _ hx5)) ?_
  obtain ⟨x6, hx6, h⟩ := bind_some h
  refine DGo.step (x_cat hx6 rfl) ?_
  refine DGo.ck tbok false 2 ⟨41, [(1, .ref 1 0), (20, vs x6), (22, vs aD.Unit)], [(1, .box (tc eDescription aD))]⟩ ?_
  obtain ⟨x7, hx7, h⟩ := bind_some h
  refine DGo.step (x_cat hx7 rfl) ?_
  obtain ⟨x8, hx8, h⟩ := bind_some h
  refine DGo.step (x_cat hx8 rfl) ?_
  refine DGo.ck tbok false 2 ⟨41, [(1, .ref 1 0), (24, vs x8), (26, vi aD.Direction)], [(1, .box (tc eDescription aD))]⟩ ?_
  obtain ⟨x9, hx9, h⟩ := bind_some h
  refine DGo.step (lstep_index_glob (L := glob0) (x := x9) (k := .i64) (n := 8) (e := 9) (ti := ti138) (tj := ti9) tbok rfl hx9 List.mem_cons_self) ?_
  refine DGo.ck tbok false 1 ⟨41, [(1, .ref 1 0), (24, vs x8), (28, vs x9)], [(1, .box (tc eDescription aD))]⟩ ?_
  obtain ⟨x10, hx10, h⟩ := bind_some h
  refine DGo.step (x_cat hx10 rfl) ?_
  obtain ⟨x11, hx11, h⟩ := bind_some h
  refine DGo.step (x_cat hx11 rfl) ?_
  refine DGo.ck tbok false 2 ⟨41, [(30, vs x11), (32, vs aD.A)], []⟩ ?_
  obtain ⟨x12, hx12, h⟩ := bind_some h
  refine DGo.step (x_cat hx12 rfl) ?_
  refine DGo.ck tbok false 1 ⟨41, [(2, vs x12)], []⟩ ?_
  refine DGo.nx ?_
  refine swp_ret ?_
  obtain rfl := inj h
  exact q_br (q_rr (q_fr (f1 fv)))
  refine swp_skip ?_
  obtain rfl := inj h
  exact q_bn (q_l (Le.sub0))
  refine sr ?_
  refine SRun.ck tbok 2 ⟨41, [(1, .ref 1 0), (35, vs aD.A)], [(1, .box (tc eDescription aD))]⟩ ?_
  obtain ⟨x13, hx13, h⟩ := bind_some h
  refine SRun.ls (x_cat hx13 rfl) ?_
  obtain ⟨x14, hx14, h⟩ := bind_some h
  refine SRun.ls (x_cat hx14 rfl) ?_
  refine SRun.ck tbok 2 ⟨41, [(37, vs x14), (39, vs aD.B)], []⟩ ?_
  obtain ⟨x15, hx15, h⟩ := bind_some h
  refine SRun.ls (x_cat hx15 rfl) ?_
  refine ckn tbok 1 ⟨41, [(2, vs x15)], []⟩ ?_
  refine swp_ret ?_
  obtain rfl := inj h
  exact q_fr (f1 fv)
theorem ents61 : Ents Tryz.prog 61 := ents_of Tryz.func61 (by kernel_rfl) rfl
noncomputable def impl_EvidenceFor (aList : (List Candidate)) (aCode : ByteArray) (aSites : (List Site)) (aDescriptions : (List Description)) : Option ((List ByteArray) × Int) :=
  ((impl_AreCandidates aList).bind fun x1 => ((impl_siteCode aSites aDescriptions x1).bind fun x2 => (bif (x2 != 0) then some (([] : List ByteArray), x2) else ((impl_findCandidate aList aCode).bind fun x3 => (bif (decide (x3 < 0)) then some (([] : List ByteArray), 4) else (((forS (aDescriptions.length : Int) (fun (i6 : Int) (s6 : (List ByteArray)) => ((at' aDescriptions i6).bind fun x10 => ((at' aList x3).bind fun x11 => ((impl_satisfies aSites x10 x11.At).bind fun x12 => (bif x12 then ((impl_descriptionText x10).bind fun x13 => ((app' s6 ([x13] : List ByteArray)).bind fun x14 => some x14)) else some s6))))) (fun (s6 : (List ByteArray)) => s6) 0 ([] : List ByteArray))).bind fun (j4 : (List ByteArray)) => some (j4, 0)))))))
theorem impl_EvidenceFor_run (aList : (List Candidate)) (aCode : ByteArray) (aSites : (List Site)) (aDescriptions : (List Description)) (r : (List ByteArray) × Int) (h : impl_EvidenceFor aList aCode aSites aDescriptions = some r) : SCall Tryz.prog 14 [.v (vl eCandidate aList), .v (vs aCode), .v (vl eSite aSites), .v (vl eDescription aDescriptions)] ⟨[.own 9 1 r.1.length (r.1.map eS), .v (vi r.2)], [], false⟩ := by
  refine scall_in Tryz.func14 rfl [(.tmp 8), (.tmp 9)] rfl (fun r => ⟨[.own 9 1 r.1.length (r.1.map eS), .v (vi r.2)], [], false⟩) (r := r) ?_
  unfold impl_EvidenceFor at h
  refine srk tbok ⟨49, [(0, vl eCandidate aList), (1, vs aCode), (2, vl eSite aSites), (3, vl eDescription aDescriptions)], []⟩ ?_
  refine swp_seq ?_
  refine sr ?_
  refine SRun.ck tbok 3 ⟨49, [(0, vl eCandidate aList), (1, vs aCode), (2, vl eSite aSites), (3, vl eDescription aDescriptions), (15, vl eSite aSites), (16, vl eDescription aDescriptions), (17, vl eCandidate aList)], []⟩ ?_
  obtain ⟨x1, hx1, h⟩ := bind_some h
  refine SRun.ls (xc ents45 (impl_AreCandidates_run aList _ hx1)) ?_
  obtain ⟨x2, hx2, h⟩ := bind_some h
  refine SRun.ls (xc ents58 (impl_siteCode_run aSites aDescriptions x1 _ hx2)) ?_
  refine ckn tbok 1 ⟨49, [(0, vl eCandidate aList), (1, vs aCode), (2, vl eSite aSites), (3, vl eDescription aDescriptions), (10, vi x2)], []⟩ ?_
  refine srk tbok ⟨49, [(0, vl eCandidate aList), (1, vs aCode), (2, vl eSite aSites), (3, vl eDescription aDescriptions), (10, vi x2), (21, vb (x2 != 0))], []⟩ ?_
  refine swp_cd h (fun h => ?_) fun h => ?_
  refine srk tbok ⟨49, [(8, .own 8), (9, vi x2)], [(8, oa 9 1 eS ([] : List ByteArray))]⟩ ?_
  refine swp_ret ?_
  obtain rfl := inj h
  exact nx_r (q_fr (f2 (fo eS_flat) fv))
  refine swp_skip ?_
  refine nx_n ?_
  refine sr ?_
  refine SRun.ck tbok 2 ⟨49, [(0, vl eCandidate aList), (2, vl eSite aSites), (3, vl eDescription aDescriptions), (23, vl eCandidate aList), (24, vs aCode)], []⟩ ?_
  obtain ⟨x3, hx3, h⟩ := bind_some h
  refine SRun.ls (xc ents59 (impl_findCandidate_run aList aCode _ hx3)) ?_
  refine ckn tbok 1 ⟨49, [(0, vl eCandidate aList), (2, vl eSite aSites), (3, vl eDescription aDescriptions), (11, vi x3)], []⟩ ?_
  refine swp_seq ?_
  refine srk tbok ⟨49, [(0, vl eCandidate aList), (2, vl eSite aSites), (3, vl eDescription aDescriptions), (11, vi x3), (27, vb (decide (x3 < 0)))], []⟩ ?_
  refine swp_cd h (fun h => ?_) fun h => ?_
  refine srk tbok ⟨49, [(8, .own 8), (9, vi 4)], [(8, oa 9 1 eS ([] : List ByteArray))]⟩ ?_
  refine swp_ret ?_
  obtain rfl := inj h
  exact nx_r (q_fr (f2 (fo eS_flat) fv))
  refine swp_skip ?_
  refine nx_n ?_
  refine srk tbok ⟨49, [(0, vl eCandidate aList), (2, vl eSite aSites), (3, vl eDescription aDescriptions), (11, vi x3), (12, .own 12)], [(12, oa 9 1 eS ([] : List ByteArray))]⟩ ?_
  refine swp_seq ?_
  refine srk tbok ⟨49, [(0, vl eCandidate aList), (2, vl eSite aSites), (11, vi x3), (12, .own 12), (28, vl eDescription aDescriptions), (29, vi (aDescriptions.length : Int)), (30, vi 0)], [(12, oa 9 1 eS ([] : List ByteArray))]⟩ ?_
  refine swp_seqJ h (fun j4 => ⟨49, [(12, .own 12)], [(12, oa 9 1 eS j4)]⟩) (fun v5 h => ?_) (fun j4 h => ?_)
  refine swp_blk (a := v5) ?_
  refine swp_lpL (r := v5) (s := (0, ([] : List ByteArray))) _ (fun s6 => ⟨49, [(0, vl eCandidate aList), (2, vl eSite aSites), (11, vi x3), (12, .own 12), (28, vl eDescription aDescriptions), (29, vi (aDescriptions.length : Int)), (30, vi s6.1)], [(12, oa 9 1 eS s6.2)]⟩) _ (Le.sub0) h (fun s6 v7 h => ?_)
  refine srk tbok ⟨49, [(0, vl eCandidate aList), (2, vl eSite aSites), (11, vi x3), (12, .own 12), (28, vl eDescription aDescriptions), (29, vi (aDescriptions.length : Int)), (30, vi s6.1), (31, vb (decide (s6.1 < (aDescriptions.length : Int))))], [(12, oa 9 1 eS s6.2)]⟩ ?_
  refine swp_seq ?_
  refine swp_cd h (fun h => ?_) fun h => ?_
  refine swp_skip ?_
  refine nx_n ?_
  refine swp_seq ?_
  refine swp_seqJ h (fun j8 => ⟨49, [(0, vl eCandidate aList), (2, vl eSite aSites), (11, vi x3), (12, .own 12), (28, vl eDescription aDescriptions), (29, vi (aDescriptions.length : Int)), (30, vi s6.1)], [(12, oa 9 1 eS j8)]⟩) (fun v9 h => ?_) (fun j8 h => ?_)
  refine swp_blk (a := v9) ?_
  refine sr ?_
  obtain ⟨x10, hx10, h⟩ := bind_some h
  refine SRun.ls (x_index (L := aDescriptions) (f := eDescription) (ti := ti35) (tj := ti84) (e := 84) (k := .i64) tbok rfl hx10) ?_
  refine ckn tbok 3 ⟨49, [(0, vl eCandidate aList), (2, vl eSite aSites), (11, vi x3), (12, .own 12), (14, .ref 14 0), (28, vl eDescription aDescriptions), (29, vi (aDescriptions.length : Int)), (30, vi s6.1)], [(12, oa 9 1 eS s6.2), (14, .box (tc eDescription x10))]⟩ ?_
  refine swp_seq ?_
  refine swp_dr mixed ?_
  refine DGo.ck tbok false 4 ⟨49, [(0, vl eCandidate aList), (2, vl eSite aSites), (11, vi x3), (12, .own 12), (14, .ref 14 0), (28, vl eDescription aDescriptions), (29, vi (aDescriptions.length : Int)), (30, vi s6.1), (34, vl eSite aSites), (35, .agg (tc eDescription x10)), (36, vl eCandidate aList), (37, vi x3)], [(12, oa 9 1 eS s6.2), (14, .box (tc eDescription x10))]⟩ ?_
  obtain ⟨x11, hx11, h⟩ := bind_some h
  refine DGo.step (x_index (L := aList) (f := eCandidate) (ti := ti31) (tj := ti87) (e := 87) (k := .i64) tbok rfl hx11) ?_
  refine DGo.ck tbok false 2 ⟨49, [(0, vl eCandidate aList), (2, vl eSite aSites), (11, vi x3), (12, .own 12), (14, .ref 14 0), (28, vl eDescription aDescriptions), (29, vi (aDescriptions.length : Int)), (30, vi s6.1), (34, vl eSite aSites), (35, .agg (tc eDescription x10)), (40, .agg (tc ePoint x11.At))], [(12, oa 9 1 eS s6.2), (14, .box (tc eDescription x10))]⟩ ?_
  obtain ⟨x12, hx12, h⟩ := bind_some h
  refine DGo.step (xc ents60 (impl_satisfies_run aSites x10 x11.At _ hx12)) ?_
  refine DGo.nx ?_
  refine swp_cd h (fun h => ?_) fun h => ?_
  refine swp_reg ?_
  refine SRun.ck tbok 2 ⟨49, [(0, vl eCandidate aList), (2, vl eSite aSites), (11, vi x3), (28, vl eDescription aDescriptions), (29, vi (aDescriptions.length : Int)), (30, vi s6.1), (42, .own 12), (43, .agg (tc eDescription x10))], [(12, oa 9 1 eS s6.2)]⟩ ?_
  obtain ⟨x13, hx13, h⟩ := bind_some h
  refine SRun.ls (xc ents61 (impl_descriptionText_run x10 _ hx13)) ?_
  refine SRun.ck tbok 1 ⟨49, [(0, vl eCandidate aList), (2, vl eSite aSites), (11, vi x3), (28, vl eDescription aDescriptions), (29, vi (aDescriptions.length : Int)), (30, vi s6.1), (42, .own 12), (45, .own 45)], [(12, oa 9 1 eS s6.2), (45, oa 9 1 eS ([x13] : List ByteArray))]⟩ ?_
  obtain ⟨x14, hx14, h⟩ := bind_some h
  refine SRun.estep (x_append (f := eS) (t := 28) (ti := ti28) (tj := ti9) (zs := [.string (ByteArray.mk #[])]) (e := 9) (m := 1) (d := 12) (xv := .own 45) hx14 tbok rfl rfl rfl rfl (x_src_o (e := 9))) ?_
  refine SRun.ck tbok 1 ⟨49, [(0, vl eCandidate aList), (2, vl eSite aSites), (11, vi x3), (12, .own 46), (28, vl eDescription aDescriptions), (29, vi (aDescriptions.length : Int)), (30, vi s6.1)], [(46, oa 9 1 eS x14)]⟩ ?_
  refine SRun.nil ?_
  obtain rfl := inj h
  exact q_bn (q_j ((Le.sub' ([(0, vl eCandidate aList), (2, vl eSite aSites), (11, vi x3), (12, .own 46), (28, vl eDescription aDescriptions), (29, vi (aDescriptions.length : Int)), (30, vi s6.1)] : List (Nat × SV)) ([(46, oa 9 1 eS x14)] : List (Nat × SO)) (by kernel_rfl) (by kernel_rfl)).trans ((Le.ren' (d := 46) (e := 12) (by kernel_rfl) (by kernel_rfl) (by kernel_rfl)).trans (Le.sub0))))
  refine swp_skip ?_
  obtain rfl := inj h
  exact q_bn (q_j (Le.sub0))
  refine swp_reg ?_
  refine SRun.ck tbok 2 ⟨49, [(0, vl eCandidate aList), (2, vl eSite aSites), (11, vi x3), (12, .own 12), (28, vl eDescription aDescriptions), (29, vi (aDescriptions.length : Int)), (30, vi (w64 (s6.1 + 1)))], [(12, oa 9 1 eS j8)]⟩ ?_
  refine SRun.nil ?_
  obtain rfl := inj h
  exact q_l (Le.sub0)
  refine swp_exit ?_
  obtain rfl := inj h
  exact nx_e (q_re (q_bh (q_j (Le.sub0))))
  refine srk tbok ⟨49, [(8, .own 12), (9, vi 0)], [(12, oa 9 1 eS j4)]⟩ ?_
  refine swp_ret ?_
  obtain rfl := inj h
  exact q_fr (f2 (fo eS_flat) fv)
theorem ents14 : Ents Tryz.prog 14 := ents_of Tryz.func14 (by kernel_rfl) rfl
noncomputable def laws_eqStringS (aA : (List ByteArray)) (aB : (List ByteArray)) : Option (Bool) :=
  (bif ((aA.length : Int) != (aB.length : Int)) then some false else (((forN (aA.length : Int) (fun (i3 : Int) (_ : Unit) => ((at' aA i3).bind fun x7 => ((at' aB i3).bind fun x8 => (bif (!(x7.toList == x8.toList)) then some (.inr (.inr false)) else some (.inl ()))))) (fun (_ : Unit) => .inl ()) 0 ())).bind (Sum.elim (fun (_ : Unit) => some true) some)))
theorem laws_eqStringS_run (aA : (List ByteArray)) (aB : (List ByteArray)) (r : Bool) (h : laws_eqStringS aA aB = some r) : SCall Tryz.prog 15 [.v (vl eS aA), .v (vl eS aB)] ⟨[.v (vb r)], [], false⟩ := by
  refine scall_in Tryz.func15 rfl [(.tmp 4)] rfl (fun r => ⟨[.v (vb r)], [], false⟩) (r := r) ?_
  unfold laws_eqStringS at h
  refine srk tbok ⟨26, [(0, vl eS aA), (1, vl eS aB)], []⟩ ?_
  refine swp_seq ?_
  refine srk tbok ⟨26, [(0, vl eS aA), (1, vl eS aB), (10, vb ((aA.length : Int) != (aB.length : Int)))], []⟩ ?_
  refine swp_cd h (fun h => ?_) fun h => ?_
  refine srk tbok ⟨26, [(4, vb false)], []⟩ ?_
  refine swp_ret ?_
  obtain rfl := inj h
  exact nx_r (q_fr (f1 fv))
  refine swp_skip ?_
  refine nx_n ?_
  refine swp_seq ?_
  refine srk tbok ⟨26, [(0, vl eS aA), (1, vl eS aB), (5, vi 0)], []⟩ ?_
  refine swp_seqE (r := r) h (fun j1 => ⟨26, [], []⟩) (fun v2 h => ?_) (fun j1 h => ?_)
  refine swp_blk (a := v2) ?_
  refine swp_lpL (r := v2) (s := (0, ())) _ (fun s3 => ⟨26, [(0, vl eS aA), (1, vl eS aB), (5, vi s3.1)], []⟩) _ (Le.sub0) h (fun s3 v4 h => ?_)
  refine swp_seq ?_
  refine srk tbok ⟨26, [(0, vl eS aA), (1, vl eS aB), (5, vi s3.1), (14, vb (decide (s3.1 < (aA.length : Int))))], []⟩ ?_
  refine swp_cd h (fun h => ?_) fun h => ?_
  refine swp_skip ?_
  refine nx_n ?_
  refine swp_seq ?_
  refine swp_seqL (r := v4) h (fun j5 => ⟨26, [(0, vl eS aA), (1, vl eS aB), (5, vi s3.1)], []⟩) (fun v6 h => ?_) (fun j5 h => ?_)
  refine swp_blk (a := v6) ?_
  refine swp_seq ?_
  refine swp_dr mixed ?_
  refine DGo.ck tbok false 2 ⟨26, [(0, vl eS aA), (1, vl eS aB), (5, vi s3.1), (17, vl eS aA), (18, vi s3.1)], []⟩ ?_
  obtain ⟨x7, hx7, h⟩ := bind_some h
  refine DGo.step (x_index (L := aA) (f := eS) (ti := ti28) (tj := ti9) (e := 9) (k := .i64) tbok rfl hx7) ?_
  refine DGo.ck tbok false 3 ⟨26, [(0, vl eS aA), (1, vl eS aB), (5, vi s3.1), (20, vs x7), (21, vl eS aB), (22, vi s3.1)], []⟩ ?_
  obtain ⟨x8, hx8, h⟩ := bind_some h
  refine DGo.step (x_index (L := aB) (f := eS) (ti := ti28) (tj := ti9) (e := 9) (k := .i64) tbok rfl hx8) ?_
  refine DGo.ck tbok false 2 ⟨26, [(0, vl eS aA), (1, vl eS aB), (5, vi s3.1), (25, vb (!(x7.toList == x8.toList)))], []⟩ ?_
  refine DGo.nx ?_
  refine swp_cd h (fun h => ?_) fun h => ?_
  refine srk tbok ⟨26, [(4, vb false)], []⟩ ?_
  refine swp_ret ?_
  obtain rfl := inj h
  exact q_br (q_rr (q_rr (q_br (q_rr (q_fr (f1 fv))))))
  refine swp_skip ?_
  obtain rfl := inj h
  exact q_bn (q_l (Le.sub0))
  refine swp_reg ?_
  refine SRun.ck tbok 3 ⟨26, [(0, vl eS aA), (1, vl eS aB), (5, vi (w64 (s3.1 + 1)))], []⟩ ?_
  refine SRun.nil ?_
  obtain rfl := inj h
  exact q_l (Le.sub0)
  refine swp_exit ?_
  obtain rfl := inj h
  exact nx_e (q_re (q_bh (q_l (Le.sub0))))
  refine srk tbok ⟨26, [(4, vb true)], []⟩ ?_
  refine swp_ret ?_
  obtain rfl := inj h
  exact q_fr (f1 fv)
theorem ents15 : Ents Tryz.prog 15 := ents_of Tryz.func15 (by kernel_rfl) rfl
noncomputable def laws_eqPoint (aA : Point) (aB : Point) : Option (Bool) :=
  (bif (aA.X != aB.X) then some false else (bif (aA.Y != aB.Y) then some false else some true))
theorem laws_eqPoint_run (aA : Point) (aB : Point) (r : Bool) (h : laws_eqPoint aA aB = some r) : SCall Tryz.prog 112 [.v (.agg (tc ePoint aA)), .v (.agg (tc ePoint aB))] ⟨[.v (vb r)], [], false⟩ := by
  refine scall_in Tryz.func112 rfl [(.tmp 4)] rfl (fun r => ⟨[.v (vb r)], [], false⟩) (r := r) ?_
  unfold laws_eqPoint at h
  refine srk tbok ⟨15, [(2, .ref 2 0), (3, .ref 3 0)], [(2, .box (tc ePoint aA)), (3, .box (tc ePoint aB))]⟩ ?_
  refine swp_seq ?_
  refine srk tbok ⟨15, [(2, .ref 2 0), (3, .ref 3 0), (9, vb (aA.X != aB.X))], [(2, .box (tc ePoint aA)), (3, .box (tc ePoint aB))]⟩ ?_
  refine swp_cd h (fun h => ?_) fun h => ?_
  refine srk tbok ⟨15, [(4, vb false)], []⟩ ?_
  refine swp_ret ?_
  obtain rfl := inj h
  exact nx_r (q_fr (f1 fv))
  refine swp_skip ?_
  refine nx_n ?_
  refine swp_seq ?_
  refine srk tbok ⟨15, [(14, vb (aA.Y != aB.Y))], []⟩ ?_
  refine swp_cd h (fun h => ?_) fun h => ?_
  refine srk tbok ⟨15, [(4, vb false)], []⟩ ?_
  refine swp_ret ?_
  obtain rfl := inj h
  exact nx_r (q_fr (f1 fv))
  refine swp_skip ?_
  refine nx_n ?_
  refine srk tbok ⟨15, [(4, vb true)], []⟩ ?_
  refine swp_ret ?_
  obtain rfl := inj h
  exact q_fr (f1 fv)
theorem ents112 : Ents Tryz.prog 112 := ents_of Tryz.func112 (by kernel_rfl) rfl
noncomputable def laws_eqCandidate (aA : Candidate) (aB : Candidate) : Option (Bool) :=
  (bif (!(aA.Code.toList == aB.Code.toList)) then some false else (bif (!(aA.Text.toList == aB.Text.toList)) then some false else ((laws_eqPoint aA.At aB.At).bind fun x1 => (bif (!x1) then some false else some true))))
theorem laws_eqCandidate_run (aA : Candidate) (aB : Candidate) (r : Bool) (h : laws_eqCandidate aA aB = some r) : SCall Tryz.prog 62 [.v (.agg (tc eCandidate aA)), .v (.agg (tc eCandidate aB))] ⟨[.v (vb r)], [], false⟩ := by
  refine scall_in Tryz.func62 rfl [(.tmp 4)] rfl (fun r => ⟨[.v (vb r)], [], false⟩) (r := r) ?_
  unfold laws_eqCandidate at h
  refine srk tbok ⟨21, [(2, .ref 2 0), (3, .ref 3 0)], [(2, .box (tc eCandidate aA)), (3, .box (tc eCandidate aB))]⟩ ?_
  refine swp_seq ?_
  refine srk tbok ⟨21, [(2, .ref 2 0), (3, .ref 3 0), (9, vb (!(aA.Code.toList == aB.Code.toList)))], [(2, .box (tc eCandidate aA)), (3, .box (tc eCandidate aB))]⟩ ?_
  refine swp_cd h (fun h => ?_) fun h => ?_
  refine srk tbok ⟨21, [(4, vb false)], []⟩ ?_
  refine swp_ret ?_
  obtain rfl := inj h
  exact nx_r (q_fr (f1 fv))
  refine swp_skip ?_
  refine nx_n ?_
  refine swp_seq ?_
  refine srk tbok ⟨21, [(2, .ref 2 0), (3, .ref 3 0), (14, vb (!(aA.Text.toList == aB.Text.toList)))], [(2, .box (tc eCandidate aA)), (3, .box (tc eCandidate aB))]⟩ ?_
  refine swp_cd h (fun h => ?_) fun h => ?_
  refine srk tbok ⟨21, [(4, vb false)], []⟩ ?_
  refine swp_ret ?_
  obtain rfl := inj h
  exact nx_r (q_fr (f1 fv))
  refine swp_skip ?_
  refine nx_n ?_
  refine swp_seq ?_
  refine sr ?_
  refine SRun.ck tbok 4 ⟨21, [(16, .agg (tc ePoint aA.At)), (18, .agg (tc ePoint aB.At))], []⟩ ?_
  obtain ⟨x1, hx1, h⟩ := bind_some h
  refine SRun.ls (xc ents112 (laws_eqPoint_run aA.At aB.At _ hx1)) ?_
  refine ckn tbok 1 ⟨21, [(20, vb (!x1))], []⟩ ?_
  refine swp_cd h (fun h => ?_) fun h => ?_
  refine srk tbok ⟨21, [(4, vb false)], []⟩ ?_
  refine swp_ret ?_
  obtain rfl := inj h
  exact nx_r (q_fr (f1 fv))
  refine swp_skip ?_
  refine nx_n ?_
  refine srk tbok ⟨21, [(4, vb true)], []⟩ ?_
  refine swp_ret ?_
  obtain rfl := inj h
  exact q_fr (f1 fv)
theorem ents62 : Ents Tryz.prog 62 := ents_of Tryz.func62 (by kernel_rfl) rfl
noncomputable def laws_eqCandidateS (aA : (List Candidate)) (aB : (List Candidate)) : Option (Bool) :=
  (bif ((aA.length : Int) != (aB.length : Int)) then some false else (((forN (aA.length : Int) (fun (i3 : Int) (_ : Unit) => ((at' aA i3).bind fun x7 => ((at' aB i3).bind fun x8 => ((laws_eqCandidate x7 x8).bind fun x9 => (bif (!x9) then some (.inr (.inr false)) else some (.inl ())))))) (fun (_ : Unit) => .inl ()) 0 ())).bind (Sum.elim (fun (_ : Unit) => some true) some)))
theorem laws_eqCandidateS_run (aA : (List Candidate)) (aB : (List Candidate)) (r : Bool) (h : laws_eqCandidateS aA aB = some r) : SCall Tryz.prog 16 [.v (vl eCandidate aA), .v (vl eCandidate aB)] ⟨[.v (vb r)], [], false⟩ := by
  refine scall_in Tryz.func16 rfl [(.tmp 4)] rfl (fun r => ⟨[.v (vb r)], [], false⟩) (r := r) ?_
  unfold laws_eqCandidateS at h
  refine srk tbok ⟨27, [(0, vl eCandidate aA), (1, vl eCandidate aB)], []⟩ ?_
  refine swp_seq ?_
  refine srk tbok ⟨27, [(0, vl eCandidate aA), (1, vl eCandidate aB), (10, vb ((aA.length : Int) != (aB.length : Int)))], []⟩ ?_
  refine swp_cd h (fun h => ?_) fun h => ?_
  refine srk tbok ⟨27, [(4, vb false)], []⟩ ?_
  refine swp_ret ?_
  obtain rfl := inj h
  exact nx_r (q_fr (f1 fv))
  refine swp_skip ?_
  refine nx_n ?_
  refine swp_seq ?_
  refine srk tbok ⟨27, [(0, vl eCandidate aA), (1, vl eCandidate aB), (5, vi 0)], []⟩ ?_
  refine swp_seqE (r := r) h (fun j1 => ⟨27, [], []⟩) (fun v2 h => ?_) (fun j1 h => ?_)
  refine swp_blk (a := v2) ?_
  refine swp_lpL (r := v2) (s := (0, ())) _ (fun s3 => ⟨27, [(0, vl eCandidate aA), (1, vl eCandidate aB), (5, vi s3.1)], []⟩) _ (Le.sub0) h (fun s3 v4 h => ?_)
  refine swp_seq ?_
  refine srk tbok ⟨27, [(0, vl eCandidate aA), (1, vl eCandidate aB), (5, vi s3.1), (14, vb (decide (s3.1 < (aA.length : Int))))], []⟩ ?_
  refine swp_cd h (fun h => ?_) fun h => ?_
  refine swp_skip ?_
  refine nx_n ?_
  refine swp_seq ?_
  refine swp_seqL (r := v4) h (fun j5 => ⟨27, [(0, vl eCandidate aA), (1, vl eCandidate aB), (5, vi s3.1)], []⟩) (fun v6 h => ?_) (fun j5 h => ?_)
  refine swp_blk (a := v6) ?_
  refine swp_seq ?_
  refine swp_dr mixed ?_
  refine DGo.ck tbok false 2 ⟨27, [(0, vl eCandidate aA), (1, vl eCandidate aB), (5, vi s3.1), (17, vl eCandidate aA), (18, vi s3.1)], []⟩ ?_
  obtain ⟨x7, hx7, h⟩ := bind_some h
  refine DGo.step (x_index (L := aA) (f := eCandidate) (ti := ti31) (tj := ti87) (e := 87) (k := .i64) tbok rfl hx7) ?_
  refine DGo.ck tbok false 3 ⟨27, [(0, vl eCandidate aA), (1, vl eCandidate aB), (5, vi s3.1), (20, .agg (tc eCandidate x7)), (21, vl eCandidate aB), (22, vi s3.1)], []⟩ ?_
  obtain ⟨x8, hx8, h⟩ := bind_some h
  refine DGo.step (x_index (L := aB) (f := eCandidate) (ti := ti31) (tj := ti87) (e := 87) (k := .i64) tbok rfl hx8) ?_
  refine DGo.ck tbok false 1 ⟨27, [(0, vl eCandidate aA), (1, vl eCandidate aB), (5, vi s3.1), (20, .agg (tc eCandidate x7)), (24, .agg (tc eCandidate x8))], []⟩ ?_
  obtain ⟨x9, hx9, h⟩ := bind_some h
  refine DGo.step (xc ents62 (laws_eqCandidate_run x7 x8 _ hx9)) ?_
  refine DGo.ck tbok false 1 ⟨27, [(0, vl eCandidate aA), (1, vl eCandidate aB), (5, vi s3.1), (26, vb (!x9))], []⟩ ?_
  refine DGo.nx ?_
  refine swp_cd h (fun h => ?_) fun h => ?_
  refine srk tbok ⟨27, [(4, vb false)], []⟩ ?_
  refine swp_ret ?_
  obtain rfl := inj h
  exact q_br (q_rr (q_rr (q_br (q_rr (q_fr (f1 fv))))))
  refine swp_skip ?_
  obtain rfl := inj h
  exact q_bn (q_l (Le.sub0))
  refine swp_reg ?_
  refine SRun.ck tbok 3 ⟨27, [(0, vl eCandidate aA), (1, vl eCandidate aB), (5, vi (w64 (s3.1 + 1)))], []⟩ ?_
  refine SRun.nil ?_
  obtain rfl := inj h
  exact q_l (Le.sub0)
  refine swp_exit ?_
  obtain rfl := inj h
  exact nx_e (q_re (q_bh (q_l (Le.sub0))))
  refine srk tbok ⟨27, [(4, vb true)], []⟩ ?_
  refine swp_ret ?_
  obtain rfl := inj h
  exact q_fr (f1 fv)
theorem ents16 : Ents Tryz.prog 16 := ents_of Tryz.func16 (by kernel_rfl) rfl
noncomputable def laws_eqSite (aA : Site) (aB : Site) : Option (Bool) :=
  (bif (!(aA.Code.toList == aB.Code.toList)) then some false else ((laws_eqPoint aA.At aB.At).bind fun x1 => (bif (!x1) then some false else some true)))
theorem laws_eqSite_run (aA : Site) (aB : Site) (r : Bool) (h : laws_eqSite aA aB = some r) : SCall Tryz.prog 63 [.v (.agg (tc eSite aA)), .v (.agg (tc eSite aB))] ⟨[.v (vb r)], [], false⟩ := by
  refine scall_in Tryz.func63 rfl [(.tmp 4)] rfl (fun r => ⟨[.v (vb r)], [], false⟩) (r := r) ?_
  unfold laws_eqSite at h
  refine srk tbok ⟨16, [(2, .ref 2 0), (3, .ref 3 0)], [(2, .box (tc eSite aA)), (3, .box (tc eSite aB))]⟩ ?_
  refine swp_seq ?_
  refine srk tbok ⟨16, [(2, .ref 2 0), (3, .ref 3 0), (9, vb (!(aA.Code.toList == aB.Code.toList)))], [(2, .box (tc eSite aA)), (3, .box (tc eSite aB))]⟩ ?_
  refine swp_cd h (fun h => ?_) fun h => ?_
  refine srk tbok ⟨16, [(4, vb false)], []⟩ ?_
  refine swp_ret ?_
  obtain rfl := inj h
  exact nx_r (q_fr (f1 fv))
  refine swp_skip ?_
  refine nx_n ?_
  refine swp_seq ?_
  refine sr ?_
  refine SRun.ck tbok 4 ⟨16, [(11, .agg (tc ePoint aA.At)), (13, .agg (tc ePoint aB.At))], []⟩ ?_
  obtain ⟨x1, hx1, h⟩ := bind_some h
  refine SRun.ls (xc ents112 (laws_eqPoint_run aA.At aB.At _ hx1)) ?_
  refine ckn tbok 1 ⟨16, [(15, vb (!x1))], []⟩ ?_
  refine swp_cd h (fun h => ?_) fun h => ?_
  refine srk tbok ⟨16, [(4, vb false)], []⟩ ?_
  refine swp_ret ?_
  obtain rfl := inj h
  exact nx_r (q_fr (f1 fv))
  refine swp_skip ?_
  refine nx_n ?_
  refine srk tbok ⟨16, [(4, vb true)], []⟩ ?_
  refine swp_ret ?_
  obtain rfl := inj h
  exact q_fr (f1 fv)
theorem ents63 : Ents Tryz.prog 63 := ents_of Tryz.func63 (by kernel_rfl) rfl
noncomputable def laws_eqSiteS (aA : (List Site)) (aB : (List Site)) : Option (Bool) :=
  (bif ((aA.length : Int) != (aB.length : Int)) then some false else (((forN (aA.length : Int) (fun (i3 : Int) (_ : Unit) => ((at' aA i3).bind fun x7 => ((at' aB i3).bind fun x8 => ((laws_eqSite x7 x8).bind fun x9 => (bif (!x9) then some (.inr (.inr false)) else some (.inl ())))))) (fun (_ : Unit) => .inl ()) 0 ())).bind (Sum.elim (fun (_ : Unit) => some true) some)))
theorem laws_eqSiteS_run (aA : (List Site)) (aB : (List Site)) (r : Bool) (h : laws_eqSiteS aA aB = some r) : SCall Tryz.prog 17 [.v (vl eSite aA), .v (vl eSite aB)] ⟨[.v (vb r)], [], false⟩ := by
  refine scall_in Tryz.func17 rfl [(.tmp 4)] rfl (fun r => ⟨[.v (vb r)], [], false⟩) (r := r) ?_
  unfold laws_eqSiteS at h
  refine srk tbok ⟨27, [(0, vl eSite aA), (1, vl eSite aB)], []⟩ ?_
  refine swp_seq ?_
  refine srk tbok ⟨27, [(0, vl eSite aA), (1, vl eSite aB), (10, vb ((aA.length : Int) != (aB.length : Int)))], []⟩ ?_
  refine swp_cd h (fun h => ?_) fun h => ?_
  refine srk tbok ⟨27, [(4, vb false)], []⟩ ?_
  refine swp_ret ?_
  obtain rfl := inj h
  exact nx_r (q_fr (f1 fv))
  refine swp_skip ?_
  refine nx_n ?_
  refine swp_seq ?_
  refine srk tbok ⟨27, [(0, vl eSite aA), (1, vl eSite aB), (5, vi 0)], []⟩ ?_
  refine swp_seqE (r := r) h (fun j1 => ⟨27, [], []⟩) (fun v2 h => ?_) (fun j1 h => ?_)
  refine swp_blk (a := v2) ?_
  refine swp_lpL (r := v2) (s := (0, ())) _ (fun s3 => ⟨27, [(0, vl eSite aA), (1, vl eSite aB), (5, vi s3.1)], []⟩) _ (Le.sub0) h (fun s3 v4 h => ?_)
  refine swp_seq ?_
  refine srk tbok ⟨27, [(0, vl eSite aA), (1, vl eSite aB), (5, vi s3.1), (14, vb (decide (s3.1 < (aA.length : Int))))], []⟩ ?_
  refine swp_cd h (fun h => ?_) fun h => ?_
  refine swp_skip ?_
  refine nx_n ?_
  refine swp_seq ?_
  refine swp_seqL (r := v4) h (fun j5 => ⟨27, [(0, vl eSite aA), (1, vl eSite aB), (5, vi s3.1)], []⟩) (fun v6 h => ?_) (fun j5 h => ?_)
  refine swp_blk (a := v6) ?_
  refine swp_seq ?_
  refine swp_dr mixed ?_
  refine DGo.ck tbok false 2 ⟨27, [(0, vl eSite aA), (1, vl eSite aB), (5, vi s3.1), (17, vl eSite aA), (18, vi s3.1)], []⟩ ?_
  obtain ⟨x7, hx7, h⟩ := bind_some h
  refine DGo.step (x_index (L := aA) (f := eSite) (ti := ti33) (tj := ti92) (e := 92) (k := .i64) tbok rfl hx7) ?_
  refine DGo.ck tbok false 3 ⟨27, [(0, vl eSite aA), (1, vl eSite aB), (5, vi s3.1), (20, .agg (tc eSite x7)), (21, vl eSite aB), (22, vi s3.1)], []⟩ ?_
  obtain ⟨x8, hx8, h⟩ := bind_some h
  refine DGo.step (x_index (L := aB) (f := eSite) (ti := ti33) (tj := ti92) (e := 92) (k := .i64) tbok rfl hx8) ?_
  refine DGo.ck tbok false 1 ⟨27, [(0, vl eSite aA), (1, vl eSite aB), (5, vi s3.1), (20, .agg (tc eSite x7)), (24, .agg (tc eSite x8))], []⟩ ?_
  obtain ⟨x9, hx9, h⟩ := bind_some h
  refine DGo.step (xc ents63 (laws_eqSite_run x7 x8 _ hx9)) ?_
  refine DGo.ck tbok false 1 ⟨27, [(0, vl eSite aA), (1, vl eSite aB), (5, vi s3.1), (26, vb (!x9))], []⟩ ?_
  refine DGo.nx ?_
  refine swp_cd h (fun h => ?_) fun h => ?_
  refine srk tbok ⟨27, [(4, vb false)], []⟩ ?_
  refine swp_ret ?_
  obtain rfl := inj h
  exact q_br (q_rr (q_rr (q_br (q_rr (q_fr (f1 fv))))))
  refine swp_skip ?_
  obtain rfl := inj h
  exact q_bn (q_l (Le.sub0))
  refine swp_reg ?_
  refine SRun.ck tbok 3 ⟨27, [(0, vl eSite aA), (1, vl eSite aB), (5, vi (w64 (s3.1 + 1)))], []⟩ ?_
  refine SRun.nil ?_
  obtain rfl := inj h
  exact q_l (Le.sub0)
  refine swp_exit ?_
  obtain rfl := inj h
  exact nx_e (q_re (q_bh (q_l (Le.sub0))))
  refine srk tbok ⟨27, [(4, vb true)], []⟩ ?_
  refine swp_ret ?_
  obtain rfl := inj h
  exact q_fr (f1 fv)
theorem ents17 : Ents Tryz.prog 17 := ents_of Tryz.func17 (by kernel_rfl) rfl
noncomputable def laws_eqDescription (aA : Description) (aB : Description) : Option (Bool) :=
  (bif (aA.Kind != aB.Kind) then some false else (bif (aA.Count != aB.Count) then some false else (bif (!(aA.Unit.toList == aB.Unit.toList)) then some false else (bif (aA.Direction != aB.Direction) then some false else (bif (!(aA.A.toList == aB.A.toList)) then some false else (bif (!(aA.B.toList == aB.B.toList)) then some false else some true))))))
theorem laws_eqDescription_run (aA : Description) (aB : Description) (r : Bool) (h : laws_eqDescription aA aB = some r) : SCall Tryz.prog 64 [.v (.agg (tc eDescription aA)), .v (.agg (tc eDescription aB))] ⟨[.v (vb r)], [], false⟩ := by
  refine scall_in Tryz.func64 rfl [(.tmp 4)] rfl (fun r => ⟨[.v (vb r)], [], false⟩) (r := r) ?_
  unfold laws_eqDescription at h
  refine srk tbok ⟨35, [(2, .ref 2 0), (3, .ref 3 0)], [(2, .box (tc eDescription aA)), (3, .box (tc eDescription aB))]⟩ ?_
  refine swp_seq ?_
  refine srk tbok ⟨35, [(2, .ref 2 0), (3, .ref 3 0), (9, vb (aA.Kind != aB.Kind))], [(2, .box (tc eDescription aA)), (3, .box (tc eDescription aB))]⟩ ?_
  refine swp_cd h (fun h => ?_) fun h => ?_
  refine srk tbok ⟨35, [(4, vb false)], []⟩ ?_
  refine swp_ret ?_
  obtain rfl := inj h
  exact nx_r (q_fr (f1 fv))
  refine swp_skip ?_
  refine nx_n ?_
  refine swp_seq ?_
  refine srk tbok ⟨35, [(2, .ref 2 0), (3, .ref 3 0), (14, vb (aA.Count != aB.Count))], [(2, .box (tc eDescription aA)), (3, .box (tc eDescription aB))]⟩ ?_
  refine swp_cd h (fun h => ?_) fun h => ?_
  refine srk tbok ⟨35, [(4, vb false)], []⟩ ?_
  refine swp_ret ?_
  obtain rfl := inj h
  exact nx_r (q_fr (f1 fv))
  refine swp_skip ?_
  refine nx_n ?_
  refine swp_seq ?_
  refine srk tbok ⟨35, [(2, .ref 2 0), (3, .ref 3 0), (19, vb (!(aA.Unit.toList == aB.Unit.toList)))], [(2, .box (tc eDescription aA)), (3, .box (tc eDescription aB))]⟩ ?_
  refine swp_cd h (fun h => ?_) fun h => ?_
  refine srk tbok ⟨35, [(4, vb false)], []⟩ ?_
  refine swp_ret ?_
  obtain rfl := inj h
  exact nx_r (q_fr (f1 fv))
  refine swp_skip ?_
  refine nx_n ?_
  refine swp_seq ?_
  refine srk tbok ⟨35, [(2, .ref 2 0), (3, .ref 3 0), (24, vb (aA.Direction != aB.Direction))], [(2, .box (tc eDescription aA)), (3, .box (tc eDescription aB))]⟩ ?_
  refine swp_cd h (fun h => ?_) fun h => ?_
  refine srk tbok ⟨35, [(4, vb false)], []⟩ ?_
  refine swp_ret ?_
  obtain rfl := inj h
  exact nx_r (q_fr (f1 fv))
  refine swp_skip ?_
  refine nx_n ?_
  refine swp_seq ?_
  refine srk tbok ⟨35, [(2, .ref 2 0), (3, .ref 3 0), (29, vb (!(aA.A.toList == aB.A.toList)))], [(2, .box (tc eDescription aA)), (3, .box (tc eDescription aB))]⟩ ?_
  refine swp_cd h (fun h => ?_) fun h => ?_
  refine srk tbok ⟨35, [(4, vb false)], []⟩ ?_
  refine swp_ret ?_
  obtain rfl := inj h
  exact nx_r (q_fr (f1 fv))
  refine swp_skip ?_
  refine nx_n ?_
  refine swp_seq ?_
  refine srk tbok ⟨35, [(34, vb (!(aA.B.toList == aB.B.toList)))], []⟩ ?_
  refine swp_cd h (fun h => ?_) fun h => ?_
  refine srk tbok ⟨35, [(4, vb false)], []⟩ ?_
  refine swp_ret ?_
  obtain rfl := inj h
  exact nx_r (q_fr (f1 fv))
  refine swp_skip ?_
  refine nx_n ?_
  refine srk tbok ⟨35, [(4, vb true)], []⟩ ?_
  refine swp_ret ?_
  obtain rfl := inj h
  exact q_fr (f1 fv)
theorem ents64 : Ents Tryz.prog 64 := ents_of Tryz.func64 (by kernel_rfl) rfl
noncomputable def laws_eqDescriptionS (aA : (List Description)) (aB : (List Description)) : Option (Bool) :=
  (bif ((aA.length : Int) != (aB.length : Int)) then some false else (((forN (aA.length : Int) (fun (i3 : Int) (_ : Unit) => ((at' aA i3).bind fun x7 => ((at' aB i3).bind fun x8 => ((laws_eqDescription x7 x8).bind fun x9 => (bif (!x9) then some (.inr (.inr false)) else some (.inl ())))))) (fun (_ : Unit) => .inl ()) 0 ())).bind (Sum.elim (fun (_ : Unit) => some true) some)))
theorem laws_eqDescriptionS_run (aA : (List Description)) (aB : (List Description)) (r : Bool) (h : laws_eqDescriptionS aA aB = some r) : SCall Tryz.prog 18 [.v (vl eDescription aA), .v (vl eDescription aB)] ⟨[.v (vb r)], [], false⟩ := by
  refine scall_in Tryz.func18 rfl [(.tmp 4)] rfl (fun r => ⟨[.v (vb r)], [], false⟩) (r := r) ?_
  unfold laws_eqDescriptionS at h
  refine srk tbok ⟨27, [(0, vl eDescription aA), (1, vl eDescription aB)], []⟩ ?_
  refine swp_seq ?_
  refine srk tbok ⟨27, [(0, vl eDescription aA), (1, vl eDescription aB), (10, vb ((aA.length : Int) != (aB.length : Int)))], []⟩ ?_
  refine swp_cd h (fun h => ?_) fun h => ?_
  refine srk tbok ⟨27, [(4, vb false)], []⟩ ?_
  refine swp_ret ?_
  obtain rfl := inj h
  exact nx_r (q_fr (f1 fv))
  refine swp_skip ?_
  refine nx_n ?_
  refine swp_seq ?_
  refine srk tbok ⟨27, [(0, vl eDescription aA), (1, vl eDescription aB), (5, vi 0)], []⟩ ?_
  refine swp_seqE (r := r) h (fun j1 => ⟨27, [], []⟩) (fun v2 h => ?_) (fun j1 h => ?_)
  refine swp_blk (a := v2) ?_
  refine swp_lpL (r := v2) (s := (0, ())) _ (fun s3 => ⟨27, [(0, vl eDescription aA), (1, vl eDescription aB), (5, vi s3.1)], []⟩) _ (Le.sub0) h (fun s3 v4 h => ?_)
  refine swp_seq ?_
  refine srk tbok ⟨27, [(0, vl eDescription aA), (1, vl eDescription aB), (5, vi s3.1), (14, vb (decide (s3.1 < (aA.length : Int))))], []⟩ ?_
  refine swp_cd h (fun h => ?_) fun h => ?_
  refine swp_skip ?_
  refine nx_n ?_
  refine swp_seq ?_
  refine swp_seqL (r := v4) h (fun j5 => ⟨27, [(0, vl eDescription aA), (1, vl eDescription aB), (5, vi s3.1)], []⟩) (fun v6 h => ?_) (fun j5 h => ?_)
  refine swp_blk (a := v6) ?_
  refine swp_seq ?_
  refine swp_dr mixed ?_
  refine DGo.ck tbok false 2 ⟨27, [(0, vl eDescription aA), (1, vl eDescription aB), (5, vi s3.1), (17, vl eDescription aA), (18, vi s3.1)], []⟩ ?_
  obtain ⟨x7, hx7, h⟩ := bind_some h
  refine DGo.step (x_index (L := aA) (f := eDescription) (ti := ti35) (tj := ti84) (e := 84) (k := .i64) tbok rfl hx7) ?_
  refine DGo.ck tbok false 3 ⟨27, [(0, vl eDescription aA), (1, vl eDescription aB), (5, vi s3.1), (20, .agg (tc eDescription x7)), (21, vl eDescription aB), (22, vi s3.1)], []⟩ ?_
  obtain ⟨x8, hx8, h⟩ := bind_some h
  refine DGo.step (x_index (L := aB) (f := eDescription) (ti := ti35) (tj := ti84) (e := 84) (k := .i64) tbok rfl hx8) ?_
  refine DGo.ck tbok false 1 ⟨27, [(0, vl eDescription aA), (1, vl eDescription aB), (5, vi s3.1), (20, .agg (tc eDescription x7)), (24, .agg (tc eDescription x8))], []⟩ ?_
  obtain ⟨x9, hx9, h⟩ := bind_some h
  refine DGo.step (xc ents64 (laws_eqDescription_run x7 x8 _ hx9)) ?_
  refine DGo.ck tbok false 1 ⟨27, [(0, vl eDescription aA), (1, vl eDescription aB), (5, vi s3.1), (26, vb (!x9))], []⟩ ?_
  refine DGo.nx ?_
  refine swp_cd h (fun h => ?_) fun h => ?_
  refine srk tbok ⟨27, [(4, vb false)], []⟩ ?_
  refine swp_ret ?_
  obtain rfl := inj h
  exact q_br (q_rr (q_rr (q_br (q_rr (q_fr (f1 fv))))))
  refine swp_skip ?_
  obtain rfl := inj h
  exact q_bn (q_l (Le.sub0))
  refine swp_reg ?_
  refine SRun.ck tbok 3 ⟨27, [(0, vl eDescription aA), (1, vl eDescription aB), (5, vi (w64 (s3.1 + 1)))], []⟩ ?_
  refine SRun.nil ?_
  obtain rfl := inj h
  exact q_l (Le.sub0)
  refine swp_exit ?_
  obtain rfl := inj h
  exact nx_e (q_re (q_bh (q_l (Le.sub0))))
  refine srk tbok ⟨27, [(4, vb true)], []⟩ ?_
  refine swp_ret ?_
  obtain rfl := inj h
  exact q_fr (f1 fv)
theorem ents18 : Ents Tryz.prog 18 := ents_of Tryz.func18 (by kernel_rfl) rfl
noncomputable def laws_markText (aK : Int) : Option (ByteArray) :=
  (bif (decide (aK ≤ 0)) then some (ByteArray.mk #[109, 48]) else (((loop (fun (s3 : Int × ByteArray) => (bif (decide (s3.1 > 0)) then ((cat' (strOfNums ([(IntKind.wrap .u8 (w64 (48 + (Int.tmod s3.1 10))))] : List Int)) s3.2).bind fun x5 => some (.inl ((w64 (Int.tdiv s3.1 10)), x5))) else some (.inr s3.2))) (aK, (ByteArray.mk #[])))).bind fun (j1 : ByteArray) => ((cat' (ByteArray.mk #[109]) j1).bind fun x6 => some x6)))
theorem laws_markText_run (aK : Int) (r : ByteArray) (h : laws_markText aK = some r) : SCall Tryz.prog 65 [.v (vi aK)] ⟨[.v (vs r)], [], false⟩ := by
  refine scall_in Tryz.func65 rfl [(.tmp 2)] rfl (fun r => ⟨[.v (vs r)], [], false⟩) (r := r) ?_
  unfold laws_markText at h
  refine srk tbok ⟨20, [(0, vi aK)], []⟩ ?_
  refine swp_seq ?_
  refine srk tbok ⟨20, [(0, vi aK), (5, vb (decide (aK ≤ 0)))], []⟩ ?_
  refine swp_cd h (fun h => ?_) fun h => ?_
  refine srk tbok ⟨20, [(2, vs (ByteArray.mk #[109, 48]))], []⟩ ?_
  refine swp_ret ?_
  obtain rfl := inj h
  exact nx_r (q_fr (f1 fv))
  refine swp_skip ?_
  refine nx_n ?_
  refine srk tbok ⟨20, [(0, vi aK), (3, vs (ByteArray.mk #[]))], []⟩ ?_
  refine swp_seq ?_
  refine swp_seqJ h (fun j1 => ⟨20, [(3, vs j1)], []⟩) (fun v2 h => ?_) (fun j1 h => ?_)
  refine swp_blk (a := v2) ?_
  refine swp_lpL (r := v2) (s := (aK, (ByteArray.mk #[]))) _ (fun s3 => ⟨20, [(0, vi s3.1), (3, vs s3.2)], []⟩) _ (Le.sub0) h (fun s3 v4 h => ?_)
  refine swp_seq ?_
  refine srk tbok ⟨20, [(0, vi s3.1), (3, vs s3.2), (7, vb (decide (s3.1 > 0)))], []⟩ ?_
  refine swp_cd h (fun h => ?_) fun h => ?_
  refine swp_skip ?_
  refine nx_n ?_
  refine swp_blk (a := v4) ?_
  refine sr ?_
  refine SRun.ck tbok 5 ⟨20, [(0, vi s3.1), (3, vs s3.2), (12, .own 12)], [(12, oa 5 1 (eI .u8) ([(IntKind.wrap .u8 (w64 (48 + (Int.tmod s3.1 10))))] : List Int))]⟩ ?_
  refine SRun.ls (x_bytes_own (L := ([(IntKind.wrap .u8 (w64 (48 + (Int.tmod s3.1 10))))] : List Int)) (d := 12) (e' := 5) tbok rfl (e := 5) (ti := ti46) (tj := ti5) (tk := ti9)) ?_
  refine SRun.ck tbok 1 ⟨20, [(0, vi s3.1), (13, vs (strOfNums ([(IntKind.wrap .u8 (w64 (48 + (Int.tmod s3.1 10))))] : List Int))), (14, vs s3.2)], []⟩ ?_
  obtain ⟨x5, hx5, h⟩ := bind_some h
  refine SRun.ls (x_cat hx5 rfl) ?_
  refine ckn tbok 1 ⟨20, [(0, vi s3.1), (3, vs x5)], []⟩ ?_
  refine swp_reg ?_
  refine SRun.ck tbok 3 ⟨20, [(0, vi (w64 (Int.tdiv s3.1 10))), (3, vs x5)], []⟩ ?_
  refine SRun.nil ?_
  obtain rfl := inj h
  exact q_bn (q_l (Le.sub0))
  refine swp_exit ?_
  obtain rfl := inj h
  exact nx_e (q_re (q_bh (q_j (Le.sub0))))
  refine sr ?_
  refine SRun.ck tbok 1 ⟨20, [(18, vs j1)], []⟩ ?_
  obtain ⟨x6, hx6, h⟩ := bind_some h
  refine SRun.ls (x_cat hx6 rfl) ?_
  refine ckn tbok 1 ⟨20, [(2, vs x6)], []⟩ ?_
  refine swp_ret ?_
  obtain rfl := inj h
  exact q_fr (f1 fv)
theorem ents65 : Ents Tryz.prog 65 := ents_of Tryz.func65 (by kernel_rfl) rfl
noncomputable def laws_markCandidateS (aA : (List Candidate)) (aK : Int) : Option (Int × (List Candidate)) :=
  (((forH (fun (i3 : Int) (s3 : Int × (List Candidate)) => (decide (i3 < (s3.2.length : Int)))) (fun (i3 : Int) (s3 : Int × (List Candidate)) => ((laws_markText s3.1).bind fun x7 => ((at' s3.2 i3).bind fun x8 => ((laws_markText (w64 (s3.1 + 1))).bind fun x9 => ((at' (List.set s3.2 (Int.toNat i3) (Candidate.mk x7 x8.Text x8.At)) i3).bind fun x10 => ((at' (List.set (List.set s3.2 (Int.toNat i3) (Candidate.mk x7 x8.Text x8.At)) (Int.toNat i3) (Candidate.mk x10.Code x9 x10.At)) i3).bind fun x11 => ((at' (List.set (List.set (List.set s3.2 (Int.toNat i3) (Candidate.mk x7 x8.Text x8.At)) (Int.toNat i3) (Candidate.mk x10.Code x9 x10.At)) (Int.toNat i3) (Candidate.mk x11.Code x11.Text (Point.mk (w64 ((w64 (s3.1 + 1)) + 1)) x11.At.Y))) i3).bind fun x12 => some ((w64 ((w64 ((w64 ((w64 (s3.1 + 1)) + 1)) + 1)) + 1)), (List.set (List.set (List.set (List.set s3.2 (Int.toNat i3) (Candidate.mk x7 x8.Text x8.At)) (Int.toNat i3) (Candidate.mk x10.Code x9 x10.At)) (Int.toNat i3) (Candidate.mk x11.Code x11.Text (Point.mk (w64 ((w64 (s3.1 + 1)) + 1)) x11.At.Y))) (Int.toNat i3) (Candidate.mk x12.Code x12.Text (Point.mk x12.At.X (w64 ((w64 ((w64 (s3.1 + 1)) + 1)) + 1))))))))))))) (fun (s3 : Int × (List Candidate)) => (s3.1, s3.2)) 0 (aK, aA))).bind fun (j1 : Int × (List Candidate)) => some (j1.1, j1.2))
theorem laws_markCandidateS_run (aA : (List Candidate)) (aK : Int) (r : Int × (List Candidate)) (h : laws_markCandidateS aA aK = some r) : SCall Tryz.prog 19 [.o (oa 87 4 eCandidate aA), .v (vi aK)] ⟨[.v (vi r.1)], [(0, oa 87 4 eCandidate r.2)], false⟩ := by
  refine scall_in Tryz.func19 rfl [(.tmp 4)] rfl (fun r => ⟨[.v (vi r.1)], [(0, oa 87 4 eCandidate r.2)], false⟩) (r := r) ?_
  unfold laws_markCandidateS at h
  refine srk tbok ⟨45, [(0, .own 1000000), (1, vi aK)], [(1000000, oa 87 4 eCandidate aA)]⟩ ?_
  refine swp_seq ?_
  refine srk tbok ⟨45, [(0, .own 1000000), (1, vi aK), (5, vi 0)], [(1000000, oa 87 4 eCandidate aA)]⟩ ?_
  refine swp_seqJ h (fun j1 => ⟨45, [(1, vi j1.1)], [(1000000, oa 87 4 eCandidate j1.2)]⟩) (fun v2 h => ?_) (fun j1 h => ?_)
  refine swp_blk (a := v2) ?_
  refine swp_lpL (r := v2) (s := (0, aK, aA)) _ (fun s3 => ⟨45, [(0, .own 1000000), (1, vi s3.2.1), (5, vi s3.1)], [(1000000, oa 87 4 eCandidate s3.2.2)]⟩) _ (Le.sub0) h (fun s3 v4 h => ?_)
  refine swp_seq ?_
  refine srk tbok ⟨45, [(0, .own 1000000), (1, vi s3.2.1), (5, vi s3.1), (9, vb (decide (s3.1 < (s3.2.2.length : Int))))], [(1000000, oa 87 4 eCandidate s3.2.2)]⟩ ?_
  refine swp_cd h (fun h => ?_) fun h => ?_
  refine swp_skip ?_
  refine nx_n ?_
  refine swp_seq ?_
  refine swp_seqJ h (fun j5 => ⟨45, [(0, .own 1000000), (1, vi j5.1), (5, vi s3.1)], [(1000000, oa 87 4 eCandidate j5.2)]⟩) (fun v6 h => ?_) (fun j5 h => ?_)
  refine swp_blk (a := v6) ?_
  refine sr ?_
  refine SRun.ck tbok 3 ⟨45, [(0, .own 1000000), (1, vi s3.2.1), (5, vi s3.1), (12, .own 1000000), (13, vi s3.1), (14, vi s3.2.1)], [(1000000, oa 87 4 eCandidate s3.2.2)]⟩ ?_
  obtain ⟨x7, hx7, h⟩ := bind_some h
  refine SRun.ls (xc ents65 (laws_markText_run s3.2.1 _ hx7)) ?_
  obtain ⟨x8, hx8, h⟩ := bind_some h
  refine SRun.ls (x_index_own (d := 1000000) (L := s3.2.2) (f := eCandidate) (ti := ti31) (tj := ti87) (e := 87) (e' := 87) (m := 4) (k := .i64) tbok rfl hx8) ?_
  refine SRun.ck tbok 1 ⟨45, [(0, .own 1000000), (1, vi s3.2.1), (5, vi s3.1), (15, vs x7), (17, .eref 1000000 4 (Int.toNat s3.1) 0)], [(1000000, oa 87 4 eCandidate s3.2.2)]⟩ ?_
  refine SRun.estep (x_store_own (d := 1000000) (m := 4) (j := 0) (L := s3.2.2) (f := eCandidate) (x := (Candidate.mk x7 x8.Text x8.At)) (z := x8) (ti := ti9) (e := 87) (ts := [.str x7]) (vs := [vs x7]) (v := vs x7) tbok rfl rfl hx8) ?_
  refine SRun.nx ?_
  refine srk tbok ⟨45, [(0, .own 1000000), (1, vi (w64 (s3.2.1 + 1))), (5, vi s3.1)], [(1000000, oa 87 4 eCandidate (List.set s3.2.2 (Int.toNat s3.1) (Candidate.mk x7 x8.Text x8.At)))]⟩ ?_
  refine sr ?_
  refine SRun.ck tbok 3 ⟨45, [(0, .own 1000000), (1, vi (w64 (s3.2.1 + 1))), (5, vi s3.1), (20, .own 1000000), (21, vi s3.1), (22, vi (w64 (s3.2.1 + 1)))], [(1000000, oa 87 4 eCandidate (List.set s3.2.2 (Int.toNat s3.1) (Candidate.mk x7 x8.Text x8.At)))]⟩ ?_
  obtain ⟨x9, hx9, h⟩ := bind_some h
  refine SRun.ls (xc ents65 (laws_markText_run (w64 (s3.2.1 + 1)) _ hx9)) ?_
  obtain ⟨x10, hx10, h⟩ := bind_some h
  refine SRun.ls (x_index_own (d := 1000000) (L := (List.set s3.2.2 (Int.toNat s3.1) (Candidate.mk x7 x8.Text x8.At))) (f := eCandidate) (ti := ti31) (tj := ti87) (e := 87) (e' := 87) (m := 4) (k := .i64) tbok rfl hx10) ?_
  refine SRun.ck tbok 1 ⟨45, [(0, .own 1000000), (1, vi (w64 (s3.2.1 + 1))), (5, vi s3.1), (23, vs x9), (25, .eref 1000000 4 (Int.toNat s3.1) 1)], [(1000000, oa 87 4 eCandidate (List.set s3.2.2 (Int.toNat s3.1) (Candidate.mk x7 x8.Text x8.At)))]⟩ ?_
  refine SRun.estep (x_store_own (d := 1000000) (m := 4) (j := 1) (L := (List.set s3.2.2 (Int.toNat s3.1) (Candidate.mk x7 x8.Text x8.At))) (f := eCandidate) (x := (Candidate.mk x10.Code x9 x10.At)) (z := x10) (ti := ti9) (e := 87) (ts := [.str x9]) (vs := [vs x9]) (v := vs x9) tbok rfl rfl hx10) ?_
  refine SRun.nx ?_
  refine srk tbok ⟨45, [(0, .own 1000000), (1, vi (w64 ((w64 (s3.2.1 + 1)) + 1))), (5, vi s3.1)], [(1000000, oa 87 4 eCandidate (List.set (List.set s3.2.2 (Int.toNat s3.1) (Candidate.mk x7 x8.Text x8.At)) (Int.toNat s3.1) (Candidate.mk x10.Code x9 x10.At)))]⟩ ?_
  refine sr ?_
  refine SRun.ck tbok 3 ⟨45, [(0, .own 1000000), (1, vi (w64 ((w64 (s3.2.1 + 1)) + 1))), (5, vi s3.1), (28, .own 1000000), (29, vi s3.1), (30, vi (w64 ((w64 (s3.2.1 + 1)) + 1)))], [(1000000, oa 87 4 eCandidate (List.set (List.set s3.2.2 (Int.toNat s3.1) (Candidate.mk x7 x8.Text x8.At)) (Int.toNat s3.1) (Candidate.mk x10.Code x9 x10.At)))]⟩ ?_
  obtain ⟨x11, hx11, h⟩ := bind_some h
  refine SRun.ls (x_index_own (d := 1000000) (L := (List.set (List.set s3.2.2 (Int.toNat s3.1) (Candidate.mk x7 x8.Text x8.At)) (Int.toNat s3.1) (Candidate.mk x10.Code x9 x10.At))) (f := eCandidate) (ti := ti31) (tj := ti87) (e := 87) (e' := 87) (m := 4) (k := .i64) tbok rfl hx11) ?_
  refine SRun.ck tbok 2 ⟨45, [(0, .own 1000000), (1, vi (w64 ((w64 (s3.2.1 + 1)) + 1))), (5, vi s3.1), (30, vi (w64 ((w64 (s3.2.1 + 1)) + 1))), (33, .eref 1000000 4 (Int.toNat s3.1) 2)], [(1000000, oa 87 4 eCandidate (List.set (List.set s3.2.2 (Int.toNat s3.1) (Candidate.mk x7 x8.Text x8.At)) (Int.toNat s3.1) (Candidate.mk x10.Code x9 x10.At)))]⟩ ?_
  refine SRun.estep (x_store_own (d := 1000000) (m := 4) (j := 2) (L := (List.set (List.set s3.2.2 (Int.toNat s3.1) (Candidate.mk x7 x8.Text x8.At)) (Int.toNat s3.1) (Candidate.mk x10.Code x9 x10.At))) (f := eCandidate) (x := (Candidate.mk x11.Code x11.Text (Point.mk (w64 ((w64 (s3.2.1 + 1)) + 1)) x11.At.Y))) (z := x11) (ti := ti2) (e := 87) (ts := [.int .i64 (w64 ((w64 (s3.2.1 + 1)) + 1))]) (vs := [vi (w64 ((w64 (s3.2.1 + 1)) + 1))]) (v := vi (w64 ((w64 (s3.2.1 + 1)) + 1))) tbok rfl rfl hx11) ?_
  refine SRun.nx ?_
  refine srk tbok ⟨45, [(0, .own 1000000), (1, vi (w64 ((w64 ((w64 (s3.2.1 + 1)) + 1)) + 1))), (5, vi s3.1)], [(1000000, oa 87 4 eCandidate (List.set (List.set (List.set s3.2.2 (Int.toNat s3.1) (Candidate.mk x7 x8.Text x8.At)) (Int.toNat s3.1) (Candidate.mk x10.Code x9 x10.At)) (Int.toNat s3.1) (Candidate.mk x11.Code x11.Text (Point.mk (w64 ((w64 (s3.2.1 + 1)) + 1)) x11.At.Y))))]⟩ ?_
  refine sr ?_
  refine SRun.ck tbok 3 ⟨45, [(0, .own 1000000), (1, vi (w64 ((w64 ((w64 (s3.2.1 + 1)) + 1)) + 1))), (5, vi s3.1), (36, .own 1000000), (37, vi s3.1), (38, vi (w64 ((w64 ((w64 (s3.2.1 + 1)) + 1)) + 1)))], [(1000000, oa 87 4 eCandidate (List.set (List.set (List.set s3.2.2 (Int.toNat s3.1) (Candidate.mk x7 x8.Text x8.At)) (Int.toNat s3.1) (Candidate.mk x10.Code x9 x10.At)) (Int.toNat s3.1) (Candidate.mk x11.Code x11.Text (Point.mk (w64 ((w64 (s3.2.1 + 1)) + 1)) x11.At.Y))))]⟩ ?_
  obtain ⟨x12, hx12, h⟩ := bind_some h
  refine SRun.ls (x_index_own (d := 1000000) (L := (List.set (List.set (List.set s3.2.2 (Int.toNat s3.1) (Candidate.mk x7 x8.Text x8.At)) (Int.toNat s3.1) (Candidate.mk x10.Code x9 x10.At)) (Int.toNat s3.1) (Candidate.mk x11.Code x11.Text (Point.mk (w64 ((w64 (s3.2.1 + 1)) + 1)) x11.At.Y)))) (f := eCandidate) (ti := ti31) (tj := ti87) (e := 87) (e' := 87) (m := 4) (k := .i64) tbok rfl hx12) ?_
  refine SRun.ck tbok 2 ⟨45, [(0, .own 1000000), (1, vi (w64 ((w64 ((w64 (s3.2.1 + 1)) + 1)) + 1))), (5, vi s3.1), (38, vi (w64 ((w64 ((w64 (s3.2.1 + 1)) + 1)) + 1))), (41, .eref 1000000 4 (Int.toNat s3.1) 3)], [(1000000, oa 87 4 eCandidate (List.set (List.set (List.set s3.2.2 (Int.toNat s3.1) (Candidate.mk x7 x8.Text x8.At)) (Int.toNat s3.1) (Candidate.mk x10.Code x9 x10.At)) (Int.toNat s3.1) (Candidate.mk x11.Code x11.Text (Point.mk (w64 ((w64 (s3.2.1 + 1)) + 1)) x11.At.Y))))]⟩ ?_
  refine SRun.estep (x_store_own (d := 1000000) (m := 4) (j := 3) (L := (List.set (List.set (List.set s3.2.2 (Int.toNat s3.1) (Candidate.mk x7 x8.Text x8.At)) (Int.toNat s3.1) (Candidate.mk x10.Code x9 x10.At)) (Int.toNat s3.1) (Candidate.mk x11.Code x11.Text (Point.mk (w64 ((w64 (s3.2.1 + 1)) + 1)) x11.At.Y)))) (f := eCandidate) (x := (Candidate.mk x12.Code x12.Text (Point.mk x12.At.X (w64 ((w64 ((w64 (s3.2.1 + 1)) + 1)) + 1))))) (z := x12) (ti := ti2) (e := 87) (ts := [.int .i64 (w64 ((w64 ((w64 (s3.2.1 + 1)) + 1)) + 1))]) (vs := [vi (w64 ((w64 ((w64 (s3.2.1 + 1)) + 1)) + 1))]) (v := vi (w64 ((w64 ((w64 (s3.2.1 + 1)) + 1)) + 1))) tbok rfl rfl hx12) ?_
  refine SRun.nx ?_
  refine swp_reg ?_
  refine SRun.ck tbok 3 ⟨45, [(0, .own 1000000), (1, vi (w64 ((w64 ((w64 ((w64 (s3.2.1 + 1)) + 1)) + 1)) + 1))), (5, vi s3.1)], [(1000000, oa 87 4 eCandidate (List.set (List.set (List.set (List.set s3.2.2 (Int.toNat s3.1) (Candidate.mk x7 x8.Text x8.At)) (Int.toNat s3.1) (Candidate.mk x10.Code x9 x10.At)) (Int.toNat s3.1) (Candidate.mk x11.Code x11.Text (Point.mk (w64 ((w64 (s3.2.1 + 1)) + 1)) x11.At.Y))) (Int.toNat s3.1) (Candidate.mk x12.Code x12.Text (Point.mk x12.At.X (w64 ((w64 ((w64 (s3.2.1 + 1)) + 1)) + 1))))))]⟩ ?_
  refine SRun.nil ?_
  obtain rfl := inj h
  exact q_bn (q_j (Le.sub0))
  refine swp_reg ?_
  refine SRun.ck tbok 3 ⟨45, [(0, .own 1000000), (1, vi j5.1), (5, vi (w64 (s3.1 + 1)))], [(1000000, oa 87 4 eCandidate j5.2)]⟩ ?_
  refine SRun.nil ?_
  obtain rfl := inj h
  exact q_l (Le.sub0)
  refine swp_exit ?_
  obtain rfl := inj h
  exact nx_e (q_re (q_bh (q_j (Le.sub0))))
  refine srk tbok ⟨45, [(4, vi j1.1)], [(1000000, oa 87 4 eCandidate j1.2)]⟩ ?_
  refine swp_ret ?_
  obtain rfl := inj h
  exact q_fr (fin_io (f1 fv) (y := oa 87 4 eCandidate j1.2) (by kernel_rfl) rfl (by kernel_rfl) (by kernel_rfl))
theorem ents19 : Ents Tryz.prog 19 := ents_of Tryz.func19 (by kernel_rfl) rfl
noncomputable def laws_markSiteS (aA : (List Site)) (aK : Int) : Option (Int × (List Site)) :=
  (((forH (fun (i3 : Int) (s3 : Int × (List Site)) => (decide (i3 < (s3.2.length : Int)))) (fun (i3 : Int) (s3 : Int × (List Site)) => ((laws_markText s3.1).bind fun x7 => ((at' s3.2 i3).bind fun x8 => ((at' (List.set s3.2 (Int.toNat i3) (Site.mk x7 x8.At)) i3).bind fun x9 => ((at' (List.set (List.set s3.2 (Int.toNat i3) (Site.mk x7 x8.At)) (Int.toNat i3) (Site.mk x9.Code (Point.mk (w64 (s3.1 + 1)) x9.At.Y))) i3).bind fun x10 => some ((w64 ((w64 ((w64 (s3.1 + 1)) + 1)) + 1)), (List.set (List.set (List.set s3.2 (Int.toNat i3) (Site.mk x7 x8.At)) (Int.toNat i3) (Site.mk x9.Code (Point.mk (w64 (s3.1 + 1)) x9.At.Y))) (Int.toNat i3) (Site.mk x10.Code (Point.mk x10.At.X (w64 ((w64 (s3.1 + 1)) + 1))))))))))) (fun (s3 : Int × (List Site)) => (s3.1, s3.2)) 0 (aK, aA))).bind fun (j1 : Int × (List Site)) => some (j1.1, j1.2))
theorem laws_markSiteS_run (aA : (List Site)) (aK : Int) (r : Int × (List Site)) (h : laws_markSiteS aA aK = some r) : SCall Tryz.prog 20 [.o (oa 92 3 eSite aA), .v (vi aK)] ⟨[.v (vi r.1)], [(0, oa 92 3 eSite r.2)], false⟩ := by
  refine scall_in Tryz.func20 rfl [(.tmp 4)] rfl (fun r => ⟨[.v (vi r.1)], [(0, oa 92 3 eSite r.2)], false⟩) (r := r) ?_
  unfold laws_markSiteS at h
  refine srk tbok ⟨37, [(0, .own 1000000), (1, vi aK)], [(1000000, oa 92 3 eSite aA)]⟩ ?_
  refine swp_seq ?_
  refine srk tbok ⟨37, [(0, .own 1000000), (1, vi aK), (5, vi 0)], [(1000000, oa 92 3 eSite aA)]⟩ ?_
  refine swp_seqJ h (fun j1 => ⟨37, [(1, vi j1.1)], [(1000000, oa 92 3 eSite j1.2)]⟩) (fun v2 h => ?_) (fun j1 h => ?_)
  refine swp_blk (a := v2) ?_
  refine swp_lpL (r := v2) (s := (0, aK, aA)) _ (fun s3 => ⟨37, [(0, .own 1000000), (1, vi s3.2.1), (5, vi s3.1)], [(1000000, oa 92 3 eSite s3.2.2)]⟩) _ (Le.sub0) h (fun s3 v4 h => ?_)
  refine swp_seq ?_
  refine srk tbok ⟨37, [(0, .own 1000000), (1, vi s3.2.1), (5, vi s3.1), (9, vb (decide (s3.1 < (s3.2.2.length : Int))))], [(1000000, oa 92 3 eSite s3.2.2)]⟩ ?_
  refine swp_cd h (fun h => ?_) fun h => ?_
  refine swp_skip ?_
  refine nx_n ?_
  refine swp_seq ?_
  refine swp_seqJ h (fun j5 => ⟨37, [(0, .own 1000000), (1, vi j5.1), (5, vi s3.1)], [(1000000, oa 92 3 eSite j5.2)]⟩) (fun v6 h => ?_) (fun j5 h => ?_)
  refine swp_blk (a := v6) ?_
  refine sr ?_
  refine SRun.ck tbok 3 ⟨37, [(0, .own 1000000), (1, vi s3.2.1), (5, vi s3.1), (12, .own 1000000), (13, vi s3.1), (14, vi s3.2.1)], [(1000000, oa 92 3 eSite s3.2.2)]⟩ ?_
  obtain ⟨x7, hx7, h⟩ := bind_some h
  refine SRun.ls (xc ents65 (laws_markText_run s3.2.1 _ hx7)) ?_
  obtain ⟨x8, hx8, h⟩ := bind_some h
  refine SRun.ls (x_index_own (d := 1000000) (L := s3.2.2) (f := eSite) (ti := ti33) (tj := ti92) (e := 92) (e' := 92) (m := 3) (k := .i64) tbok rfl hx8) ?_
  refine SRun.ck tbok 1 ⟨37, [(0, .own 1000000), (1, vi s3.2.1), (5, vi s3.1), (15, vs x7), (17, .eref 1000000 3 (Int.toNat s3.1) 0)], [(1000000, oa 92 3 eSite s3.2.2)]⟩ ?_
  refine SRun.estep (x_store_own (d := 1000000) (m := 3) (j := 0) (L := s3.2.2) (f := eSite) (x := (Site.mk x7 x8.At)) (z := x8) (ti := ti9) (e := 92) (ts := [.str x7]) (vs := [vs x7]) (v := vs x7) tbok rfl rfl hx8) ?_
  refine SRun.nx ?_
  refine srk tbok ⟨37, [(0, .own 1000000), (1, vi (w64 (s3.2.1 + 1))), (5, vi s3.1)], [(1000000, oa 92 3 eSite (List.set s3.2.2 (Int.toNat s3.1) (Site.mk x7 x8.At)))]⟩ ?_
  refine sr ?_
  refine SRun.ck tbok 3 ⟨37, [(0, .own 1000000), (1, vi (w64 (s3.2.1 + 1))), (5, vi s3.1), (20, .own 1000000), (21, vi s3.1), (22, vi (w64 (s3.2.1 + 1)))], [(1000000, oa 92 3 eSite (List.set s3.2.2 (Int.toNat s3.1) (Site.mk x7 x8.At)))]⟩ ?_
  obtain ⟨x9, hx9, h⟩ := bind_some h
  refine SRun.ls (x_index_own (d := 1000000) (L := (List.set s3.2.2 (Int.toNat s3.1) (Site.mk x7 x8.At))) (f := eSite) (ti := ti33) (tj := ti92) (e := 92) (e' := 92) (m := 3) (k := .i64) tbok rfl hx9) ?_
  refine SRun.ck tbok 2 ⟨37, [(0, .own 1000000), (1, vi (w64 (s3.2.1 + 1))), (5, vi s3.1), (22, vi (w64 (s3.2.1 + 1))), (25, .eref 1000000 3 (Int.toNat s3.1) 1)], [(1000000, oa 92 3 eSite (List.set s3.2.2 (Int.toNat s3.1) (Site.mk x7 x8.At)))]⟩ ?_
  refine SRun.estep (x_store_own (d := 1000000) (m := 3) (j := 1) (L := (List.set s3.2.2 (Int.toNat s3.1) (Site.mk x7 x8.At))) (f := eSite) (x := (Site.mk x9.Code (Point.mk (w64 (s3.2.1 + 1)) x9.At.Y))) (z := x9) (ti := ti2) (e := 92) (ts := [.int .i64 (w64 (s3.2.1 + 1))]) (vs := [vi (w64 (s3.2.1 + 1))]) (v := vi (w64 (s3.2.1 + 1))) tbok rfl rfl hx9) ?_
  refine SRun.nx ?_
  refine srk tbok ⟨37, [(0, .own 1000000), (1, vi (w64 ((w64 (s3.2.1 + 1)) + 1))), (5, vi s3.1)], [(1000000, oa 92 3 eSite (List.set (List.set s3.2.2 (Int.toNat s3.1) (Site.mk x7 x8.At)) (Int.toNat s3.1) (Site.mk x9.Code (Point.mk (w64 (s3.2.1 + 1)) x9.At.Y))))]⟩ ?_
  refine sr ?_
  refine SRun.ck tbok 3 ⟨37, [(0, .own 1000000), (1, vi (w64 ((w64 (s3.2.1 + 1)) + 1))), (5, vi s3.1), (28, .own 1000000), (29, vi s3.1), (30, vi (w64 ((w64 (s3.2.1 + 1)) + 1)))], [(1000000, oa 92 3 eSite (List.set (List.set s3.2.2 (Int.toNat s3.1) (Site.mk x7 x8.At)) (Int.toNat s3.1) (Site.mk x9.Code (Point.mk (w64 (s3.2.1 + 1)) x9.At.Y))))]⟩ ?_
  obtain ⟨x10, hx10, h⟩ := bind_some h
  refine SRun.ls (x_index_own (d := 1000000) (L := (List.set (List.set s3.2.2 (Int.toNat s3.1) (Site.mk x7 x8.At)) (Int.toNat s3.1) (Site.mk x9.Code (Point.mk (w64 (s3.2.1 + 1)) x9.At.Y)))) (f := eSite) (ti := ti33) (tj := ti92) (e := 92) (e' := 92) (m := 3) (k := .i64) tbok rfl hx10) ?_
  refine SRun.ck tbok 2 ⟨37, [(0, .own 1000000), (1, vi (w64 ((w64 (s3.2.1 + 1)) + 1))), (5, vi s3.1), (30, vi (w64 ((w64 (s3.2.1 + 1)) + 1))), (33, .eref 1000000 3 (Int.toNat s3.1) 2)], [(1000000, oa 92 3 eSite (List.set (List.set s3.2.2 (Int.toNat s3.1) (Site.mk x7 x8.At)) (Int.toNat s3.1) (Site.mk x9.Code (Point.mk (w64 (s3.2.1 + 1)) x9.At.Y))))]⟩ ?_
  refine SRun.estep (x_store_own (d := 1000000) (m := 3) (j := 2) (L := (List.set (List.set s3.2.2 (Int.toNat s3.1) (Site.mk x7 x8.At)) (Int.toNat s3.1) (Site.mk x9.Code (Point.mk (w64 (s3.2.1 + 1)) x9.At.Y)))) (f := eSite) (x := (Site.mk x10.Code (Point.mk x10.At.X (w64 ((w64 (s3.2.1 + 1)) + 1))))) (z := x10) (ti := ti2) (e := 92) (ts := [.int .i64 (w64 ((w64 (s3.2.1 + 1)) + 1))]) (vs := [vi (w64 ((w64 (s3.2.1 + 1)) + 1))]) (v := vi (w64 ((w64 (s3.2.1 + 1)) + 1))) tbok rfl rfl hx10) ?_
  refine SRun.nx ?_
  refine swp_reg ?_
  refine SRun.ck tbok 3 ⟨37, [(0, .own 1000000), (1, vi (w64 ((w64 ((w64 (s3.2.1 + 1)) + 1)) + 1))), (5, vi s3.1)], [(1000000, oa 92 3 eSite (List.set (List.set (List.set s3.2.2 (Int.toNat s3.1) (Site.mk x7 x8.At)) (Int.toNat s3.1) (Site.mk x9.Code (Point.mk (w64 (s3.2.1 + 1)) x9.At.Y))) (Int.toNat s3.1) (Site.mk x10.Code (Point.mk x10.At.X (w64 ((w64 (s3.2.1 + 1)) + 1))))))]⟩ ?_
  refine SRun.nil ?_
  obtain rfl := inj h
  exact q_bn (q_j (Le.sub0))
  refine swp_reg ?_
  refine SRun.ck tbok 3 ⟨37, [(0, .own 1000000), (1, vi j5.1), (5, vi (w64 (s3.1 + 1)))], [(1000000, oa 92 3 eSite j5.2)]⟩ ?_
  refine SRun.nil ?_
  obtain rfl := inj h
  exact q_l (Le.sub0)
  refine swp_exit ?_
  obtain rfl := inj h
  exact nx_e (q_re (q_bh (q_j (Le.sub0))))
  refine srk tbok ⟨37, [(4, vi j1.1)], [(1000000, oa 92 3 eSite j1.2)]⟩ ?_
  refine swp_ret ?_
  obtain rfl := inj h
  exact q_fr (fin_io (f1 fv) (y := oa 92 3 eSite j1.2) (by kernel_rfl) rfl (by kernel_rfl) (by kernel_rfl))
theorem ents20 : Ents Tryz.prog 20 := ents_of Tryz.func20 (by kernel_rfl) rfl
noncomputable def laws_markDescriptionS (aA : (List Description)) (aK : Int) : Option (Int × (List Description)) :=
  (((forH (fun (i3 : Int) (s3 : Int × (List Description)) => (decide (i3 < (s3.2.length : Int)))) (fun (i3 : Int) (s3 : Int × (List Description)) => ((at' s3.2 i3).bind fun x7 => ((at' (List.set s3.2 (Int.toNat i3) (Description.mk s3.1 x7.Count x7.Unit x7.Direction x7.A x7.B)) i3).bind fun x8 => ((laws_markText (w64 ((w64 (s3.1 + 1)) + 1))).bind fun x9 => ((at' (List.set (List.set s3.2 (Int.toNat i3) (Description.mk s3.1 x7.Count x7.Unit x7.Direction x7.A x7.B)) (Int.toNat i3) (Description.mk x8.Kind (w64 (s3.1 + 1)) x8.Unit x8.Direction x8.A x8.B)) i3).bind fun x10 => ((at' (List.set (List.set (List.set s3.2 (Int.toNat i3) (Description.mk s3.1 x7.Count x7.Unit x7.Direction x7.A x7.B)) (Int.toNat i3) (Description.mk x8.Kind (w64 (s3.1 + 1)) x8.Unit x8.Direction x8.A x8.B)) (Int.toNat i3) (Description.mk x10.Kind x10.Count x9 x10.Direction x10.A x10.B)) i3).bind fun x11 => ((laws_markText (w64 ((w64 ((w64 ((w64 (s3.1 + 1)) + 1)) + 1)) + 1))).bind fun x12 => ((at' (List.set (List.set (List.set (List.set s3.2 (Int.toNat i3) (Description.mk s3.1 x7.Count x7.Unit x7.Direction x7.A x7.B)) (Int.toNat i3) (Description.mk x8.Kind (w64 (s3.1 + 1)) x8.Unit x8.Direction x8.A x8.B)) (Int.toNat i3) (Description.mk x10.Kind x10.Count x9 x10.Direction x10.A x10.B)) (Int.toNat i3) (Description.mk x11.Kind x11.Count x11.Unit (w64 ((w64 ((w64 (s3.1 + 1)) + 1)) + 1)) x11.A x11.B)) i3).bind fun x13 => ((laws_markText (w64 ((w64 ((w64 ((w64 ((w64 (s3.1 + 1)) + 1)) + 1)) + 1)) + 1))).bind fun x14 => ((at' (List.set (List.set (List.set (List.set (List.set s3.2 (Int.toNat i3) (Description.mk s3.1 x7.Count x7.Unit x7.Direction x7.A x7.B)) (Int.toNat i3) (Description.mk x8.Kind (w64 (s3.1 + 1)) x8.Unit x8.Direction x8.A x8.B)) (Int.toNat i3) (Description.mk x10.Kind x10.Count x9 x10.Direction x10.A x10.B)) (Int.toNat i3) (Description.mk x11.Kind x11.Count x11.Unit (w64 ((w64 ((w64 (s3.1 + 1)) + 1)) + 1)) x11.A x11.B)) (Int.toNat i3) (Description.mk x13.Kind x13.Count x13.Unit x13.Direction x12 x13.B)) i3).bind fun x15 => some ((w64 ((w64 ((w64 ((w64 ((w64 ((w64 (s3.1 + 1)) + 1)) + 1)) + 1)) + 1)) + 1)), (List.set (List.set (List.set (List.set (List.set (List.set s3.2 (Int.toNat i3) (Description.mk s3.1 x7.Count x7.Unit x7.Direction x7.A x7.B)) (Int.toNat i3) (Description.mk x8.Kind (w64 (s3.1 + 1)) x8.Unit x8.Direction x8.A x8.B)) (Int.toNat i3) (Description.mk x10.Kind x10.Count x9 x10.Direction x10.A x10.B)) (Int.toNat i3) (Description.mk x11.Kind x11.Count x11.Unit (w64 ((w64 ((w64 (s3.1 + 1)) + 1)) + 1)) x11.A x11.B)) (Int.toNat i3) (Description.mk x13.Kind x13.Count x13.Unit x13.Direction x12 x13.B)) (Int.toNat i3) (Description.mk x15.Kind x15.Count x15.Unit x15.Direction x15.A x14))))))))))))) (fun (s3 : Int × (List Description)) => (s3.1, s3.2)) 0 (aK, aA))).bind fun (j1 : Int × (List Description)) => some (j1.1, j1.2))
theorem laws_markDescriptionS_run (aA : (List Description)) (aK : Int) (r : Int × (List Description)) (h : laws_markDescriptionS aA aK = some r) : SCall Tryz.prog 21 [.o (oa 84 6 eDescription aA), .v (vi aK)] ⟨[.v (vi r.1)], [(0, oa 84 6 eDescription r.2)], false⟩ := by
  refine scall_in Tryz.func21 rfl [(.tmp 4)] rfl (fun r => ⟨[.v (vi r.1)], [(0, oa 84 6 eDescription r.2)], false⟩) (r := r) ?_
  unfold laws_markDescriptionS at h
  refine srk tbok ⟨58, [(0, .own 1000000), (1, vi aK)], [(1000000, oa 84 6 eDescription aA)]⟩ ?_
  refine swp_seq ?_
  refine srk tbok ⟨58, [(0, .own 1000000), (1, vi aK), (5, vi 0)], [(1000000, oa 84 6 eDescription aA)]⟩ ?_
  refine swp_seqJ h (fun j1 => ⟨58, [(1, vi j1.1)], [(1000000, oa 84 6 eDescription j1.2)]⟩) (fun v2 h => ?_) (fun j1 h => ?_)
  refine swp_blk (a := v2) ?_
  refine swp_lpL (r := v2) (s := (0, aK, aA)) _ (fun s3 => ⟨58, [(0, .own 1000000), (1, vi s3.2.1), (5, vi s3.1)], [(1000000, oa 84 6 eDescription s3.2.2)]⟩) _ (Le.sub0) h (fun s3 v4 h => ?_)
  refine swp_seq ?_
  refine srk tbok ⟨58, [(0, .own 1000000), (1, vi s3.2.1), (5, vi s3.1), (9, vb (decide (s3.1 < (s3.2.2.length : Int))))], [(1000000, oa 84 6 eDescription s3.2.2)]⟩ ?_
  refine swp_cd h (fun h => ?_) fun h => ?_
  refine swp_skip ?_
  refine nx_n ?_
  refine swp_seq ?_
  refine swp_seqJ h (fun j5 => ⟨58, [(0, .own 1000000), (1, vi j5.1), (5, vi s3.1)], [(1000000, oa 84 6 eDescription j5.2)]⟩) (fun v6 h => ?_) (fun j5 h => ?_)
  refine swp_blk (a := v6) ?_
  refine sr ?_
  refine SRun.ck tbok 3 ⟨58, [(0, .own 1000000), (1, vi s3.2.1), (5, vi s3.1), (12, .own 1000000), (13, vi s3.1), (14, vi s3.2.1)], [(1000000, oa 84 6 eDescription s3.2.2)]⟩ ?_
  obtain ⟨x7, hx7, h⟩ := bind_some h
  refine SRun.ls (x_index_own (d := 1000000) (L := s3.2.2) (f := eDescription) (ti := ti35) (tj := ti84) (e := 84) (e' := 84) (m := 6) (k := .i64) tbok rfl hx7) ?_
  refine SRun.ck tbok 1 ⟨58, [(0, .own 1000000), (1, vi s3.2.1), (5, vi s3.1), (14, vi s3.2.1), (16, .eref 1000000 6 (Int.toNat s3.1) 0)], [(1000000, oa 84 6 eDescription s3.2.2)]⟩ ?_
  refine SRun.estep (x_store_own (d := 1000000) (m := 6) (j := 0) (L := s3.2.2) (f := eDescription) (x := (Description.mk s3.2.1 x7.Count x7.Unit x7.Direction x7.A x7.B)) (z := x7) (ti := ti2) (e := 84) (ts := [.int .i64 s3.2.1]) (vs := [vi s3.2.1]) (v := vi s3.2.1) tbok rfl rfl hx7) ?_
  refine SRun.nx ?_
  refine srk tbok ⟨58, [(0, .own 1000000), (1, vi (w64 (s3.2.1 + 1))), (5, vi s3.1)], [(1000000, oa 84 6 eDescription (List.set s3.2.2 (Int.toNat s3.1) (Description.mk s3.2.1 x7.Count x7.Unit x7.Direction x7.A x7.B)))]⟩ ?_
  refine sr ?_
  refine SRun.ck tbok 3 ⟨58, [(0, .own 1000000), (1, vi (w64 (s3.2.1 + 1))), (5, vi s3.1), (19, .own 1000000), (20, vi s3.1), (21, vi (w64 (s3.2.1 + 1)))], [(1000000, oa 84 6 eDescription (List.set s3.2.2 (Int.toNat s3.1) (Description.mk s3.2.1 x7.Count x7.Unit x7.Direction x7.A x7.B)))]⟩ ?_
  obtain ⟨x8, hx8, h⟩ := bind_some h
  refine SRun.ls (x_index_own (d := 1000000) (L := (List.set s3.2.2 (Int.toNat s3.1) (Description.mk s3.2.1 x7.Count x7.Unit x7.Direction x7.A x7.B))) (f := eDescription) (ti := ti35) (tj := ti84) (e := 84) (e' := 84) (m := 6) (k := .i64) tbok rfl hx8) ?_
  refine SRun.ck tbok 1 ⟨58, [(0, .own 1000000), (1, vi (w64 (s3.2.1 + 1))), (5, vi s3.1), (21, vi (w64 (s3.2.1 + 1))), (23, .eref 1000000 6 (Int.toNat s3.1) 1)], [(1000000, oa 84 6 eDescription (List.set s3.2.2 (Int.toNat s3.1) (Description.mk s3.2.1 x7.Count x7.Unit x7.Direction x7.A x7.B)))]⟩ ?_
  refine SRun.estep (x_store_own (d := 1000000) (m := 6) (j := 1) (L := (List.set s3.2.2 (Int.toNat s3.1) (Description.mk s3.2.1 x7.Count x7.Unit x7.Direction x7.A x7.B))) (f := eDescription) (x := (Description.mk x8.Kind (w64 (s3.2.1 + 1)) x8.Unit x8.Direction x8.A x8.B)) (z := x8) (ti := ti2) (e := 84) (ts := [.int .i64 (w64 (s3.2.1 + 1))]) (vs := [vi (w64 (s3.2.1 + 1))]) (v := vi (w64 (s3.2.1 + 1))) tbok rfl rfl hx8) ?_
  refine SRun.nx ?_
  refine srk tbok ⟨58, [(0, .own 1000000), (1, vi (w64 ((w64 (s3.2.1 + 1)) + 1))), (5, vi s3.1)], [(1000000, oa 84 6 eDescription (List.set (List.set s3.2.2 (Int.toNat s3.1) (Description.mk s3.2.1 x7.Count x7.Unit x7.Direction x7.A x7.B)) (Int.toNat s3.1) (Description.mk x8.Kind (w64 (s3.2.1 + 1)) x8.Unit x8.Direction x8.A x8.B)))]⟩ ?_
  refine sr ?_
  refine SRun.ck tbok 3 ⟨58, [(0, .own 1000000), (1, vi (w64 ((w64 (s3.2.1 + 1)) + 1))), (5, vi s3.1), (26, .own 1000000), (27, vi s3.1), (28, vi (w64 ((w64 (s3.2.1 + 1)) + 1)))], [(1000000, oa 84 6 eDescription (List.set (List.set s3.2.2 (Int.toNat s3.1) (Description.mk s3.2.1 x7.Count x7.Unit x7.Direction x7.A x7.B)) (Int.toNat s3.1) (Description.mk x8.Kind (w64 (s3.2.1 + 1)) x8.Unit x8.Direction x8.A x8.B)))]⟩ ?_
  obtain ⟨x9, hx9, h⟩ := bind_some h
  refine SRun.ls (xc ents65 (laws_markText_run (w64 ((w64 (s3.2.1 + 1)) + 1)) _ hx9)) ?_
  obtain ⟨x10, hx10, h⟩ := bind_some h
  refine SRun.ls (x_index_own (d := 1000000) (L := (List.set (List.set s3.2.2 (Int.toNat s3.1) (Description.mk s3.2.1 x7.Count x7.Unit x7.Direction x7.A x7.B)) (Int.toNat s3.1) (Description.mk x8.Kind (w64 (s3.2.1 + 1)) x8.Unit x8.Direction x8.A x8.B))) (f := eDescription) (ti := ti35) (tj := ti84) (e := 84) (e' := 84) (m := 6) (k := .i64) tbok rfl hx10) ?_
  refine SRun.ck tbok 1 ⟨58, [(0, .own 1000000), (1, vi (w64 ((w64 (s3.2.1 + 1)) + 1))), (5, vi s3.1), (29, vs x9), (31, .eref 1000000 6 (Int.toNat s3.1) 2)], [(1000000, oa 84 6 eDescription (List.set (List.set s3.2.2 (Int.toNat s3.1) (Description.mk s3.2.1 x7.Count x7.Unit x7.Direction x7.A x7.B)) (Int.toNat s3.1) (Description.mk x8.Kind (w64 (s3.2.1 + 1)) x8.Unit x8.Direction x8.A x8.B)))]⟩ ?_
  refine SRun.estep (x_store_own (d := 1000000) (m := 6) (j := 2) (L := (List.set (List.set s3.2.2 (Int.toNat s3.1) (Description.mk s3.2.1 x7.Count x7.Unit x7.Direction x7.A x7.B)) (Int.toNat s3.1) (Description.mk x8.Kind (w64 (s3.2.1 + 1)) x8.Unit x8.Direction x8.A x8.B))) (f := eDescription) (x := (Description.mk x10.Kind x10.Count x9 x10.Direction x10.A x10.B)) (z := x10) (ti := ti9) (e := 84) (ts := [.str x9]) (vs := [vs x9]) (v := vs x9) tbok rfl rfl hx10) ?_
  refine SRun.nx ?_
  refine srk tbok ⟨58, [(0, .own 1000000), (1, vi (w64 ((w64 ((w64 (s3.2.1 + 1)) + 1)) + 1))), (5, vi s3.1)], [(1000000, oa 84 6 eDescription (List.set (List.set (List.set s3.2.2 (Int.toNat s3.1) (Description.mk s3.2.1 x7.Count x7.Unit x7.Direction x7.A x7.B)) (Int.toNat s3.1) (Description.mk x8.Kind (w64 (s3.2.1 + 1)) x8.Unit x8.Direction x8.A x8.B)) (Int.toNat s3.1) (Description.mk x10.Kind x10.Count x9 x10.Direction x10.A x10.B)))]⟩ ?_
  refine sr ?_
  refine SRun.ck tbok 3 ⟨58, [(0, .own 1000000), (1, vi (w64 ((w64 ((w64 (s3.2.1 + 1)) + 1)) + 1))), (5, vi s3.1), (34, .own 1000000), (35, vi s3.1), (36, vi (w64 ((w64 ((w64 (s3.2.1 + 1)) + 1)) + 1)))], [(1000000, oa 84 6 eDescription (List.set (List.set (List.set s3.2.2 (Int.toNat s3.1) (Description.mk s3.2.1 x7.Count x7.Unit x7.Direction x7.A x7.B)) (Int.toNat s3.1) (Description.mk x8.Kind (w64 (s3.2.1 + 1)) x8.Unit x8.Direction x8.A x8.B)) (Int.toNat s3.1) (Description.mk x10.Kind x10.Count x9 x10.Direction x10.A x10.B)))]⟩ ?_
  obtain ⟨x11, hx11, h⟩ := bind_some h
  refine SRun.ls (x_index_own (d := 1000000) (L := (List.set (List.set (List.set s3.2.2 (Int.toNat s3.1) (Description.mk s3.2.1 x7.Count x7.Unit x7.Direction x7.A x7.B)) (Int.toNat s3.1) (Description.mk x8.Kind (w64 (s3.2.1 + 1)) x8.Unit x8.Direction x8.A x8.B)) (Int.toNat s3.1) (Description.mk x10.Kind x10.Count x9 x10.Direction x10.A x10.B))) (f := eDescription) (ti := ti35) (tj := ti84) (e := 84) (e' := 84) (m := 6) (k := .i64) tbok rfl hx11) ?_
  refine SRun.ck tbok 1 ⟨58, [(0, .own 1000000), (1, vi (w64 ((w64 ((w64 (s3.2.1 + 1)) + 1)) + 1))), (5, vi s3.1), (36, vi (w64 ((w64 ((w64 (s3.2.1 + 1)) + 1)) + 1))), (38, .eref 1000000 6 (Int.toNat s3.1) 3)], [(1000000, oa 84 6 eDescription (List.set (List.set (List.set s3.2.2 (Int.toNat s3.1) (Description.mk s3.2.1 x7.Count x7.Unit x7.Direction x7.A x7.B)) (Int.toNat s3.1) (Description.mk x8.Kind (w64 (s3.2.1 + 1)) x8.Unit x8.Direction x8.A x8.B)) (Int.toNat s3.1) (Description.mk x10.Kind x10.Count x9 x10.Direction x10.A x10.B)))]⟩ ?_
  refine SRun.estep (x_store_own (d := 1000000) (m := 6) (j := 3) (L := (List.set (List.set (List.set s3.2.2 (Int.toNat s3.1) (Description.mk s3.2.1 x7.Count x7.Unit x7.Direction x7.A x7.B)) (Int.toNat s3.1) (Description.mk x8.Kind (w64 (s3.2.1 + 1)) x8.Unit x8.Direction x8.A x8.B)) (Int.toNat s3.1) (Description.mk x10.Kind x10.Count x9 x10.Direction x10.A x10.B))) (f := eDescription) (x := (Description.mk x11.Kind x11.Count x11.Unit (w64 ((w64 ((w64 (s3.2.1 + 1)) + 1)) + 1)) x11.A x11.B)) (z := x11) (ti := ti2) (e := 84) (ts := [.int .i64 (w64 ((w64 ((w64 (s3.2.1 + 1)) + 1)) + 1))]) (vs := [vi (w64 ((w64 ((w64 (s3.2.1 + 1)) + 1)) + 1))]) (v := vi (w64 ((w64 ((w64 (s3.2.1 + 1)) + 1)) + 1))) tbok rfl rfl hx11) ?_
  refine SRun.nx ?_
  refine srk tbok ⟨58, [(0, .own 1000000), (1, vi (w64 ((w64 ((w64 ((w64 (s3.2.1 + 1)) + 1)) + 1)) + 1))), (5, vi s3.1)], [(1000000, oa 84 6 eDescription (List.set (List.set (List.set (List.set s3.2.2 (Int.toNat s3.1) (Description.mk s3.2.1 x7.Count x7.Unit x7.Direction x7.A x7.B)) (Int.toNat s3.1) (Description.mk x8.Kind (w64 (s3.2.1 + 1)) x8.Unit x8.Direction x8.A x8.B)) (Int.toNat s3.1) (Description.mk x10.Kind x10.Count x9 x10.Direction x10.A x10.B)) (Int.toNat s3.1) (Description.mk x11.Kind x11.Count x11.Unit (w64 ((w64 ((w64 (s3.2.1 + 1)) + 1)) + 1)) x11.A x11.B)))]⟩ ?_
  refine sr ?_
  refine SRun.ck tbok 3 ⟨58, [(0, .own 1000000), (1, vi (w64 ((w64 ((w64 ((w64 (s3.2.1 + 1)) + 1)) + 1)) + 1))), (5, vi s3.1), (41, .own 1000000), (42, vi s3.1), (43, vi (w64 ((w64 ((w64 ((w64 (s3.2.1 + 1)) + 1)) + 1)) + 1)))], [(1000000, oa 84 6 eDescription (List.set (List.set (List.set (List.set s3.2.2 (Int.toNat s3.1) (Description.mk s3.2.1 x7.Count x7.Unit x7.Direction x7.A x7.B)) (Int.toNat s3.1) (Description.mk x8.Kind (w64 (s3.2.1 + 1)) x8.Unit x8.Direction x8.A x8.B)) (Int.toNat s3.1) (Description.mk x10.Kind x10.Count x9 x10.Direction x10.A x10.B)) (Int.toNat s3.1) (Description.mk x11.Kind x11.Count x11.Unit (w64 ((w64 ((w64 (s3.2.1 + 1)) + 1)) + 1)) x11.A x11.B)))]⟩ ?_
  obtain ⟨x12, hx12, h⟩ := bind_some h
  refine SRun.ls (xc ents65 (laws_markText_run (w64 ((w64 ((w64 ((w64 (s3.2.1 + 1)) + 1)) + 1)) + 1)) _ hx12)) ?_
  obtain ⟨x13, hx13, h⟩ := bind_some h
  refine SRun.ls (x_index_own (d := 1000000) (L := (List.set (List.set (List.set (List.set s3.2.2 (Int.toNat s3.1) (Description.mk s3.2.1 x7.Count x7.Unit x7.Direction x7.A x7.B)) (Int.toNat s3.1) (Description.mk x8.Kind (w64 (s3.2.1 + 1)) x8.Unit x8.Direction x8.A x8.B)) (Int.toNat s3.1) (Description.mk x10.Kind x10.Count x9 x10.Direction x10.A x10.B)) (Int.toNat s3.1) (Description.mk x11.Kind x11.Count x11.Unit (w64 ((w64 ((w64 (s3.2.1 + 1)) + 1)) + 1)) x11.A x11.B))) (f := eDescription) (ti := ti35) (tj := ti84) (e := 84) (e' := 84) (m := 6) (k := .i64) tbok rfl hx13) ?_
  refine SRun.ck tbok 1 ⟨58, [(0, .own 1000000), (1, vi (w64 ((w64 ((w64 ((w64 (s3.2.1 + 1)) + 1)) + 1)) + 1))), (5, vi s3.1), (44, vs x12), (46, .eref 1000000 6 (Int.toNat s3.1) 4)], [(1000000, oa 84 6 eDescription (List.set (List.set (List.set (List.set s3.2.2 (Int.toNat s3.1) (Description.mk s3.2.1 x7.Count x7.Unit x7.Direction x7.A x7.B)) (Int.toNat s3.1) (Description.mk x8.Kind (w64 (s3.2.1 + 1)) x8.Unit x8.Direction x8.A x8.B)) (Int.toNat s3.1) (Description.mk x10.Kind x10.Count x9 x10.Direction x10.A x10.B)) (Int.toNat s3.1) (Description.mk x11.Kind x11.Count x11.Unit (w64 ((w64 ((w64 (s3.2.1 + 1)) + 1)) + 1)) x11.A x11.B)))]⟩ ?_
  refine SRun.estep (x_store_own (d := 1000000) (m := 6) (j := 4) (L := (List.set (List.set (List.set (List.set s3.2.2 (Int.toNat s3.1) (Description.mk s3.2.1 x7.Count x7.Unit x7.Direction x7.A x7.B)) (Int.toNat s3.1) (Description.mk x8.Kind (w64 (s3.2.1 + 1)) x8.Unit x8.Direction x8.A x8.B)) (Int.toNat s3.1) (Description.mk x10.Kind x10.Count x9 x10.Direction x10.A x10.B)) (Int.toNat s3.1) (Description.mk x11.Kind x11.Count x11.Unit (w64 ((w64 ((w64 (s3.2.1 + 1)) + 1)) + 1)) x11.A x11.B))) (f := eDescription) (x := (Description.mk x13.Kind x13.Count x13.Unit x13.Direction x12 x13.B)) (z := x13) (ti := ti9) (e := 84) (ts := [.str x12]) (vs := [vs x12]) (v := vs x12) tbok rfl rfl hx13) ?_
  refine SRun.nx ?_
  refine srk tbok ⟨58, [(0, .own 1000000), (1, vi (w64 ((w64 ((w64 ((w64 ((w64 (s3.2.1 + 1)) + 1)) + 1)) + 1)) + 1))), (5, vi s3.1)], [(1000000, oa 84 6 eDescription (List.set (List.set (List.set (List.set (List.set s3.2.2 (Int.toNat s3.1) (Description.mk s3.2.1 x7.Count x7.Unit x7.Direction x7.A x7.B)) (Int.toNat s3.1) (Description.mk x8.Kind (w64 (s3.2.1 + 1)) x8.Unit x8.Direction x8.A x8.B)) (Int.toNat s3.1) (Description.mk x10.Kind x10.Count x9 x10.Direction x10.A x10.B)) (Int.toNat s3.1) (Description.mk x11.Kind x11.Count x11.Unit (w64 ((w64 ((w64 (s3.2.1 + 1)) + 1)) + 1)) x11.A x11.B)) (Int.toNat s3.1) (Description.mk x13.Kind x13.Count x13.Unit x13.Direction x12 x13.B)))]⟩ ?_
  refine sr ?_
  refine SRun.ck tbok 3 ⟨58, [(0, .own 1000000), (1, vi (w64 ((w64 ((w64 ((w64 ((w64 (s3.2.1 + 1)) + 1)) + 1)) + 1)) + 1))), (5, vi s3.1), (49, .own 1000000), (50, vi s3.1), (51, vi (w64 ((w64 ((w64 ((w64 ((w64 (s3.2.1 + 1)) + 1)) + 1)) + 1)) + 1)))], [(1000000, oa 84 6 eDescription (List.set (List.set (List.set (List.set (List.set s3.2.2 (Int.toNat s3.1) (Description.mk s3.2.1 x7.Count x7.Unit x7.Direction x7.A x7.B)) (Int.toNat s3.1) (Description.mk x8.Kind (w64 (s3.2.1 + 1)) x8.Unit x8.Direction x8.A x8.B)) (Int.toNat s3.1) (Description.mk x10.Kind x10.Count x9 x10.Direction x10.A x10.B)) (Int.toNat s3.1) (Description.mk x11.Kind x11.Count x11.Unit (w64 ((w64 ((w64 (s3.2.1 + 1)) + 1)) + 1)) x11.A x11.B)) (Int.toNat s3.1) (Description.mk x13.Kind x13.Count x13.Unit x13.Direction x12 x13.B)))]⟩ ?_
  obtain ⟨x14, hx14, h⟩ := bind_some h
  refine SRun.ls (xc ents65 (laws_markText_run (w64 ((w64 ((w64 ((w64 ((w64 (s3.2.1 + 1)) + 1)) + 1)) + 1)) + 1)) _ hx14)) ?_
  obtain ⟨x15, hx15, h⟩ := bind_some h
  refine SRun.ls (x_index_own (d := 1000000) (L := (List.set (List.set (List.set (List.set (List.set s3.2.2 (Int.toNat s3.1) (Description.mk s3.2.1 x7.Count x7.Unit x7.Direction x7.A x7.B)) (Int.toNat s3.1) (Description.mk x8.Kind (w64 (s3.2.1 + 1)) x8.Unit x8.Direction x8.A x8.B)) (Int.toNat s3.1) (Description.mk x10.Kind x10.Count x9 x10.Direction x10.A x10.B)) (Int.toNat s3.1) (Description.mk x11.Kind x11.Count x11.Unit (w64 ((w64 ((w64 (s3.2.1 + 1)) + 1)) + 1)) x11.A x11.B)) (Int.toNat s3.1) (Description.mk x13.Kind x13.Count x13.Unit x13.Direction x12 x13.B))) (f := eDescription) (ti := ti35) (tj := ti84) (e := 84) (e' := 84) (m := 6) (k := .i64) tbok rfl hx15) ?_
  refine SRun.ck tbok 1 ⟨58, [(0, .own 1000000), (1, vi (w64 ((w64 ((w64 ((w64 ((w64 (s3.2.1 + 1)) + 1)) + 1)) + 1)) + 1))), (5, vi s3.1), (52, vs x14), (54, .eref 1000000 6 (Int.toNat s3.1) 5)], [(1000000, oa 84 6 eDescription (List.set (List.set (List.set (List.set (List.set s3.2.2 (Int.toNat s3.1) (Description.mk s3.2.1 x7.Count x7.Unit x7.Direction x7.A x7.B)) (Int.toNat s3.1) (Description.mk x8.Kind (w64 (s3.2.1 + 1)) x8.Unit x8.Direction x8.A x8.B)) (Int.toNat s3.1) (Description.mk x10.Kind x10.Count x9 x10.Direction x10.A x10.B)) (Int.toNat s3.1) (Description.mk x11.Kind x11.Count x11.Unit (w64 ((w64 ((w64 (s3.2.1 + 1)) + 1)) + 1)) x11.A x11.B)) (Int.toNat s3.1) (Description.mk x13.Kind x13.Count x13.Unit x13.Direction x12 x13.B)))]⟩ ?_
  refine SRun.estep (x_store_own (d := 1000000) (m := 6) (j := 5) (L := (List.set (List.set (List.set (List.set (List.set s3.2.2 (Int.toNat s3.1) (Description.mk s3.2.1 x7.Count x7.Unit x7.Direction x7.A x7.B)) (Int.toNat s3.1) (Description.mk x8.Kind (w64 (s3.2.1 + 1)) x8.Unit x8.Direction x8.A x8.B)) (Int.toNat s3.1) (Description.mk x10.Kind x10.Count x9 x10.Direction x10.A x10.B)) (Int.toNat s3.1) (Description.mk x11.Kind x11.Count x11.Unit (w64 ((w64 ((w64 (s3.2.1 + 1)) + 1)) + 1)) x11.A x11.B)) (Int.toNat s3.1) (Description.mk x13.Kind x13.Count x13.Unit x13.Direction x12 x13.B))) (f := eDescription) (x := (Description.mk x15.Kind x15.Count x15.Unit x15.Direction x15.A x14)) (z := x15) (ti := ti9) (e := 84) (ts := [.str x14]) (vs := [vs x14]) (v := vs x14) tbok rfl rfl hx15) ?_
  refine SRun.nx ?_
  refine swp_reg ?_
  refine SRun.ck tbok 3 ⟨58, [(0, .own 1000000), (1, vi (w64 ((w64 ((w64 ((w64 ((w64 ((w64 (s3.2.1 + 1)) + 1)) + 1)) + 1)) + 1)) + 1))), (5, vi s3.1)], [(1000000, oa 84 6 eDescription (List.set (List.set (List.set (List.set (List.set (List.set s3.2.2 (Int.toNat s3.1) (Description.mk s3.2.1 x7.Count x7.Unit x7.Direction x7.A x7.B)) (Int.toNat s3.1) (Description.mk x8.Kind (w64 (s3.2.1 + 1)) x8.Unit x8.Direction x8.A x8.B)) (Int.toNat s3.1) (Description.mk x10.Kind x10.Count x9 x10.Direction x10.A x10.B)) (Int.toNat s3.1) (Description.mk x11.Kind x11.Count x11.Unit (w64 ((w64 ((w64 (s3.2.1 + 1)) + 1)) + 1)) x11.A x11.B)) (Int.toNat s3.1) (Description.mk x13.Kind x13.Count x13.Unit x13.Direction x12 x13.B)) (Int.toNat s3.1) (Description.mk x15.Kind x15.Count x15.Unit x15.Direction x15.A x14)))]⟩ ?_
  refine SRun.nil ?_
  obtain rfl := inj h
  exact q_bn (q_j (Le.sub0))
  refine swp_reg ?_
  refine SRun.ck tbok 3 ⟨58, [(0, .own 1000000), (1, vi j5.1), (5, vi (w64 (s3.1 + 1)))], [(1000000, oa 84 6 eDescription j5.2)]⟩ ?_
  refine SRun.nil ?_
  obtain rfl := inj h
  exact q_l (Le.sub0)
  refine swp_exit ?_
  obtain rfl := inj h
  exact nx_e (q_re (q_bh (q_j (Le.sub0))))
  refine srk tbok ⟨58, [(4, vi j1.1)], [(1000000, oa 84 6 eDescription j1.2)]⟩ ?_
  refine swp_ret ?_
  obtain rfl := inj h
  exact q_fr (fin_io (f1 fv) (y := oa 84 6 eDescription j1.2) (by kernel_rfl) rfl (by kernel_rfl) (by kernel_rfl))
theorem ents21 : Ents Tryz.prog 21 := ents_of Tryz.func21 (by kernel_rfl) rfl
noncomputable def laws_markStringS (aA : (List ByteArray)) (aK : Int) : Option (Int × (List ByteArray)) :=
  (((forH (fun (i3 : Int) (s3 : Int × (List ByteArray)) => (decide (i3 < (s3.2.length : Int)))) (fun (i3 : Int) (s3 : Int × (List ByteArray)) => ((laws_markText s3.1).bind fun x7 => ((at' s3.2 i3).bind fun _ => some ((w64 (s3.1 + 1)), (List.set s3.2 (Int.toNat i3) x7))))) (fun (s3 : Int × (List ByteArray)) => (s3.1, s3.2)) 0 (aK, aA))).bind fun (j1 : Int × (List ByteArray)) => some (j1.1, j1.2))
theorem laws_markStringS_run (aA : (List ByteArray)) (aK : Int) (r : Int × (List ByteArray)) (h : laws_markStringS aA aK = some r) : SCall Tryz.prog 22 [.o (oa 9 1 eS aA), .v (vi aK)] ⟨[.v (vi r.1)], [(0, oa 9 1 eS r.2)], false⟩ := by
  refine scall_in Tryz.func22 rfl [(.tmp 4)] rfl (fun r => ⟨[.v (vi r.1)], [(0, oa 9 1 eS r.2)], false⟩) (r := r) ?_
  unfold laws_markStringS at h
  refine srk tbok ⟨20, [(0, .own 1000000), (1, vi aK)], [(1000000, oa 9 1 eS aA)]⟩ ?_
  refine swp_seq ?_
  refine srk tbok ⟨20, [(0, .own 1000000), (1, vi aK), (5, vi 0)], [(1000000, oa 9 1 eS aA)]⟩ ?_
  refine swp_seqJ h (fun j1 => ⟨20, [(1, vi j1.1)], [(1000000, oa 9 1 eS j1.2)]⟩) (fun v2 h => ?_) (fun j1 h => ?_)
  refine swp_blk (a := v2) ?_
  refine swp_lpL (r := v2) (s := (0, aK, aA)) _ (fun s3 => ⟨20, [(0, .own 1000000), (1, vi s3.2.1), (5, vi s3.1)], [(1000000, oa 9 1 eS s3.2.2)]⟩) _ (Le.sub0) h (fun s3 v4 h => ?_)
  refine swp_seq ?_
  refine srk tbok ⟨20, [(0, .own 1000000), (1, vi s3.2.1), (5, vi s3.1), (9, vb (decide (s3.1 < (s3.2.2.length : Int))))], [(1000000, oa 9 1 eS s3.2.2)]⟩ ?_
  refine swp_cd h (fun h => ?_) fun h => ?_
  refine swp_skip ?_
  refine nx_n ?_
  refine swp_seq ?_
  refine swp_seqJ h (fun j5 => ⟨20, [(0, .own 1000000), (1, vi j5.1), (5, vi s3.1)], [(1000000, oa 9 1 eS j5.2)]⟩) (fun v6 h => ?_) (fun j5 h => ?_)
  refine swp_blk (a := v6) ?_
  refine sr ?_
  refine SRun.ck tbok 3 ⟨20, [(0, .own 1000000), (1, vi s3.2.1), (5, vi s3.1), (12, .own 1000000), (13, vi s3.1), (14, vi s3.2.1)], [(1000000, oa 9 1 eS s3.2.2)]⟩ ?_
  obtain ⟨x7, hx7, h⟩ := bind_some h
  refine SRun.ls (xc ents65 (laws_markText_run s3.2.1 _ hx7)) ?_
  obtain ⟨x8, hx8, h⟩ := bind_some h
  refine SRun.ls (x_index_own (d := 1000000) (L := s3.2.2) (f := eS) (ti := ti28) (tj := ti9) (e := 9) (e' := 9) (m := 1) (k := .i64) tbok rfl hx8) ?_
  refine SRun.estep (x_store_own (d := 1000000) (m := 1) (j := 0) (L := s3.2.2) (f := eS) (x := x7) (z := x8) (ti := ti9) (e := 9) (ts := [.str x7]) (vs := [vs x7]) (v := vs x7) tbok rfl rfl hx8) ?_
  refine SRun.nx ?_
  refine swp_reg ?_
  refine SRun.ck tbok 3 ⟨20, [(0, .own 1000000), (1, vi (w64 (s3.2.1 + 1))), (5, vi s3.1)], [(1000000, oa 9 1 eS (List.set s3.2.2 (Int.toNat s3.1) x7))]⟩ ?_
  refine SRun.nil ?_
  obtain rfl := inj h
  exact q_bn (q_j (Le.sub0))
  refine swp_reg ?_
  refine SRun.ck tbok 3 ⟨20, [(0, .own 1000000), (1, vi j5.1), (5, vi (w64 (s3.1 + 1)))], [(1000000, oa 9 1 eS j5.2)]⟩ ?_
  refine SRun.nil ?_
  obtain rfl := inj h
  exact q_l (Le.sub0)
  refine swp_exit ?_
  obtain rfl := inj h
  exact nx_e (q_re (q_bh (q_j (Le.sub0))))
  refine srk tbok ⟨20, [(4, vi j1.1)], [(1000000, oa 9 1 eS j1.2)]⟩ ?_
  refine swp_ret ?_
  obtain rfl := inj h
  exact q_fr (fin_io (f1 fv) (y := oa 9 1 eS j1.2) (by kernel_rfl) rfl (by kernel_rfl) (by kernel_rfl))
theorem ents22 : Ents Tryz.prog 22 := ents_of Tryz.func22 (by kernel_rfl) rfl
noncomputable def laws_heldStringS (aA : (List ByteArray)) (aK : Int) : Option (Int) :=
  (((forN (aA.length : Int) (fun (i3 : Int) (s3 : Int) => ((at' aA i3).bind fun x7 => ((laws_markText s3).bind fun x8 => (bif (!(x7.toList == x8.toList)) then some (.inr (.inr (-1))) else some (.inl (w64 (s3 + 1))))))) (fun (s3 : Int) => .inl s3) 0 aK)).bind (Sum.elim (fun (j1 : Int) => some j1) some))
theorem laws_heldStringS_run (aA : (List ByteArray)) (aK : Int) (r : Int) (h : laws_heldStringS aA aK = some r) : SCall Tryz.prog 23 [.v (vl eS aA), .v (vi aK)] ⟨[.v (vi r)], [], false⟩ := by
  refine scall_in Tryz.func23 rfl [(.tmp 4)] rfl (fun r => ⟨[.v (vi r)], [], false⟩) (r := r) ?_
  unfold laws_heldStringS at h
  refine srk tbok ⟨22, [(0, vl eS aA), (1, vi aK)], []⟩ ?_
  refine swp_seq ?_
  refine srk tbok ⟨22, [(0, vl eS aA), (1, vi aK), (5, vi 0)], []⟩ ?_
  refine swp_seqE (r := r) h (fun j1 => ⟨22, [(1, vi j1)], []⟩) (fun v2 h => ?_) (fun j1 h => ?_)
  refine swp_blk (a := v2) ?_
  refine swp_lpL (r := v2) (s := (0, aK)) _ (fun s3 => ⟨22, [(0, vl eS aA), (1, vi s3.2), (5, vi s3.1)], []⟩) _ (Le.sub0) h (fun s3 v4 h => ?_)
  refine swp_seq ?_
  refine srk tbok ⟨22, [(0, vl eS aA), (1, vi s3.2), (5, vi s3.1), (9, vb (decide (s3.1 < (aA.length : Int))))], []⟩ ?_
  refine swp_cd h (fun h => ?_) fun h => ?_
  refine swp_skip ?_
  refine nx_n ?_
  refine swp_seq ?_
  refine swp_seqL (r := v4) h (fun j5 => ⟨22, [(0, vl eS aA), (1, vi j5), (5, vi s3.1)], []⟩) (fun v6 h => ?_) (fun j5 h => ?_)
  refine swp_blk (a := v6) ?_
  refine swp_seq ?_
  refine swp_seq ?_
  refine swp_dr mixed ?_
  refine DGo.ck tbok false 2 ⟨22, [(0, vl eS aA), (1, vi s3.2), (5, vi s3.1), (12, vl eS aA), (13, vi s3.1)], []⟩ ?_
  obtain ⟨x7, hx7, h⟩ := bind_some h
  refine DGo.step (x_index (L := aA) (f := eS) (ti := ti28) (tj := ti9) (e := 9) (k := .i64) tbok rfl hx7) ?_
  refine DGo.ck tbok false 2 ⟨22, [(0, vl eS aA), (1, vi s3.2), (5, vi s3.1), (15, vs x7), (16, vi s3.2)], []⟩ ?_
  obtain ⟨x8, hx8, h⟩ := bind_some h
  refine DGo.step (xc ents65 (laws_markText_run s3.2 _ hx8)) ?_
  refine DGo.ck tbok false 1 ⟨22, [(0, vl eS aA), (1, vi s3.2), (5, vi s3.1), (18, vb (!(x7.toList == x8.toList)))], []⟩ ?_
  refine DGo.nx ?_
  refine swp_cd h (fun h => ?_) fun h => ?_
  refine srk tbok ⟨22, [(4, vi (-1))], []⟩ ?_
  refine swp_ret ?_
  obtain rfl := inj h
  exact nx_r (q_br (q_rr (q_rr (q_br (q_rr (q_fr (f1 fv)))))))
  refine swp_skip ?_
  refine nx_n ?_
  refine swp_reg ?_
  refine SRun.ck tbok 3 ⟨22, [(0, vl eS aA), (1, vi (w64 (s3.2 + 1))), (5, vi s3.1)], []⟩ ?_
  refine SRun.nil ?_
  obtain rfl := inj h
  exact q_bn (q_l (Le.sub0))
  refine swp_reg ?_
  refine SRun.ck tbok 3 ⟨22, [(0, vl eS aA), (1, vi j5), (5, vi (w64 (s3.1 + 1)))], []⟩ ?_
  refine SRun.nil ?_
  obtain rfl := inj h
  exact q_l (Le.sub0)
  refine swp_exit ?_
  obtain rfl := inj h
  exact nx_e (q_re (q_bh (q_l (Le.sub0))))
  refine srk tbok ⟨22, [(4, vi j1)], []⟩ ?_
  refine swp_ret ?_
  obtain rfl := inj h
  exact q_fr (f1 fv)
theorem ents23 : Ents Tryz.prog 23 := ents_of Tryz.func23 (by kernel_rfl) rfl
noncomputable def laws_FnExactEvidenceFor (aAList : (List Candidate)) (aACode : ByteArray) (aASites : (List Site)) (aADescriptions : (List Description)) : Option (Bool) :=
  (bif (decide ((aACode.size : Int) > 1048576)) then some true else ((laws_szCandidateS aAList 1048576).bind fun x1 => (bif (decide (x1 < 0)) then some true else ((laws_szSiteS aASites x1).bind fun x2 => (bif (decide (x2 < 0)) then some true else ((laws_szDescriptionS aADescriptions x2).bind fun x3 => (bif (decide (x3 < 0)) then some true else ((laws_toCandidateS aAList).bind fun x4 => ((laws_toSiteS aASites).bind fun x5 => ((laws_toDescriptionS aADescriptions).bind fun x6 => ((spec_EvidenceFor x4 aACode x5 x6).bind fun x7 => ((laws_toCandidateS aAList).bind fun x8 => ((laws_toSiteS aASites).bind fun x9 => ((laws_toDescriptionS aADescriptions).bind fun x10 => ((impl_EvidenceFor x8 aACode x9 x10).bind fun x11 => ((((laws_eqStringS x11.1 x7.1).bind fun x12 => (bif (!x12) then some true else some (x11.2 != x7.2)))).bind fun (j13 : Bool) => (bif j13 then some false else ((laws_toCandidateS aAList).bind fun x15 => ((laws_eqCandidateS x8 x15).bind fun x16 => (bif (!x16) then some false else ((laws_toSiteS aASites).bind fun x17 => ((laws_eqSiteS x9 x17).bind fun x18 => (bif (!x18) then some false else ((laws_toDescriptionS aADescriptions).bind fun x19 => ((laws_eqDescriptionS x10 x19).bind fun x20 => (bif (!x20) then some false else ((laws_markCandidateS x8 1).bind fun x21 => ((laws_markSiteS x9 x21.1).bind fun x22 => ((laws_markDescriptionS x10 x22.1).bind fun x23 => (((bif (decide (x23.1 < 0)) then some true else ((laws_eqStringS x11.1 x7.1).bind fun x24 => (bif (!x24) then some true else some (x11.2 != x7.2))))).bind fun (j25 : Bool) => (bif j25 then some false else ((laws_markStringS x11.1 1).bind fun x27 => ((laws_heldStringS x27.2 1).bind fun x28 => (bif (decide (x28 < 0)) then some false else (bif (x28 != x27.1) then some false else ((laws_toCandidateS aAList).bind fun x29 => ((laws_toSiteS aASites).bind fun x30 => ((laws_toDescriptionS aADescriptions).bind fun x31 => ((impl_EvidenceFor x29 aACode x30 x31).bind fun x32 => ((((laws_eqStringS x32.1 x7.1).bind fun x33 => (bif (!x33) then some true else some (x32.2 != x7.2)))).bind fun (j34 : Bool) => (bif j34 then some false else ((laws_heldStringS x27.2 1).bind fun x36 => (bif (decide (x36 < 0)) then some false else (bif (x36 != x27.1) then some false else some true))))))))))))))))))))))))))))))))))))))))))))
theorem laws_FnExactEvidenceFor_run (aAList : (List Candidate)) (aACode : ByteArray) (aASites : (List Site)) (aADescriptions : (List Description)) (r : Bool) (h : laws_FnExactEvidenceFor aAList aACode aASites aADescriptions = some r) : SCall Tryz.prog 3 [.v (vl eCandidate aAList), .v (vs aACode), .v (vl eSite aASites), .v (vl eDescription aADescriptions)] ⟨[.v (vb r)], [], false⟩ := by
  refine scall_in Tryz.func3 rfl [(.tmp 8)] rfl (fun r => ⟨[.v (vb r)], [], false⟩) (r := r) ?_
  unfold laws_FnExactEvidenceFor at h
  refine srk tbok ⟨150, [(0, vl eCandidate aAList), (1, vs aACode), (2, vl eSite aASites), (3, vl eDescription aADescriptions)], []⟩ ?_
  refine swp_seq ?_
  refine srk tbok ⟨150, [(0, vl eCandidate aAList), (1, vs aACode), (2, vl eSite aASites), (3, vl eDescription aADescriptions), (24, vb (decide ((aACode.size : Int) > 1048576)))], []⟩ ?_
  refine swp_cd h (fun h => ?_) fun h => ?_
  refine srk tbok ⟨150, [(8, vb true)], []⟩ ?_
  refine swp_ret ?_
  obtain rfl := inj h
  exact nx_r (q_fr (f1 fv))
  refine swp_skip ?_
  refine nx_n ?_
  refine srk tbok ⟨150, [(0, vl eCandidate aAList), (1, vs aACode), (2, vl eSite aASites), (3, vl eDescription aADescriptions), (9, vi 1048576)], []⟩ ?_
  refine sr ?_
  refine SRun.ck tbok 2 ⟨150, [(0, vl eCandidate aAList), (1, vs aACode), (2, vl eSite aASites), (3, vl eDescription aADescriptions), (25, vl eCandidate aAList), (26, vi 1048576)], []⟩ ?_
  obtain ⟨x1, hx1, h⟩ := bind_some h
  refine SRun.ls (xc ents7 (laws_szCandidateS_run aAList 1048576 _ hx1)) ?_
  refine ckn tbok 1 ⟨150, [(0, vl eCandidate aAList), (1, vs aACode), (2, vl eSite aASites), (3, vl eDescription aADescriptions), (9, vi x1)], []⟩ ?_
  refine swp_seq ?_
  refine srk tbok ⟨150, [(0, vl eCandidate aAList), (1, vs aACode), (2, vl eSite aASites), (3, vl eDescription aADescriptions), (9, vi x1), (29, vb (decide (x1 < 0)))], []⟩ ?_
  refine swp_cd h (fun h => ?_) fun h => ?_
  refine srk tbok ⟨150, [(8, vb true)], []⟩ ?_
  refine swp_ret ?_
  obtain rfl := inj h
  exact nx_r (q_fr (f1 fv))
  refine swp_skip ?_
  refine nx_n ?_
  refine sr ?_
  refine SRun.ck tbok 2 ⟨150, [(0, vl eCandidate aAList), (1, vs aACode), (2, vl eSite aASites), (3, vl eDescription aADescriptions), (30, vl eSite aASites), (31, vi x1)], []⟩ ?_
  obtain ⟨x2, hx2, h⟩ := bind_some h
  refine SRun.ls (xc ents8 (laws_szSiteS_run aASites x1 _ hx2)) ?_
  refine ckn tbok 1 ⟨150, [(0, vl eCandidate aAList), (1, vs aACode), (2, vl eSite aASites), (3, vl eDescription aADescriptions), (9, vi x2)], []⟩ ?_
  refine swp_seq ?_
  refine srk tbok ⟨150, [(0, vl eCandidate aAList), (1, vs aACode), (2, vl eSite aASites), (3, vl eDescription aADescriptions), (9, vi x2), (34, vb (decide (x2 < 0)))], []⟩ ?_
  refine swp_cd h (fun h => ?_) fun h => ?_
  refine srk tbok ⟨150, [(8, vb true)], []⟩ ?_
  refine swp_ret ?_
  obtain rfl := inj h
  exact nx_r (q_fr (f1 fv))
  refine swp_skip ?_
  refine nx_n ?_
  refine sr ?_
  refine SRun.ck tbok 2 ⟨150, [(0, vl eCandidate aAList), (1, vs aACode), (2, vl eSite aASites), (3, vl eDescription aADescriptions), (35, vl eDescription aADescriptions), (36, vi x2)], []⟩ ?_
  obtain ⟨x3, hx3, h⟩ := bind_some h
  refine SRun.ls (xc ents9 (laws_szDescriptionS_run aADescriptions x2 _ hx3)) ?_
  refine ckn tbok 1 ⟨150, [(0, vl eCandidate aAList), (1, vs aACode), (2, vl eSite aASites), (3, vl eDescription aADescriptions), (9, vi x3)], []⟩ ?_
  refine swp_seq ?_
  refine srk tbok ⟨150, [(0, vl eCandidate aAList), (1, vs aACode), (2, vl eSite aASites), (3, vl eDescription aADescriptions), (39, vb (decide (x3 < 0)))], []⟩ ?_
  refine swp_cd h (fun h => ?_) fun h => ?_
  refine srk tbok ⟨150, [(8, vb true)], []⟩ ?_
  refine swp_ret ?_
  obtain rfl := inj h
  exact nx_r (q_fr (f1 fv))
  refine swp_skip ?_
  refine nx_n ?_
  refine sr ?_
  refine SRun.ck tbok 1 ⟨150, [(0, vl eCandidate aAList), (1, vs aACode), (2, vl eSite aASites), (3, vl eDescription aADescriptions), (41, vl eCandidate aAList)], []⟩ ?_
  obtain ⟨x4, hx4, h⟩ := bind_some h
  refine SRun.ls (xc ents11 (laws_toCandidateS_run aAList _ hx4)) ?_
  refine SRun.ck tbok 2 ⟨150, [(0, vl eCandidate aAList), (1, vs aACode), (2, vl eSite aASites), (3, vl eDescription aADescriptions), (42, .own 42), (43, vs aACode), (44, vl eSite aASites)], [(42, oa 87 4 eCandidate x4)]⟩ ?_
  obtain ⟨x5, hx5, h⟩ := bind_some h
  refine SRun.ls (xc ents12 (laws_toSiteS_run aASites _ hx5)) ?_
  refine SRun.ck tbok 1 ⟨150, [(0, vl eCandidate aAList), (1, vs aACode), (2, vl eSite aASites), (3, vl eDescription aADescriptions), (42, .own 42), (43, vs aACode), (45, .own 45), (46, vl eDescription aADescriptions)], [(42, oa 87 4 eCandidate x4), (45, oa 92 3 eSite x5)]⟩ ?_
  obtain ⟨x6, hx6, h⟩ := bind_some h
  refine SRun.ls (xc ents13 (laws_toDescriptionS_run aADescriptions _ hx6)) ?_
  obtain ⟨x7, hx7, h⟩ := bind_some h
  refine SRun.ls (xc ents10 (spec_EvidenceFor_run x4 aACode x5 x6 _ hx7)) ?_
  refine ckn tbok 5 ⟨150, [(0, vl eCandidate aAList), (1, vs aACode), (2, vl eSite aASites), (3, vl eDescription aADescriptions), (10, .own 48), (11, vi x7.2)], [(48, oa 9 1 eS x7.1)]⟩ ?_
  refine sr ?_
  refine SRun.ck tbok 1 ⟨150, [(0, vl eCandidate aAList), (1, vs aACode), (2, vl eSite aASites), (3, vl eDescription aADescriptions), (10, .own 48), (11, vi x7.2), (51, vl eCandidate aAList)], [(48, oa 9 1 eS x7.1)]⟩ ?_
  obtain ⟨x8, hx8, h⟩ := bind_some h
  refine SRun.ls (xc ents11 (laws_toCandidateS_run aAList _ hx8)) ?_
  refine ckn tbok 1 ⟨150, [(0, vl eCandidate aAList), (1, vs aACode), (2, vl eSite aASites), (3, vl eDescription aADescriptions), (10, .own 48), (11, vi x7.2), (12, .own 52)], [(48, oa 9 1 eS x7.1), (52, oa 87 4 eCandidate x8)]⟩ ?_
  refine sr ?_
  refine SRun.ck tbok 1 ⟨150, [(0, vl eCandidate aAList), (1, vs aACode), (2, vl eSite aASites), (3, vl eDescription aADescriptions), (10, .own 48), (11, vi x7.2), (12, .own 52), (53, vl eSite aASites)], [(48, oa 9 1 eS x7.1), (52, oa 87 4 eCandidate x8)]⟩ ?_
  obtain ⟨x9, hx9, h⟩ := bind_some h
  refine SRun.ls (xc ents12 (laws_toSiteS_run aASites _ hx9)) ?_
  refine ckn tbok 1 ⟨150, [(0, vl eCandidate aAList), (1, vs aACode), (2, vl eSite aASites), (3, vl eDescription aADescriptions), (10, .own 48), (11, vi x7.2), (12, .own 52), (13, .own 54)], [(48, oa 9 1 eS x7.1), (52, oa 87 4 eCandidate x8), (54, oa 92 3 eSite x9)]⟩ ?_
  refine sr ?_
  refine SRun.ck tbok 1 ⟨150, [(0, vl eCandidate aAList), (1, vs aACode), (2, vl eSite aASites), (3, vl eDescription aADescriptions), (10, .own 48), (11, vi x7.2), (12, .own 52), (13, .own 54), (55, vl eDescription aADescriptions)], [(48, oa 9 1 eS x7.1), (52, oa 87 4 eCandidate x8), (54, oa 92 3 eSite x9)]⟩ ?_
  obtain ⟨x10, hx10, h⟩ := bind_some h
  refine SRun.ls (xc ents13 (laws_toDescriptionS_run aADescriptions _ hx10)) ?_
  refine ckn tbok 1 ⟨150, [(0, vl eCandidate aAList), (1, vs aACode), (2, vl eSite aASites), (3, vl eDescription aADescriptions), (10, .own 48), (11, vi x7.2), (12, .own 52), (13, .own 54), (14, .own 56)], [(48, oa 9 1 eS x7.1), (52, oa 87 4 eCandidate x8), (54, oa 92 3 eSite x9), (56, oa 84 6 eDescription x10)]⟩ ?_
  refine sr ?_
  refine SRun.ck tbok 4 ⟨150, [(0, vl eCandidate aAList), (1, vs aACode), (2, vl eSite aASites), (3, vl eDescription aADescriptions), (10, .own 48), (11, vi x7.2), (12, .own 52), (13, .own 54), (14, .own 56), (58, .own 52), (59, vs aACode), (60, .own 54), (61, .own 56)], [(48, oa 9 1 eS x7.1), (52, oa 87 4 eCandidate x8), (54, oa 92 3 eSite x9), (56, oa 84 6 eDescription x10)]⟩ ?_
  obtain ⟨x11, hx11, h⟩ := bind_some h
  refine SRun.ls (xc ents14 (impl_EvidenceFor_run x8 aACode x9 x10 _ hx11)) ?_
  refine ckn tbok 5 ⟨150, [(0, vl eCandidate aAList), (1, vs aACode), (2, vl eSite aASites), (3, vl eDescription aADescriptions), (10, .own 48), (11, vi x7.2), (12, .own 52), (13, .own 54), (14, .own 56), (15, .own 62), (16, vi x11.2)], [(48, oa 9 1 eS x7.1), (52, oa 87 4 eCandidate x8), (54, oa 92 3 eSite x9), (56, oa 84 6 eDescription x10), (62, oa 9 1 eS x11.1)]⟩ ?_
  refine swp_seq ?_
  refine swp_seq ?_
  refine swp_regJ h (fun j13 => ⟨150, [(0, vl eCandidate aAList), (1, vs aACode), (2, vl eSite aASites), (3, vl eDescription aADescriptions), (10, .own 10), (11, vi x7.2), (12, .own 12), (13, .own 13), (14, .own 14), (15, .own 15), (16, vi x11.2), (73, vb j13)], [(10, oa 9 1 eS x7.1), (12, oa 87 4 eCandidate x8), (13, oa 92 3 eSite x9), (14, oa 84 6 eDescription x10), (15, oa 9 1 eS x11.1)]⟩) (fun v14 h => ?_) (fun j13 h => ?_)
  refine SRun.ck tbok 2 ⟨150, [(0, vl eCandidate aAList), (1, vs aACode), (2, vl eSite aASites), (3, vl eDescription aADescriptions), (10, .own 48), (11, vi x7.2), (12, .own 52), (13, .own 54), (14, .own 56), (15, .own 62), (16, vi x11.2), (65, .own 62), (66, .own 48)], [(48, oa 9 1 eS x7.1), (52, oa 87 4 eCandidate x8), (54, oa 92 3 eSite x9), (56, oa 84 6 eDescription x10), (62, oa 9 1 eS x11.1)]⟩ ?_
  obtain ⟨x12, hx12, h⟩ := bind_some h
  refine SRun.ls (xc ents15 (laws_eqStringS_run x11.1 x7.1 _ hx12)) ?_
  refine SRun.ck tbok 2 ⟨150, [(0, vl eCandidate aAList), (1, vs aACode), (2, vl eSite aASites), (3, vl eDescription aADescriptions), (10, .own 48), (11, vi x7.2), (12, .own 52), (13, .own 54), (14, .own 56), (15, .own 62), (16, vi x11.2), (69, vb (!x12))], [(48, oa 9 1 eS x7.1), (52, oa 87 4 eCandidate x8), (54, oa 92 3 eSite x9), (56, oa 84 6 eDescription x10), (62, oa 9 1 eS x11.1)]⟩ ?_
  refine SRun.cu [(69, fun b => b)] h (fun h => ?_) fun h => ?_
  refine SRun.ck tbok 4 ⟨150, [(0, vl eCandidate aAList), (1, vs aACode), (2, vl eSite aASites), (3, vl eDescription aADescriptions), (10, .own 48), (11, vi x7.2), (12, .own 52), (13, .own 54), (14, .own 56), (15, .own 62), (16, vi x11.2), (73, vb true)], [(48, oa 9 1 eS x7.1), (52, oa 87 4 eCandidate x8), (54, oa 92 3 eSite x9), (56, oa 84 6 eDescription x10), (62, oa 9 1 eS x11.1)]⟩ ?_
  refine SRun.nil ?_
  obtain rfl := inj h
  exact (Le.sub' ([(0, vl eCandidate aAList), (1, vs aACode), (2, vl eSite aASites), (3, vl eDescription aADescriptions), (10, .own 48), (11, vi x7.2), (12, .own 52), (13, .own 54), (14, .own 56), (15, .own 62), (16, vi x11.2), (73, vb true)] : List (Nat × SV)) ([(48, oa 9 1 eS x7.1), (52, oa 87 4 eCandidate x8), (54, oa 92 3 eSite x9), (56, oa 84 6 eDescription x10), (62, oa 9 1 eS x11.1)] : List (Nat × SO)) (by kernel_rfl) (by kernel_rfl)).trans ((Le.ren' (d := 48) (e := 10) (by kernel_rfl) (by kernel_rfl) (by kernel_rfl)).trans ((Le.ren' (d := 52) (e := 12) (by kernel_rfl) (by kernel_rfl) (by kernel_rfl)).trans ((Le.ren' (d := 54) (e := 13) (by kernel_rfl) (by kernel_rfl) (by kernel_rfl)).trans ((Le.ren' (d := 56) (e := 14) (by kernel_rfl) (by kernel_rfl) (by kernel_rfl)).trans ((Le.ren' (d := 62) (e := 15) (by kernel_rfl) (by kernel_rfl) (by kernel_rfl)).trans (Le.sub0))))))
  refine SRun.ck tbok 4 ⟨150, [(0, vl eCandidate aAList), (1, vs aACode), (2, vl eSite aASites), (3, vl eDescription aADescriptions), (10, .own 48), (11, vi x7.2), (12, .own 52), (13, .own 54), (14, .own 56), (15, .own 62), (16, vi x11.2), (73, vb (x11.2 != x7.2))], [(48, oa 9 1 eS x7.1), (52, oa 87 4 eCandidate x8), (54, oa 92 3 eSite x9), (56, oa 84 6 eDescription x10), (62, oa 9 1 eS x11.1)]⟩ ?_
  refine SRun.nil ?_
  obtain rfl := inj h
  exact (Le.sub' ([(0, vl eCandidate aAList), (1, vs aACode), (2, vl eSite aASites), (3, vl eDescription aADescriptions), (10, .own 48), (11, vi x7.2), (12, .own 52), (13, .own 54), (14, .own 56), (15, .own 62), (16, vi x11.2), (73, vb (x11.2 != x7.2))] : List (Nat × SV)) ([(48, oa 9 1 eS x7.1), (52, oa 87 4 eCandidate x8), (54, oa 92 3 eSite x9), (56, oa 84 6 eDescription x10), (62, oa 9 1 eS x11.1)] : List (Nat × SO)) (by kernel_rfl) (by kernel_rfl)).trans ((Le.ren' (d := 48) (e := 10) (by kernel_rfl) (by kernel_rfl) (by kernel_rfl)).trans ((Le.ren' (d := 52) (e := 12) (by kernel_rfl) (by kernel_rfl) (by kernel_rfl)).trans ((Le.ren' (d := 54) (e := 13) (by kernel_rfl) (by kernel_rfl) (by kernel_rfl)).trans ((Le.ren' (d := 56) (e := 14) (by kernel_rfl) (by kernel_rfl) (by kernel_rfl)).trans ((Le.ren' (d := 62) (e := 15) (by kernel_rfl) (by kernel_rfl) (by kernel_rfl)).trans (Le.sub0))))))
  refine swp_cd h (fun h => ?_) fun h => ?_
  refine srk tbok ⟨150, [(8, vb false)], []⟩ ?_
  refine swp_ret ?_
  obtain rfl := inj h
  exact nx_r (q_fr (f1 fv))
  refine swp_skip ?_
  refine nx_n ?_
  refine swp_seq ?_
  refine sr ?_
  refine SRun.ck tbok 2 ⟨150, [(0, vl eCandidate aAList), (1, vs aACode), (2, vl eSite aASites), (3, vl eDescription aADescriptions), (10, .own 10), (11, vi x7.2), (12, .own 12), (13, .own 13), (14, .own 14), (15, .own 15), (16, vi x11.2), (74, .own 12), (75, vl eCandidate aAList)], [(10, oa 9 1 eS x7.1), (12, oa 87 4 eCandidate x8), (13, oa 92 3 eSite x9), (14, oa 84 6 eDescription x10), (15, oa 9 1 eS x11.1)]⟩ ?_
  obtain ⟨x15, hx15, h⟩ := bind_some h
  refine SRun.ls (xc ents11 (laws_toCandidateS_run aAList _ hx15)) ?_
  obtain ⟨x16, hx16, h⟩ := bind_some h
  refine SRun.ls (xc ents16 (laws_eqCandidateS_run x8 x15 _ hx16)) ?_
  refine ckn tbok 1 ⟨150, [(0, vl eCandidate aAList), (1, vs aACode), (2, vl eSite aASites), (3, vl eDescription aADescriptions), (10, .own 10), (11, vi x7.2), (12, .own 12), (13, .own 13), (14, .own 14), (15, .own 15), (16, vi x11.2), (78, vb (!x16))], [(10, oa 9 1 eS x7.1), (12, oa 87 4 eCandidate x8), (13, oa 92 3 eSite x9), (14, oa 84 6 eDescription x10), (15, oa 9 1 eS x11.1)]⟩ ?_
  refine swp_cd h (fun h => ?_) fun h => ?_
  refine srk tbok ⟨150, [(8, vb false)], []⟩ ?_
  refine swp_ret ?_
  obtain rfl := inj h
  exact nx_r (q_fr (f1 fv))
  refine swp_skip ?_
  refine nx_n ?_
  refine swp_seq ?_
  refine sr ?_
  refine SRun.ck tbok 2 ⟨150, [(0, vl eCandidate aAList), (1, vs aACode), (2, vl eSite aASites), (3, vl eDescription aADescriptions), (10, .own 10), (11, vi x7.2), (12, .own 12), (13, .own 13), (14, .own 14), (15, .own 15), (16, vi x11.2), (79, .own 13), (80, vl eSite aASites)], [(10, oa 9 1 eS x7.1), (12, oa 87 4 eCandidate x8), (13, oa 92 3 eSite x9), (14, oa 84 6 eDescription x10), (15, oa 9 1 eS x11.1)]⟩ ?_
  obtain ⟨x17, hx17, h⟩ := bind_some h
  refine SRun.ls (xc ents12 (laws_toSiteS_run aASites _ hx17)) ?_
  obtain ⟨x18, hx18, h⟩ := bind_some h
  refine SRun.ls (xc ents17 (laws_eqSiteS_run x9 x17 _ hx18)) ?_
  refine ckn tbok 1 ⟨150, [(0, vl eCandidate aAList), (1, vs aACode), (2, vl eSite aASites), (3, vl eDescription aADescriptions), (10, .own 10), (11, vi x7.2), (12, .own 12), (13, .own 13), (14, .own 14), (15, .own 15), (16, vi x11.2), (83, vb (!x18))], [(10, oa 9 1 eS x7.1), (12, oa 87 4 eCandidate x8), (13, oa 92 3 eSite x9), (14, oa 84 6 eDescription x10), (15, oa 9 1 eS x11.1)]⟩ ?_
  refine swp_cd h (fun h => ?_) fun h => ?_
  refine srk tbok ⟨150, [(8, vb false)], []⟩ ?_
  refine swp_ret ?_
  obtain rfl := inj h
  exact nx_r (q_fr (f1 fv))
  refine swp_skip ?_
  refine nx_n ?_
  refine swp_seq ?_
  refine sr ?_
  refine SRun.ck tbok 2 ⟨150, [(0, vl eCandidate aAList), (1, vs aACode), (2, vl eSite aASites), (3, vl eDescription aADescriptions), (10, .own 10), (11, vi x7.2), (12, .own 12), (13, .own 13), (14, .own 14), (15, .own 15), (16, vi x11.2), (84, .own 14), (85, vl eDescription aADescriptions)], [(10, oa 9 1 eS x7.1), (12, oa 87 4 eCandidate x8), (13, oa 92 3 eSite x9), (14, oa 84 6 eDescription x10), (15, oa 9 1 eS x11.1)]⟩ ?_
  obtain ⟨x19, hx19, h⟩ := bind_some h
  refine SRun.ls (xc ents13 (laws_toDescriptionS_run aADescriptions _ hx19)) ?_
  obtain ⟨x20, hx20, h⟩ := bind_some h
  refine SRun.ls (xc ents18 (laws_eqDescriptionS_run x10 x19 _ hx20)) ?_
  refine ckn tbok 1 ⟨150, [(0, vl eCandidate aAList), (1, vs aACode), (2, vl eSite aASites), (3, vl eDescription aADescriptions), (10, .own 10), (11, vi x7.2), (12, .own 12), (13, .own 13), (14, .own 14), (15, .own 15), (16, vi x11.2), (88, vb (!x20))], [(10, oa 9 1 eS x7.1), (12, oa 87 4 eCandidate x8), (13, oa 92 3 eSite x9), (14, oa 84 6 eDescription x10), (15, oa 9 1 eS x11.1)]⟩ ?_
  refine swp_cd h (fun h => ?_) fun h => ?_
  refine srk tbok ⟨150, [(8, vb false)], []⟩ ?_
  refine swp_ret ?_
  obtain rfl := inj h
  exact nx_r (q_fr (f1 fv))
  refine swp_skip ?_
  refine nx_n ?_
  refine srk tbok ⟨150, [(0, vl eCandidate aAList), (1, vs aACode), (2, vl eSite aASites), (3, vl eDescription aADescriptions), (10, .own 10), (11, vi x7.2), (12, .own 12), (13, .own 13), (14, .own 14), (15, .own 15), (16, vi x11.2), (17, vi 1)], [(10, oa 9 1 eS x7.1), (12, oa 87 4 eCandidate x8), (13, oa 92 3 eSite x9), (14, oa 84 6 eDescription x10), (15, oa 9 1 eS x11.1)]⟩ ?_
  refine sr ?_
  refine SRun.ck tbok 2 ⟨150, [(0, vl eCandidate aAList), (1, vs aACode), (2, vl eSite aASites), (3, vl eDescription aADescriptions), (10, .own 10), (11, vi x7.2), (13, .own 13), (14, .own 14), (15, .own 15), (16, vi x11.2), (89, .own 12), (90, vi 1)], [(10, oa 9 1 eS x7.1), (12, oa 87 4 eCandidate x8), (13, oa 92 3 eSite x9), (14, oa 84 6 eDescription x10), (15, oa 9 1 eS x11.1)]⟩ ?_
  obtain ⟨x21, hx21, h⟩ := bind_some h
  refine SRun.estep (xe ents19 (laws_markCandidateS_run x8 1 _ hx21)) ?_
  refine ckn tbok 1 ⟨150, [(0, vl eCandidate aAList), (1, vs aACode), (2, vl eSite aASites), (3, vl eDescription aADescriptions), (10, .own 10), (11, vi x7.2), (13, .own 13), (14, .own 14), (15, .own 15), (16, vi x11.2), (17, vi x21.1)], [(10, oa 9 1 eS x7.1), (13, oa 92 3 eSite x9), (14, oa 84 6 eDescription x10), (15, oa 9 1 eS x11.1)]⟩ ?_
  refine sr ?_
  refine SRun.ck tbok 2 ⟨150, [(0, vl eCandidate aAList), (1, vs aACode), (2, vl eSite aASites), (3, vl eDescription aADescriptions), (10, .own 10), (11, vi x7.2), (14, .own 14), (15, .own 15), (16, vi x11.2), (92, .own 13), (93, vi x21.1)], [(10, oa 9 1 eS x7.1), (13, oa 92 3 eSite x9), (14, oa 84 6 eDescription x10), (15, oa 9 1 eS x11.1)]⟩ ?_
  obtain ⟨x22, hx22, h⟩ := bind_some h
  refine SRun.estep (xe ents20 (laws_markSiteS_run x9 x21.1 _ hx22)) ?_
  refine ckn tbok 1 ⟨150, [(0, vl eCandidate aAList), (1, vs aACode), (2, vl eSite aASites), (3, vl eDescription aADescriptions), (10, .own 10), (11, vi x7.2), (14, .own 14), (15, .own 15), (16, vi x11.2), (17, vi x22.1)], [(10, oa 9 1 eS x7.1), (14, oa 84 6 eDescription x10), (15, oa 9 1 eS x11.1)]⟩ ?_
  refine sr ?_
  refine SRun.ck tbok 2 ⟨150, [(0, vl eCandidate aAList), (1, vs aACode), (2, vl eSite aASites), (3, vl eDescription aADescriptions), (10, .own 10), (11, vi x7.2), (15, .own 15), (16, vi x11.2), (95, .own 14), (96, vi x22.1)], [(10, oa 9 1 eS x7.1), (14, oa 84 6 eDescription x10), (15, oa 9 1 eS x11.1)]⟩ ?_
  obtain ⟨x23, hx23, h⟩ := bind_some h
  refine SRun.estep (xe ents21 (laws_markDescriptionS_run x10 x22.1 _ hx23)) ?_
  refine ckn tbok 1 ⟨150, [(0, vl eCandidate aAList), (1, vs aACode), (2, vl eSite aASites), (3, vl eDescription aADescriptions), (10, .own 10), (11, vi x7.2), (15, .own 15), (16, vi x11.2), (17, vi x23.1)], [(10, oa 9 1 eS x7.1), (15, oa 9 1 eS x11.1)]⟩ ?_
  refine swp_seq ?_
  refine swp_seq ?_
  refine swp_regJ h (fun j25 => ⟨150, [(0, vl eCandidate aAList), (1, vs aACode), (2, vl eSite aASites), (3, vl eDescription aADescriptions), (10, .own 10), (11, vi x7.2), (15, .own 15), (110, vb j25)], [(10, oa 9 1 eS x7.1), (15, oa 9 1 eS x11.1)]⟩) (fun v26 h => ?_) (fun j25 h => ?_)
  refine SRun.ck tbok 3 ⟨150, [(0, vl eCandidate aAList), (1, vs aACode), (2, vl eSite aASites), (3, vl eDescription aADescriptions), (10, .own 10), (11, vi x7.2), (15, .own 15), (16, vi x11.2), (100, vb (decide (x23.1 < 0)))], [(10, oa 9 1 eS x7.1), (15, oa 9 1 eS x11.1)]⟩ ?_
  refine SRun.cu [(100, fun b => b)] h (fun h => ?_) fun h => ?_
  refine SRun.ck tbok 10 ⟨150, [(0, vl eCandidate aAList), (1, vs aACode), (2, vl eSite aASites), (3, vl eDescription aADescriptions), (10, .own 10), (11, vi x7.2), (15, .own 15), (110, vb true)], [(10, oa 9 1 eS x7.1), (15, oa 9 1 eS x11.1)]⟩ ?_
  refine SRun.nil ?_
  obtain rfl := inj h
  exact Le.sub0
  refine SRun.ck tbok 2 ⟨150, [(0, vl eCandidate aAList), (1, vs aACode), (2, vl eSite aASites), (3, vl eDescription aADescriptions), (10, .own 10), (11, vi x7.2), (15, .own 15), (16, vi x11.2), (100, vb false), (101, .own 15), (102, .own 10)], [(10, oa 9 1 eS x7.1), (15, oa 9 1 eS x11.1)]⟩ ?_
  obtain ⟨x24, hx24, h⟩ := bind_some h
  refine SRun.ls (xc ents15 (laws_eqStringS_run x11.1 x7.1 _ hx24)) ?_
  refine SRun.ck tbok 3 ⟨150, [(0, vl eCandidate aAList), (1, vs aACode), (2, vl eSite aASites), (3, vl eDescription aADescriptions), (10, .own 10), (11, vi x7.2), (15, .own 15), (16, vi x11.2), (106, vb (!x24))], [(10, oa 9 1 eS x7.1), (15, oa 9 1 eS x11.1)]⟩ ?_
  refine SRun.cu [(106, fun b => b)] h (fun h => ?_) fun h => ?_
  refine SRun.ck tbok 4 ⟨150, [(0, vl eCandidate aAList), (1, vs aACode), (2, vl eSite aASites), (3, vl eDescription aADescriptions), (10, .own 10), (11, vi x7.2), (15, .own 15), (110, vb true)], [(10, oa 9 1 eS x7.1), (15, oa 9 1 eS x11.1)]⟩ ?_
  refine SRun.nil ?_
  obtain rfl := inj h
  exact Le.sub0
  refine SRun.ck tbok 4 ⟨150, [(0, vl eCandidate aAList), (1, vs aACode), (2, vl eSite aASites), (3, vl eDescription aADescriptions), (10, .own 10), (11, vi x7.2), (15, .own 15), (110, vb (x11.2 != x7.2))], [(10, oa 9 1 eS x7.1), (15, oa 9 1 eS x11.1)]⟩ ?_
  refine SRun.nil ?_
  obtain rfl := inj h
  exact Le.sub0
  refine swp_cd h (fun h => ?_) fun h => ?_
  refine srk tbok ⟨150, [(8, vb false)], []⟩ ?_
  refine swp_ret ?_
  obtain rfl := inj h
  exact nx_r (q_fr (f1 fv))
  refine swp_skip ?_
  refine nx_n ?_
  refine srk tbok ⟨150, [(0, vl eCandidate aAList), (1, vs aACode), (2, vl eSite aASites), (3, vl eDescription aADescriptions), (10, .own 10), (11, vi x7.2), (15, .own 15), (18, vi 1)], [(10, oa 9 1 eS x7.1), (15, oa 9 1 eS x11.1)]⟩ ?_
  refine sr ?_
  refine SRun.ck tbok 2 ⟨150, [(0, vl eCandidate aAList), (1, vs aACode), (2, vl eSite aASites), (3, vl eDescription aADescriptions), (10, .own 10), (11, vi x7.2), (15, .own 15), (111, .own 15), (112, vi 1)], [(10, oa 9 1 eS x7.1), (15, oa 9 1 eS x11.1)]⟩ ?_
  obtain ⟨x27, hx27, h⟩ := bind_some h
  refine SRun.estep (xe ents22 (laws_markStringS_run x11.1 1 _ hx27)) ?_
  refine ckn tbok 1 ⟨150, [(0, vl eCandidate aAList), (1, vs aACode), (2, vl eSite aASites), (3, vl eDescription aADescriptions), (10, .own 10), (11, vi x7.2), (15, .own 15), (18, vi x27.1)], [(10, oa 9 1 eS x7.1), (15, oa 9 1 eS x27.2)]⟩ ?_
  refine srk tbok ⟨150, [(0, vl eCandidate aAList), (1, vs aACode), (2, vl eSite aASites), (3, vl eDescription aADescriptions), (10, .own 10), (11, vi x7.2), (15, .own 15), (18, vi x27.1), (19, vi 1)], [(10, oa 9 1 eS x7.1), (15, oa 9 1 eS x27.2)]⟩ ?_
  refine sr ?_
  refine SRun.ck tbok 2 ⟨150, [(0, vl eCandidate aAList), (1, vs aACode), (2, vl eSite aASites), (3, vl eDescription aADescriptions), (10, .own 10), (11, vi x7.2), (15, .own 15), (18, vi x27.1), (114, .own 15), (115, vi 1)], [(10, oa 9 1 eS x7.1), (15, oa 9 1 eS x27.2)]⟩ ?_
  obtain ⟨x28, hx28, h⟩ := bind_some h
  refine SRun.ls (xc ents23 (laws_heldStringS_run x27.2 1 _ hx28)) ?_
  refine ckn tbok 1 ⟨150, [(0, vl eCandidate aAList), (1, vs aACode), (2, vl eSite aASites), (3, vl eDescription aADescriptions), (10, .own 10), (11, vi x7.2), (15, .own 15), (18, vi x27.1), (19, vi x28)], [(10, oa 9 1 eS x7.1), (15, oa 9 1 eS x27.2)]⟩ ?_
  refine swp_seq ?_
  refine srk tbok ⟨150, [(0, vl eCandidate aAList), (1, vs aACode), (2, vl eSite aASites), (3, vl eDescription aADescriptions), (10, .own 10), (11, vi x7.2), (15, .own 15), (18, vi x27.1), (19, vi x28), (118, vb (decide (x28 < 0)))], [(10, oa 9 1 eS x7.1), (15, oa 9 1 eS x27.2)]⟩ ?_
  refine swp_cd h (fun h => ?_) fun h => ?_
  refine srk tbok ⟨150, [(8, vb false)], []⟩ ?_
  refine swp_ret ?_
  obtain rfl := inj h
  exact nx_r (q_fr (f1 fv))
  refine swp_skip ?_
  refine nx_n ?_
  refine swp_seq ?_
  refine srk tbok ⟨150, [(0, vl eCandidate aAList), (1, vs aACode), (2, vl eSite aASites), (3, vl eDescription aADescriptions), (10, .own 10), (11, vi x7.2), (15, .own 15), (18, vi x27.1), (121, vb (x28 != x27.1))], [(10, oa 9 1 eS x7.1), (15, oa 9 1 eS x27.2)]⟩ ?_
  refine swp_cd h (fun h => ?_) fun h => ?_
  refine srk tbok ⟨150, [(8, vb false)], []⟩ ?_
  refine swp_ret ?_
  obtain rfl := inj h
  exact nx_r (q_fr (f1 fv))
  refine swp_skip ?_
  refine nx_n ?_
  refine sr ?_
  refine SRun.ck tbok 1 ⟨150, [(1, vs aACode), (2, vl eSite aASites), (3, vl eDescription aADescriptions), (10, .own 10), (11, vi x7.2), (15, .own 15), (18, vi x27.1), (123, vl eCandidate aAList)], [(10, oa 9 1 eS x7.1), (15, oa 9 1 eS x27.2)]⟩ ?_
  obtain ⟨x29, hx29, h⟩ := bind_some h
  refine SRun.ls (xc ents11 (laws_toCandidateS_run aAList _ hx29)) ?_
  refine SRun.ck tbok 2 ⟨150, [(3, vl eDescription aADescriptions), (10, .own 10), (11, vi x7.2), (15, .own 15), (18, vi x27.1), (124, .own 124), (125, vs aACode), (126, vl eSite aASites)], [(10, oa 9 1 eS x7.1), (15, oa 9 1 eS x27.2), (124, oa 87 4 eCandidate x29)]⟩ ?_
  obtain ⟨x30, hx30, h⟩ := bind_some h
  refine SRun.ls (xc ents12 (laws_toSiteS_run aASites _ hx30)) ?_
  refine SRun.ck tbok 1 ⟨150, [(10, .own 10), (11, vi x7.2), (15, .own 15), (18, vi x27.1), (124, .own 124), (125, vs aACode), (127, .own 127), (128, vl eDescription aADescriptions)], [(10, oa 9 1 eS x7.1), (15, oa 9 1 eS x27.2), (124, oa 87 4 eCandidate x29), (127, oa 92 3 eSite x30)]⟩ ?_
  obtain ⟨x31, hx31, h⟩ := bind_some h
  refine SRun.ls (xc ents13 (laws_toDescriptionS_run aADescriptions _ hx31)) ?_
  obtain ⟨x32, hx32, h⟩ := bind_some h
  refine SRun.ls (xc ents14 (impl_EvidenceFor_run x29 aACode x30 x31 _ hx32)) ?_
  refine ckn tbok 5 ⟨150, [(10, .own 10), (11, vi x7.2), (15, .own 15), (18, vi x27.1), (20, .own 130), (21, vi x32.2)], [(10, oa 9 1 eS x7.1), (15, oa 9 1 eS x27.2), (130, oa 9 1 eS x32.1)]⟩ ?_
  refine swp_seq ?_
  refine swp_seq ?_
  refine swp_regJ h (fun j34 => ⟨150, [(15, .own 15), (18, vi x27.1), (141, vb j34)], [(15, oa 9 1 eS x27.2)]⟩) (fun v35 h => ?_) (fun j34 h => ?_)
  refine SRun.ck tbok 2 ⟨150, [(11, vi x7.2), (15, .own 15), (18, vi x27.1), (21, vi x32.2), (133, .own 130), (134, .own 10)], [(10, oa 9 1 eS x7.1), (15, oa 9 1 eS x27.2), (130, oa 9 1 eS x32.1)]⟩ ?_
  obtain ⟨x33, hx33, h⟩ := bind_some h
  refine SRun.ls (xc ents15 (laws_eqStringS_run x32.1 x7.1 _ hx33)) ?_
  refine SRun.ck tbok 2 ⟨150, [(11, vi x7.2), (15, .own 15), (18, vi x27.1), (21, vi x32.2), (137, vb (!x33))], [(15, oa 9 1 eS x27.2)]⟩ ?_
  refine SRun.cu [(137, fun b => b)] h (fun h => ?_) fun h => ?_
  refine SRun.ck tbok 4 ⟨150, [(15, .own 15), (18, vi x27.1), (141, vb true)], [(15, oa 9 1 eS x27.2)]⟩ ?_
  refine SRun.nil ?_
  obtain rfl := inj h
  exact Le.sub0
  refine SRun.ck tbok 4 ⟨150, [(15, .own 15), (18, vi x27.1), (141, vb (x32.2 != x7.2))], [(15, oa 9 1 eS x27.2)]⟩ ?_
  refine SRun.nil ?_
  obtain rfl := inj h
  exact Le.sub0
  refine swp_cd h (fun h => ?_) fun h => ?_
  refine srk tbok ⟨150, [(8, vb false)], []⟩ ?_
  refine swp_ret ?_
  obtain rfl := inj h
  exact nx_r (q_fr (f1 fv))
  refine swp_skip ?_
  refine nx_n ?_
  refine srk tbok ⟨150, [(15, .own 15), (18, vi x27.1), (19, vi 1)], [(15, oa 9 1 eS x27.2)]⟩ ?_
  refine sr ?_
  refine SRun.ck tbok 2 ⟨150, [(18, vi x27.1), (142, .own 15), (143, vi 1)], [(15, oa 9 1 eS x27.2)]⟩ ?_
  obtain ⟨x36, hx36, h⟩ := bind_some h
  refine SRun.ls (xc ents23 (laws_heldStringS_run x27.2 1 _ hx36)) ?_
  refine ckn tbok 1 ⟨150, [(18, vi x27.1), (19, vi x36)], []⟩ ?_
  refine swp_seq ?_
  refine srk tbok ⟨150, [(18, vi x27.1), (19, vi x36), (146, vb (decide (x36 < 0)))], []⟩ ?_
  refine swp_cd h (fun h => ?_) fun h => ?_
  refine srk tbok ⟨150, [(8, vb false)], []⟩ ?_
  refine swp_ret ?_
  obtain rfl := inj h
  exact nx_r (q_fr (f1 fv))
  refine swp_skip ?_
  refine nx_n ?_
  refine swp_seq ?_
  refine srk tbok ⟨150, [(149, vb (x36 != x27.1))], []⟩ ?_
  refine swp_cd h (fun h => ?_) fun h => ?_
  refine srk tbok ⟨150, [(8, vb false)], []⟩ ?_
  refine swp_ret ?_
  obtain rfl := inj h
  exact nx_r (q_fr (f1 fv))
  refine swp_skip ?_
  refine nx_n ?_
  refine srk tbok ⟨150, [(8, vb true)], []⟩ ?_
  refine swp_ret ?_
  obtain rfl := inj h
  exact q_fr (f1 fv)
noncomputable def impl_editDistance (aA : ByteArray) (aB : ByteArray) : Option (Int) :=
  ((make' 0 (w64 ((aB.size : Int) + 1))).bind fun x1 => (((forS (x1.length : Int) (fun (i4 : Int) (s4 : (List Int)) => ((at' s4 i4).bind fun _ => some (List.set s4 (Int.toNat i4) i4))) (fun (s4 : (List Int)) => s4) 0 x1)).bind fun (j2 : (List Int)) => (((forS (aA.size : Int) (fun (i11 : Int) (s11 : (List Int)) => (((forS (aB.size : Int) (fun (i17 : Int) (s17 : (List Int)) => ((at' s11 i17).bind fun x21 => ((byte' aA i11).bind fun x22 => ((byte' aB i17).bind fun x23 => (((bif (x22 != x23) then some (w64 (x21 + 1)) else some x21)).bind fun (j24 : Int) => ((at' s11 (w64 (i17 + 1))).bind fun x26 => ((at' s17 i17).bind fun x27 => ((app' s17 ([(minI (minI j24 (w64 (x26 + 1))) (w64 (x27 + 1)))] : List Int)).bind fun x29 => some x29)))))))) (fun (s17 : (List Int)) => s17) 0 ([(w64 (i11 + 1))] : List Int))).bind fun (j15 : (List Int)) => some j15)) (fun (s11 : (List Int)) => s11) 0 j2)).bind fun (j9 : (List Int)) => ((at' j9 (aB.size : Int)).bind fun x30 => some x30))))
noncomputable def impl_phraseDistance (aA : ByteArray) (aB : ByteArray) : Option (Int) :=
  ((impl_wordsOf aA).bind fun x1 => ((impl_wordsOf aB).bind fun x2 => (((bif (decide ((x1.length : Int) < (x2.length : Int))) then some (x2, x1) else some (x1, x2))).bind fun (j3 : (List ByteArray) × (List ByteArray)) => (((forS (j3.1.length : Int) (fun (i7 : Int) (s7 : Int) => ((at' j3.1 i7).bind fun x11 => (bif (decide (i7 < (j3.2.length : Int))) then ((at' j3.2 i7).bind fun x12 => ((impl_editDistance x11 x12).bind fun x13 => some (w64 (s7 + x13)))) else some (w64 (s7 + (x11.size : Int)))))) (fun (s7 : Int) => s7) 0 0)).bind fun (j5 : Int) => some j5))))
noncomputable def impl_countSatisfied (aList : (List Site)) (aDescriptions : (List Description)) (aP : Point) : Option (Int) :=
  (((forS (aDescriptions.length : Int) (fun (i3 : Int) (s3 : Int) => ((at' aDescriptions i3).bind fun x7 => ((impl_satisfies aList x7 aP).bind fun x8 => (bif x8 then some (w64 (s3 + 1)) else some s3)))) (fun (s3 : Int) => s3) 0 0)).bind fun (j1 : Int) => some j1)
noncomputable def impl_question_answer (aQ : question) (aC : Candidate) : Option (Answer) :=
  ((impl_phraseDistance aQ.text aC.Text).bind fun x1 => ((impl_countSatisfied aQ.sites aQ.descriptions aC.At).bind fun x2 => some (Answer.mk aC.Code x1 x2)))
noncomputable def bits_Len32 (aX : Int) : Option (Int) :=
  (((bif (decide (aX ≥ 65536)) then some ((Int.fdiv aX (2 ^ 16)), 16) else some (aX, 0))).bind fun (j1 : Int × Int) => (((bif (decide (j1.1 ≥ 256)) then some ((Int.fdiv j1.1 (2 ^ 8)), (w64 (j1.2 + 8))) else some (j1.1, j1.2))).bind fun (j3 : Int × Int) => ((byte' (ByteArray.mk #[0, 1, 2, 2, 3, 3, 3, 3, 4, 4, 4, 4, 4, 4, 4, 4, 5, 5, 5, 5, 5, 5, 5, 5, 5, 5, 5, 5, 5, 5, 5, 5, 6, 6, 6, 6, 6, 6, 6, 6, 6, 6, 6, 6, 6, 6, 6, 6, 6, 6, 6, 6, 6, 6, 6, 6, 6, 6, 6, 6, 6, 6, 6, 6, 7, 7, 7, 7, 7, 7, 7, 7, 7, 7, 7, 7, 7, 7, 7, 7, 7, 7, 7, 7, 7, 7, 7, 7, 7, 7, 7, 7, 7, 7, 7, 7, 7, 7, 7, 7, 7, 7, 7, 7, 7, 7, 7, 7, 7, 7, 7, 7, 7, 7, 7, 7, 7, 7, 7, 7, 7, 7, 7, 7, 7, 7, 7, 7, 8, 8, 8, 8, 8, 8, 8, 8, 8, 8, 8, 8, 8, 8, 8, 8, 8, 8, 8, 8, 8, 8, 8, 8, 8, 8, 8, 8, 8, 8, 8, 8, 8, 8, 8, 8, 8, 8, 8, 8, 8, 8, 8, 8, 8, 8, 8, 8, 8, 8, 8, 8, 8, 8, 8, 8, 8, 8, 8, 8, 8, 8, 8, 8, 8, 8, 8, 8, 8, 8, 8, 8, 8, 8, 8, 8, 8, 8, 8, 8, 8, 8, 8, 8, 8, 8, 8, 8, 8, 8, 8, 8, 8, 8, 8, 8, 8, 8, 8, 8, 8, 8, 8, 8, 8, 8, 8, 8, 8, 8, 8, 8, 8, 8, 8, 8, 8, 8, 8, 8, 8, 8, 8, 8, 8, 8, 8, 8]) (IntKind.wrap .u8 j3.1)).bind fun x5 => some (w64 (j3.2 + (w64 x5))))))
noncomputable def bits_Len64 (aX : Int) : Option (Int) :=
  (((bif (decide (aX ≥ 4294967296)) then some ((Int.fdiv aX (2 ^ 32)), 32) else some (aX, 0))).bind fun (j1 : Int × Int) => (((bif (decide (j1.1 ≥ 65536)) then some ((Int.fdiv j1.1 (2 ^ 16)), (w64 (j1.2 + 16))) else some (j1.1, j1.2))).bind fun (j3 : Int × Int) => (((bif (decide (j3.1 ≥ 256)) then some ((Int.fdiv j3.1 (2 ^ 8)), (w64 (j3.2 + 8))) else some (j3.1, j3.2))).bind fun (j5 : Int × Int) => ((byte' (ByteArray.mk #[0, 1, 2, 2, 3, 3, 3, 3, 4, 4, 4, 4, 4, 4, 4, 4, 5, 5, 5, 5, 5, 5, 5, 5, 5, 5, 5, 5, 5, 5, 5, 5, 6, 6, 6, 6, 6, 6, 6, 6, 6, 6, 6, 6, 6, 6, 6, 6, 6, 6, 6, 6, 6, 6, 6, 6, 6, 6, 6, 6, 6, 6, 6, 6, 7, 7, 7, 7, 7, 7, 7, 7, 7, 7, 7, 7, 7, 7, 7, 7, 7, 7, 7, 7, 7, 7, 7, 7, 7, 7, 7, 7, 7, 7, 7, 7, 7, 7, 7, 7, 7, 7, 7, 7, 7, 7, 7, 7, 7, 7, 7, 7, 7, 7, 7, 7, 7, 7, 7, 7, 7, 7, 7, 7, 7, 7, 7, 7, 8, 8, 8, 8, 8, 8, 8, 8, 8, 8, 8, 8, 8, 8, 8, 8, 8, 8, 8, 8, 8, 8, 8, 8, 8, 8, 8, 8, 8, 8, 8, 8, 8, 8, 8, 8, 8, 8, 8, 8, 8, 8, 8, 8, 8, 8, 8, 8, 8, 8, 8, 8, 8, 8, 8, 8, 8, 8, 8, 8, 8, 8, 8, 8, 8, 8, 8, 8, 8, 8, 8, 8, 8, 8, 8, 8, 8, 8, 8, 8, 8, 8, 8, 8, 8, 8, 8, 8, 8, 8, 8, 8, 8, 8, 8, 8, 8, 8, 8, 8, 8, 8, 8, 8, 8, 8, 8, 8, 8, 8, 8, 8, 8, 8, 8, 8, 8, 8, 8, 8, 8, 8, 8, 8, 8, 8, 8, 8]) (IntKind.wrap .u8 j5.1)).bind fun x7 => some (w64 (j5.2 + (w64 x7)))))))
noncomputable def bits_Len (aX : Int) : Option (Int) :=
  (bif false then ((bits_Len32 (IntKind.wrap .u32 aX)).bind fun x1 => some x1) else ((bits_Len64 aX).bind fun x2 => some x2))
noncomputable def cmp_isNaN_int64 (aX : Int) : Option (Bool) :=
  some (aX != aX)
noncomputable def cmp_Compare_int64 (aX : Int) (aY : Int) : Option (Int) :=
  ((cmp_isNaN_int64 aX).bind fun x1 => ((cmp_isNaN_int64 aY).bind fun x2 => (bif x1 then (bif x2 then some 0 else some (-1)) else (bif x2 then some 1 else (bif (decide (aX < aY)) then some (-1) else (bif (decide (aX > aY)) then some 1 else some 0))))))
noncomputable def cmp_Or_int (aVals : (List Int)) : Option (Int) :=
  (((forN (aVals.length : Int) (fun (i3 : Int) (_ : Unit) => ((at' aVals i3).bind fun x7 => (bif (x7 != 0) then some (.inr (.inr x7)) else some (.inl ())))) (fun (_ : Unit) => .inl ()) 0 ())).bind (Sum.elim (fun (_ : Unit) => some 0) some))
noncomputable def impl_question_answers_1 (aA : Answer) (aB : Answer) : Option (Int) :=
  ((cmp_Compare_int64 (w64 ((w64 (10 * aB.Satisfied)) - aB.Distance)) (w64 ((w64 (10 * aA.Satisfied)) - aA.Distance))).bind fun x1 => ((strings_Compare aA.Code aB.Code).bind fun x2 => ((cmp_Or_int ([x1, x2] : List Int)).bind fun x3 => some x3)))
end Go.Proofs.YtodgenjlhiiieaaGreatDoor.Sh
