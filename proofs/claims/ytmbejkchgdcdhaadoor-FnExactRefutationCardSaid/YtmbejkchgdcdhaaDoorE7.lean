/- Typed functions and the calls that do what they say. -/
import Derived.Test.YtmbejkchgdcdhaaDoorSB
import Derived.Test.YtmbejkchgdcdhaaDoorKA
import Derived.Test.YtmbejkchgdcdhaaDoorKR
import Derived.Test.YtmbejkchgdcdhaaDoorH1
import Derived.Test.YtmbejkchgdcdhaaDoorGA
import Derived.Test.YtmbejkchgdcdhaaDoorGB
namespace Go.Proofs.YtmbejkchgdcdhaaDoor.Sh
open Go.RowKit

def tblE7 : Tb := [(2, ti2), (4, ti4), (9, ti9), (22, ti22), (39, ti39)]
theorem tbokE7 : TbOk Tryd.prog tblE7 := TbOk.cons ⟨by kernel_rfl, show Tryd.prog.underlying 2 = some (.int .i64) from by kernel_rfl⟩ (TbOk.cons ⟨by kernel_rfl, show Tryd.prog.underlying 4 = some (.bool) from by kernel_rfl⟩ (TbOk.cons ⟨by kernel_rfl, show Tryd.prog.underlying 9 = some (.string) from by kernel_rfl⟩ (TbOk.cons ⟨by kernel_rfl, show Tryd.prog.underlying 22 = some (.slice 39) from by kernel_rfl⟩ (TbOk.cons ⟨by kernel_rfl, show structOf Tryd.prog 39 = some [(0, 2), (1, 2), (2, 4), (3, 9)] from by kernel_rfl⟩ (TbOk.nil _)))))
noncomputable def laws_FnExactRefutation (aAN : Int) (aAList : (List Tie)) : Option (Bool) :=
  ((laws_szTieS aAList 1048576).bind fun x1 => (bif (decide (x1 < 0)) then some true else ((laws_toTieS aAList).bind fun x2 => ((spec_Refutation aAN x2).bind fun x3 => ((laws_toTieS aAList).bind fun x4 => ((impl_Refutation aAN x4).bind fun x5 => (((bif (x5.1 != x3.1) then some true else ((laws_eqInt64S x5.2.1 x3.2.1).bind fun x6 => (bif (!x6) then some true else some (x5.2.2 != x3.2.2))))).bind fun (j7 : Bool) => (bif j7 then some false else ((laws_toTieS aAList).bind fun x9 => ((laws_eqTieS x4 x9).bind fun x10 => (bif (!x10) then some false else ((laws_markTieS x4 1).bind fun x11 => (((bif (decide (x11.1 < 0)) then some true else (bif (x5.1 != x3.1) then some true else ((laws_eqInt64S x5.2.1 x3.2.1).bind fun x12 => (bif (!x12) then some true else some (x5.2.2 != x3.2.2)))))).bind fun (j13 : Bool) => (bif j13 then some false else ((laws_markInt64S x5.2.1 1).bind fun x15 => ((laws_heldInt64S x15.2 1).bind fun x16 => (bif (decide (x16 < 0)) then some false else (bif (x16 != x15.1) then some false else ((laws_toTieS aAList).bind fun x17 => ((impl_Refutation aAN x17).bind fun x18 => (((bif (x18.1 != x3.1) then some true else ((laws_eqInt64S x18.2.1 x3.2.1).bind fun x19 => (bif (!x19) then some true else some (x18.2.2 != x3.2.2))))).bind fun (j20 : Bool) => (bif j20 then some false else ((laws_heldInt64S x15.2 1).bind fun x22 => (bif (decide (x22 < 0)) then some false else (bif (x22 != x15.1) then some false else some true)))))))))))))))))))))))))
set_option maxRecDepth 100000 in
set_option maxHeartbeats 4000000 in
theorem laws_FnExactRefutation_run (aAN : Int) (aAList : (List Tie)) (r : Bool) (h : laws_FnExactRefutation aAN aAList = some r) : SCall Tryd.prog 10 [.v (vi aAN), .v (vl eTie aAList)] ⟨[.v (vb r)], [], false⟩ := by
  refine scall_in Tryd.func10 rfl [(.tmp 4)] rfl (fun r => ⟨[.v (vb r)], [], false⟩) (r := r) ?_
  unfold laws_FnExactRefutation at h
  refine swp_seq ?_
  refine swp_reg ?_
  refine SRun.ck tbokE7 1 ⟨122, [(0, vi aAN), (1, vl eTie aAList)], []⟩ ?_
  refine SRun.nil ?_
  refine nx_n ?_
  refine swp_seq ?_
  refine swp_reg ?_
  refine SRun.ck tbokE7 1 ⟨122, [(0, vi aAN), (1, vl eTie aAList), (5, vi 1048576)], []⟩ ?_
  refine SRun.nil ?_
  refine nx_n ?_
  refine swp_seq ?_
  refine swp_reg ?_
  refine SRun.ck tbokE7 2 ⟨122, [(0, vi aAN), (1, vl eTie aAList), (19, vl eTie aAList), (20, vi 1048576)], []⟩ ?_
  obtain ⟨x1, hx1, h⟩ := bind_some h
  refine SRun.ls (x_lstep_call (f := 14) (caps := []) (xs := [vl eTie aAList, vi 1048576]) (ys := [vl eTie aAList, vi 1048576]) (res := ⟨[.v (vi x1)], [], false⟩) (x := vi x1) (y := none) rfl ents14 (laws_szTieS_run aAList 1048576 _ hx1) rfl (by intro hc; cases hc)) ?_
  refine SRun.ck tbokE7 1 ⟨122, [(0, vi aAN), (1, vl eTie aAList), (5, vi x1)], []⟩ ?_
  refine SRun.nil ?_
  refine nx_n ?_
  refine swp_seq ?_
  refine swp_seq ?_
  refine swp_reg ?_
  refine SRun.ck tbokE7 2 ⟨122, [(0, vi aAN), (1, vl eTie aAList), (23, vb (decide (x1 < 0)))], []⟩ ?_
  refine SRun.nil ?_
  refine nx_n ?_
  refine swp_cond (b := (decide (x1 < 0))) (by kernel_rfl) (fun hb => ?_) (fun hb => ?_)
  replace h := cond_t hb h
  refine swp_seq ?_
  refine swp_reg ?_
  refine SRun.ck tbokE7 1 ⟨122, [(4, vb true)], []⟩ ?_
  refine SRun.nil ?_
  refine nx_n ?_
  refine swp_ret ?_
  replace h := Option.some.inj h
  subst h
  exact nx_r (q_fr (fin1 (by kernel_rfl) (finV rfl (by simp [SV.Flat, SV.Flat.FlatL, Tr.flat]) (holds_t (by kernel_rfl)))))
  replace h := cond_f hb h
  refine swp_skip ?_
  refine nx_n ?_
  refine swp_seq ?_
  refine swp_reg ?_
  refine SRun.ck tbokE7 2 ⟨122, [(0, vi aAN), (1, vl eTie aAList), (25, vi aAN), (26, vl eTie aAList)], []⟩ ?_
  obtain ⟨x2, hx2, h⟩ := bind_some h
  refine SRun.ls (x_lstep_call (f := 16) (caps := []) (xs := [vl eTie aAList]) (ys := [vl eTie aAList]) (res := ⟨[.own 42 4 x2.length (x2.map eTie)], [], false⟩) (x := .own 27) (y := some (.arr 42 4 x2.length (x2.map eTie))) rfl ents16 (laws_toTieS_run aAList _ hx2) rfl (by intro hc; cases hc)) ?_
  obtain ⟨x3, hx3, h⟩ := bind_some h
  refine SRun.ls (x_lstep_call (f := 38) (caps := []) (xs := [vi aAN, .own 27]) (ys := [vi aAN, vl eTie x2]) (res := ⟨[.v (vi x3.1), .own 2 1 x3.2.1.length (x3.2.1.map (eI .i64)), .v (vi x3.2.2)], [], false⟩) (x := .tup [vi x3.1, .own 28, vi x3.2.2]) (y := some (.arr 2 1 x3.2.1.length (x3.2.1.map (eI .i64)))) rfl ents38 (spec_Refutation_run aAN x2 _ hx3) rfl (by intro hc; cases hc)) ?_
  refine SRun.ck tbokE7 7 ⟨122, [(0, vi aAN), (1, vl eTie aAList), (6, vi x3.1), (7, .own 28), (8, vi x3.2.2)], [(28, .arr 2 1 x3.2.1.length (x3.2.1.map (eI .i64)))]⟩ ?_
  refine SRun.nil ?_
  refine nx_n ?_
  refine swp_seq ?_
  refine swp_reg ?_
  refine SRun.ck tbokE7 1 ⟨122, [(0, vi aAN), (1, vl eTie aAList), (6, vi x3.1), (7, .own 28), (8, vi x3.2.2), (32, vl eTie aAList)], [(28, .arr 2 1 x3.2.1.length (x3.2.1.map (eI .i64)))]⟩ ?_
  obtain ⟨x4, hx4, h⟩ := bind_some h
  refine SRun.ls (x_lstep_call (f := 16) (caps := []) (xs := [vl eTie aAList]) (ys := [vl eTie aAList]) (res := ⟨[.own 42 4 x4.length (x4.map eTie)], [], false⟩) (x := .own 33) (y := some (.arr 42 4 x4.length (x4.map eTie))) rfl ents16 (laws_toTieS_run aAList _ hx4) rfl (by intro hc; cases hc)) ?_
  refine SRun.ck tbokE7 1 ⟨122, [(0, vi aAN), (1, vl eTie aAList), (6, vi x3.1), (7, .own 28), (8, vi x3.2.2), (9, .own 33)], [(28, .arr 2 1 x3.2.1.length (x3.2.1.map (eI .i64))), (33, .arr 42 4 x4.length (x4.map eTie))]⟩ ?_
  refine SRun.nil ?_
  refine nx_n ?_
  refine swp_seq ?_
  refine swp_reg ?_
  refine SRun.ck tbokE7 2 ⟨122, [(0, vi aAN), (1, vl eTie aAList), (6, vi x3.1), (7, .own 28), (8, vi x3.2.2), (9, .own 33), (35, vi aAN), (36, .own 33)], [(28, .arr 2 1 x3.2.1.length (x3.2.1.map (eI .i64))), (33, .arr 42 4 x4.length (x4.map eTie))]⟩ ?_
  obtain ⟨x5, hx5, h⟩ := bind_some h
  refine SRun.ls (x_lstep_call (f := 39) (caps := []) (xs := [vi aAN, .own 33]) (ys := [vi aAN, vl eTie x4]) (res := ⟨[.v (vi x5.1), .own 2 1 x5.2.1.length (x5.2.1.map (eI .i64)), .v (vi x5.2.2)], [], false⟩) (x := .tup [vi x5.1, .own 37, vi x5.2.2]) (y := some (.arr 2 1 x5.2.1.length (x5.2.1.map (eI .i64)))) rfl ents39 (impl_Refutation_run aAN x4 _ hx5) rfl (by intro hc; cases hc)) ?_
  refine SRun.ck tbokE7 7 ⟨122, [(0, vi aAN), (1, vl eTie aAList), (6, vi x3.1), (7, .own 28), (8, vi x3.2.2), (9, .own 33), (10, vi x5.1), (11, .own 37), (12, vi x5.2.2)], [(28, .arr 2 1 x3.2.1.length (x3.2.1.map (eI .i64))), (33, .arr 42 4 x4.length (x4.map eTie)), (37, .arr 2 1 x5.2.1.length (x5.2.1.map (eI .i64)))]⟩ ?_
  refine SRun.nil ?_
  refine nx_n ?_
  refine swp_seq ?_
  refine swp_seq ?_
  refine swp_regJ h (fun j7 => ⟨122, [(0, vi aAN), (1, vl eTie aAList), (6, vi x3.1), (7, .own 7), (8, vi x3.2.2), (9, .own 9), (10, vi x5.1), (11, .own 11), (12, vi x5.2.2), (54, vb j7)], [(7, .arr 2 1 x3.2.1.length (x3.2.1.map (eI .i64))), (9, .arr 42 4 x4.length (x4.map eTie)), (11, .arr 2 1 x5.2.1.length (x5.2.1.map (eI .i64)))]⟩) (fun v8 h => ?_) (fun j7 h => ?_)
  refine SRun.ck tbokE7 4 ⟨122, [(0, vi aAN), (1, vl eTie aAList), (6, vi x3.1), (7, .own 28), (8, vi x3.2.2), (9, .own 33), (10, vi x5.1), (11, .own 37), (12, vi x5.2.2), (44, vb (x5.1 != x3.1))], [(28, .arr 2 1 x3.2.1.length (x3.2.1.map (eI .i64))), (33, .arr 42 4 x4.length (x4.map eTie)), (37, .arr 2 1 x5.2.1.length (x5.2.1.map (eI .i64)))]⟩ ?_
  refine SRun.cut [(44, fun b => b)] (b := (x5.1 != x3.1)) (by kernel_rfl) (fun hb => ?_) (fun hb => ?_)
  replace h := cond_t hb h
  refine SRun.ck tbokE7 10 ⟨122, [(0, vi aAN), (1, vl eTie aAList), (6, vi x3.1), (7, .own 28), (8, vi x3.2.2), (9, .own 33), (10, vi x5.1), (11, .own 37), (12, vi x5.2.2), (54, vb true)], [(28, .arr 2 1 x3.2.1.length (x3.2.1.map (eI .i64))), (33, .arr 42 4 x4.length (x4.map eTie)), (37, .arr 2 1 x5.2.1.length (x5.2.1.map (eI .i64)))]⟩ ?_
  refine SRun.nil ?_
  replace h := Option.some.inj h
  subst h
  exact (Le.sub' ([(0, vi aAN), (1, vl eTie aAList), (6, vi x3.1), (7, .own 28), (8, vi x3.2.2), (9, .own 33), (10, vi x5.1), (11, .own 37), (12, vi x5.2.2), (54, vb true)] : List (Nat × SV)) ([(28, .arr 2 1 x3.2.1.length (x3.2.1.map (eI .i64))), (33, .arr 42 4 x4.length (x4.map eTie)), (37, .arr 2 1 x5.2.1.length (x5.2.1.map (eI .i64)))] : List (Nat × SO)) (by kernel_rfl) (by kernel_rfl)).trans ((Le.ren' (d := 28) (e := 7) (by kernel_rfl) (by kernel_rfl) (by kernel_rfl)).trans ((Le.ren' (d := 33) (e := 9) (by kernel_rfl) (by kernel_rfl) (by kernel_rfl)).trans ((Le.ren' (d := 37) (e := 11) (by kernel_rfl) (by kernel_rfl) (by kernel_rfl)).trans (Le.sub0))))
  replace h := cond_f hb h
  refine SRun.ck tbokE7 2 ⟨122, [(0, vi aAN), (1, vl eTie aAList), (6, vi x3.1), (7, .own 28), (8, vi x3.2.2), (9, .own 33), (10, vi x5.1), (11, .own 37), (12, vi x5.2.2), (44, vb false), (45, .own 37), (46, .own 28)], [(28, .arr 2 1 x3.2.1.length (x3.2.1.map (eI .i64))), (33, .arr 42 4 x4.length (x4.map eTie)), (37, .arr 2 1 x5.2.1.length (x5.2.1.map (eI .i64)))]⟩ ?_
  obtain ⟨x6, hx6, h⟩ := bind_some h
  refine SRun.ls (x_lstep_call (f := 40) (caps := []) (xs := [.own 37, .own 28]) (ys := [vl (eI .i64) x5.2.1, vl (eI .i64) x3.2.1]) (res := ⟨[.v (vb x6)], [], false⟩) (x := vb x6) (y := none) rfl ents40 (laws_eqInt64S_run x5.2.1 x3.2.1 _ hx6) rfl (by intro hc; cases hc)) ?_
  refine SRun.ck tbokE7 3 ⟨122, [(0, vi aAN), (1, vl eTie aAList), (6, vi x3.1), (7, .own 28), (8, vi x3.2.2), (9, .own 33), (10, vi x5.1), (11, .own 37), (12, vi x5.2.2), (50, vb (!x6))], [(28, .arr 2 1 x3.2.1.length (x3.2.1.map (eI .i64))), (33, .arr 42 4 x4.length (x4.map eTie)), (37, .arr 2 1 x5.2.1.length (x5.2.1.map (eI .i64)))]⟩ ?_
  refine SRun.cut [(50, fun b => b)] (b := (!x6)) (by kernel_rfl) (fun hb => ?_) (fun hb => ?_)
  replace h := cond_t hb h
  refine SRun.ck tbokE7 4 ⟨122, [(0, vi aAN), (1, vl eTie aAList), (6, vi x3.1), (7, .own 28), (8, vi x3.2.2), (9, .own 33), (10, vi x5.1), (11, .own 37), (12, vi x5.2.2), (54, vb true)], [(28, .arr 2 1 x3.2.1.length (x3.2.1.map (eI .i64))), (33, .arr 42 4 x4.length (x4.map eTie)), (37, .arr 2 1 x5.2.1.length (x5.2.1.map (eI .i64)))]⟩ ?_
  refine SRun.nil ?_
  replace h := Option.some.inj h
  subst h
  exact (Le.sub' ([(0, vi aAN), (1, vl eTie aAList), (6, vi x3.1), (7, .own 28), (8, vi x3.2.2), (9, .own 33), (10, vi x5.1), (11, .own 37), (12, vi x5.2.2), (54, vb true)] : List (Nat × SV)) ([(28, .arr 2 1 x3.2.1.length (x3.2.1.map (eI .i64))), (33, .arr 42 4 x4.length (x4.map eTie)), (37, .arr 2 1 x5.2.1.length (x5.2.1.map (eI .i64)))] : List (Nat × SO)) (by kernel_rfl) (by kernel_rfl)).trans ((Le.ren' (d := 28) (e := 7) (by kernel_rfl) (by kernel_rfl) (by kernel_rfl)).trans ((Le.ren' (d := 33) (e := 9) (by kernel_rfl) (by kernel_rfl) (by kernel_rfl)).trans ((Le.ren' (d := 37) (e := 11) (by kernel_rfl) (by kernel_rfl) (by kernel_rfl)).trans (Le.sub0))))
  replace h := cond_f hb h
  refine SRun.ck tbokE7 4 ⟨122, [(0, vi aAN), (1, vl eTie aAList), (6, vi x3.1), (7, .own 28), (8, vi x3.2.2), (9, .own 33), (10, vi x5.1), (11, .own 37), (12, vi x5.2.2), (54, vb (x5.2.2 != x3.2.2))], [(28, .arr 2 1 x3.2.1.length (x3.2.1.map (eI .i64))), (33, .arr 42 4 x4.length (x4.map eTie)), (37, .arr 2 1 x5.2.1.length (x5.2.1.map (eI .i64)))]⟩ ?_
  refine SRun.nil ?_
  replace h := Option.some.inj h
  subst h
  exact (Le.sub' ([(0, vi aAN), (1, vl eTie aAList), (6, vi x3.1), (7, .own 28), (8, vi x3.2.2), (9, .own 33), (10, vi x5.1), (11, .own 37), (12, vi x5.2.2), (54, vb (x5.2.2 != x3.2.2))] : List (Nat × SV)) ([(28, .arr 2 1 x3.2.1.length (x3.2.1.map (eI .i64))), (33, .arr 42 4 x4.length (x4.map eTie)), (37, .arr 2 1 x5.2.1.length (x5.2.1.map (eI .i64)))] : List (Nat × SO)) (by kernel_rfl) (by kernel_rfl)).trans ((Le.ren' (d := 28) (e := 7) (by kernel_rfl) (by kernel_rfl) (by kernel_rfl)).trans ((Le.ren' (d := 33) (e := 9) (by kernel_rfl) (by kernel_rfl) (by kernel_rfl)).trans ((Le.ren' (d := 37) (e := 11) (by kernel_rfl) (by kernel_rfl) (by kernel_rfl)).trans (Le.sub0))))
  refine swp_cond (b := j7) (by kernel_rfl) (fun hb => ?_) (fun hb => ?_)
  replace h := cond_t hb h
  refine swp_seq ?_
  refine swp_reg ?_
  refine SRun.ck tbokE7 1 ⟨122, [(4, vb false)], []⟩ ?_
  refine SRun.nil ?_
  refine nx_n ?_
  refine swp_ret ?_
  replace h := Option.some.inj h
  subst h
  exact nx_r (q_fr (fin1 (by kernel_rfl) (finV rfl (by simp [SV.Flat, SV.Flat.FlatL, Tr.flat]) (holds_t (by kernel_rfl)))))
  replace h := cond_f hb h
  refine swp_skip ?_
  refine nx_n ?_
  refine swp_seq ?_
  refine swp_seq ?_
  refine swp_reg ?_
  refine SRun.ck tbokE7 2 ⟨122, [(0, vi aAN), (1, vl eTie aAList), (6, vi x3.1), (7, .own 7), (8, vi x3.2.2), (9, .own 9), (10, vi x5.1), (11, .own 11), (12, vi x5.2.2), (55, .own 9), (56, vl eTie aAList)], [(7, .arr 2 1 x3.2.1.length (x3.2.1.map (eI .i64))), (9, .arr 42 4 x4.length (x4.map eTie)), (11, .arr 2 1 x5.2.1.length (x5.2.1.map (eI .i64)))]⟩ ?_
  obtain ⟨x9, hx9, h⟩ := bind_some h
  refine SRun.ls (x_lstep_call (f := 16) (caps := []) (xs := [vl eTie aAList]) (ys := [vl eTie aAList]) (res := ⟨[.own 42 4 x9.length (x9.map eTie)], [], false⟩) (x := .own 57) (y := some (.arr 42 4 x9.length (x9.map eTie))) rfl ents16 (laws_toTieS_run aAList _ hx9) rfl (by intro hc; cases hc)) ?_
  obtain ⟨x10, hx10, h⟩ := bind_some h
  refine SRun.ls (x_lstep_call (f := 18) (caps := []) (xs := [.own 9, .own 57]) (ys := [vl eTie x4, vl eTie x9]) (res := ⟨[.v (vb x10)], [], false⟩) (x := vb x10) (y := none) rfl ents18 (laws_eqTieS_run x4 x9 _ hx10) rfl (by intro hc; cases hc)) ?_
  refine SRun.ck tbokE7 1 ⟨122, [(0, vi aAN), (1, vl eTie aAList), (6, vi x3.1), (7, .own 7), (8, vi x3.2.2), (9, .own 9), (10, vi x5.1), (11, .own 11), (12, vi x5.2.2), (59, vb (!x10))], [(7, .arr 2 1 x3.2.1.length (x3.2.1.map (eI .i64))), (9, .arr 42 4 x4.length (x4.map eTie)), (11, .arr 2 1 x5.2.1.length (x5.2.1.map (eI .i64)))]⟩ ?_
  refine SRun.nil ?_
  refine nx_n ?_
  refine swp_cond (b := (!x10)) (by kernel_rfl) (fun hb => ?_) (fun hb => ?_)
  replace h := cond_t hb h
  refine swp_seq ?_
  refine swp_reg ?_
  refine SRun.ck tbokE7 1 ⟨122, [(4, vb false)], []⟩ ?_
  refine SRun.nil ?_
  refine nx_n ?_
  refine swp_ret ?_
  replace h := Option.some.inj h
  subst h
  exact nx_r (q_fr (fin1 (by kernel_rfl) (finV rfl (by simp [SV.Flat, SV.Flat.FlatL, Tr.flat]) (holds_t (by kernel_rfl)))))
  replace h := cond_f hb h
  refine swp_skip ?_
  refine nx_n ?_
  refine swp_seq ?_
  refine swp_reg ?_
  refine SRun.ck tbokE7 1 ⟨122, [(0, vi aAN), (1, vl eTie aAList), (6, vi x3.1), (7, .own 7), (8, vi x3.2.2), (9, .own 9), (10, vi x5.1), (11, .own 11), (12, vi x5.2.2), (13, vi 1)], [(7, .arr 2 1 x3.2.1.length (x3.2.1.map (eI .i64))), (9, .arr 42 4 x4.length (x4.map eTie)), (11, .arr 2 1 x5.2.1.length (x5.2.1.map (eI .i64)))]⟩ ?_
  refine SRun.nil ?_
  refine nx_n ?_
  refine swp_seq ?_
  refine swp_reg ?_
  refine SRun.ck tbokE7 2 ⟨122, [(0, vi aAN), (1, vl eTie aAList), (6, vi x3.1), (7, .own 7), (8, vi x3.2.2), (10, vi x5.1), (11, .own 11), (12, vi x5.2.2), (60, .own 9), (61, vi 1)], [(7, .arr 2 1 x3.2.1.length (x3.2.1.map (eI .i64))), (9, .arr 42 4 x4.length (x4.map eTie)), (11, .arr 2 1 x5.2.1.length (x5.2.1.map (eI .i64)))]⟩ ?_
  obtain ⟨x11, hx11, h⟩ := bind_some h
  refine SRun.estep (x_estep_call (f := 21) (caps := []) (xs := [.own 9, vi 1]) (pre := []) (post := [vi 1]) (qs := [vi 1]) (z := .own 9) (d := 9) (pl := 0) (y := .arr 42 4 x4.length (x4.map eTie)) (y' := .arr 42 4 x11.2.length (x11.2.map eTie)) (res := ⟨[.v (vi x11.1)], [(0, .arr 42 4 x11.2.length (x11.2.map eTie))], false⟩) (x := vi x11.1) (yo := none) rfl rfl rfl rfl rfl ents21 (laws_markTieS_run x4 1 _ hx11) rfl rfl false (fun _ => rfl) (by intro hc; cases hc)) ?_
  refine SRun.ck tbokE7 1 ⟨122, [(0, vi aAN), (1, vl eTie aAList), (6, vi x3.1), (7, .own 7), (8, vi x3.2.2), (10, vi x5.1), (11, .own 11), (12, vi x5.2.2), (13, vi x11.1)], [(7, .arr 2 1 x3.2.1.length (x3.2.1.map (eI .i64))), (11, .arr 2 1 x5.2.1.length (x5.2.1.map (eI .i64)))]⟩ ?_
  refine SRun.nil ?_
  refine nx_n ?_
  refine swp_seq ?_
  refine swp_seq ?_
  refine swp_regJ h (fun j13 => ⟨122, [(0, vi aAN), (1, vl eTie aAList), (6, vi x3.1), (7, .own 7), (8, vi x3.2.2), (11, .own 11), (80, vb j13)], [(7, .arr 2 1 x3.2.1.length (x3.2.1.map (eI .i64))), (11, .arr 2 1 x5.2.1.length (x5.2.1.map (eI .i64)))]⟩) (fun v14 h => ?_) (fun j13 h => ?_)
  refine SRun.ck tbokE7 3 ⟨122, [(0, vi aAN), (1, vl eTie aAList), (6, vi x3.1), (7, .own 7), (8, vi x3.2.2), (10, vi x5.1), (11, .own 11), (12, vi x5.2.2), (65, vb (decide (x11.1 < 0)))], [(7, .arr 2 1 x3.2.1.length (x3.2.1.map (eI .i64))), (11, .arr 2 1 x5.2.1.length (x5.2.1.map (eI .i64)))]⟩ ?_
  refine SRun.cut [(65, fun b => b)] (b := (decide (x11.1 < 0))) (by kernel_rfl) (fun hb => ?_) (fun hb => ?_)
  replace h := cond_t hb h
  refine SRun.ck tbokE7 15 ⟨122, [(0, vi aAN), (1, vl eTie aAList), (6, vi x3.1), (7, .own 7), (8, vi x3.2.2), (11, .own 11), (80, vb true)], [(7, .arr 2 1 x3.2.1.length (x3.2.1.map (eI .i64))), (11, .arr 2 1 x5.2.1.length (x5.2.1.map (eI .i64)))]⟩ ?_
  refine SRun.nil ?_
  replace h := Option.some.inj h
  subst h
  exact Le.sub0
  replace h := cond_f hb h
  refine SRun.ck tbokE7 5 ⟨122, [(0, vi aAN), (1, vl eTie aAList), (6, vi x3.1), (7, .own 7), (8, vi x3.2.2), (11, .own 11), (12, vi x5.2.2), (70, vb (x5.1 != x3.1))], [(7, .arr 2 1 x3.2.1.length (x3.2.1.map (eI .i64))), (11, .arr 2 1 x5.2.1.length (x5.2.1.map (eI .i64)))]⟩ ?_
  refine SRun.cut [(70, fun b => b)] (b := (x5.1 != x3.1)) (by kernel_rfl) (fun hb => ?_) (fun hb => ?_)
  replace h := cond_t hb h
  refine SRun.ck tbokE7 10 ⟨122, [(0, vi aAN), (1, vl eTie aAList), (6, vi x3.1), (7, .own 7), (8, vi x3.2.2), (11, .own 11), (80, vb true)], [(7, .arr 2 1 x3.2.1.length (x3.2.1.map (eI .i64))), (11, .arr 2 1 x5.2.1.length (x5.2.1.map (eI .i64)))]⟩ ?_
  refine SRun.nil ?_
  replace h := Option.some.inj h
  subst h
  exact Le.sub0
  replace h := cond_f hb h
  refine SRun.ck tbokE7 2 ⟨122, [(0, vi aAN), (1, vl eTie aAList), (6, vi x3.1), (7, .own 7), (8, vi x3.2.2), (11, .own 11), (12, vi x5.2.2), (70, vb false), (71, .own 11), (72, .own 7)], [(7, .arr 2 1 x3.2.1.length (x3.2.1.map (eI .i64))), (11, .arr 2 1 x5.2.1.length (x5.2.1.map (eI .i64)))]⟩ ?_
  obtain ⟨x12, hx12, h⟩ := bind_some h
  refine SRun.ls (x_lstep_call (f := 40) (caps := []) (xs := [.own 11, .own 7]) (ys := [vl (eI .i64) x5.2.1, vl (eI .i64) x3.2.1]) (res := ⟨[.v (vb x12)], [], false⟩) (x := vb x12) (y := none) rfl ents40 (laws_eqInt64S_run x5.2.1 x3.2.1 _ hx12) rfl (by intro hc; cases hc)) ?_
  refine SRun.ck tbokE7 3 ⟨122, [(0, vi aAN), (1, vl eTie aAList), (6, vi x3.1), (7, .own 7), (8, vi x3.2.2), (11, .own 11), (12, vi x5.2.2), (76, vb (!x12))], [(7, .arr 2 1 x3.2.1.length (x3.2.1.map (eI .i64))), (11, .arr 2 1 x5.2.1.length (x5.2.1.map (eI .i64)))]⟩ ?_
  refine SRun.cut [(76, fun b => b)] (b := (!x12)) (by kernel_rfl) (fun hb => ?_) (fun hb => ?_)
  replace h := cond_t hb h
  refine SRun.ck tbokE7 4 ⟨122, [(0, vi aAN), (1, vl eTie aAList), (6, vi x3.1), (7, .own 7), (8, vi x3.2.2), (11, .own 11), (80, vb true)], [(7, .arr 2 1 x3.2.1.length (x3.2.1.map (eI .i64))), (11, .arr 2 1 x5.2.1.length (x5.2.1.map (eI .i64)))]⟩ ?_
  refine SRun.nil ?_
  replace h := Option.some.inj h
  subst h
  exact Le.sub0
  replace h := cond_f hb h
  refine SRun.ck tbokE7 4 ⟨122, [(0, vi aAN), (1, vl eTie aAList), (6, vi x3.1), (7, .own 7), (8, vi x3.2.2), (11, .own 11), (80, vb (x5.2.2 != x3.2.2))], [(7, .arr 2 1 x3.2.1.length (x3.2.1.map (eI .i64))), (11, .arr 2 1 x5.2.1.length (x5.2.1.map (eI .i64)))]⟩ ?_
  refine SRun.nil ?_
  replace h := Option.some.inj h
  subst h
  exact Le.sub0
  refine swp_cond (b := j13) (by kernel_rfl) (fun hb => ?_) (fun hb => ?_)
  replace h := cond_t hb h
  refine swp_seq ?_
  refine swp_reg ?_
  refine SRun.ck tbokE7 1 ⟨122, [(4, vb false)], []⟩ ?_
  refine SRun.nil ?_
  refine nx_n ?_
  refine swp_ret ?_
  replace h := Option.some.inj h
  subst h
  exact nx_r (q_fr (fin1 (by kernel_rfl) (finV rfl (by simp [SV.Flat, SV.Flat.FlatL, Tr.flat]) (holds_t (by kernel_rfl)))))
  replace h := cond_f hb h
  refine swp_skip ?_
  refine nx_n ?_
  refine swp_seq ?_
  refine swp_reg ?_
  refine SRun.ck tbokE7 1 ⟨122, [(0, vi aAN), (1, vl eTie aAList), (6, vi x3.1), (7, .own 7), (8, vi x3.2.2), (11, .own 11), (14, vi 1)], [(7, .arr 2 1 x3.2.1.length (x3.2.1.map (eI .i64))), (11, .arr 2 1 x5.2.1.length (x5.2.1.map (eI .i64)))]⟩ ?_
  refine SRun.nil ?_
  refine nx_n ?_
  refine swp_seq ?_
  refine swp_reg ?_
  refine SRun.ck tbokE7 2 ⟨122, [(0, vi aAN), (1, vl eTie aAList), (6, vi x3.1), (7, .own 7), (8, vi x3.2.2), (11, .own 11), (81, .own 11), (82, vi 1)], [(7, .arr 2 1 x3.2.1.length (x3.2.1.map (eI .i64))), (11, .arr 2 1 x5.2.1.length (x5.2.1.map (eI .i64)))]⟩ ?_
  obtain ⟨x15, hx15, h⟩ := bind_some h
  refine SRun.estep (x_estep_call (f := 41) (caps := []) (xs := [.own 11, vi 1]) (pre := []) (post := [vi 1]) (qs := [vi 1]) (z := .own 11) (d := 11) (pl := 0) (y := .arr 2 1 x5.2.1.length (x5.2.1.map (eI .i64))) (y' := .arr 2 1 x15.2.length (x15.2.map (eI .i64))) (res := ⟨[.v (vi x15.1)], [(0, .arr 2 1 x15.2.length (x15.2.map (eI .i64)))], false⟩) (x := vi x15.1) (yo := none) rfl rfl rfl rfl rfl ents41 (laws_markInt64S_run x5.2.1 1 _ hx15) rfl rfl false (fun _ => rfl) (by intro hc; cases hc)) ?_
  refine SRun.ck tbokE7 1 ⟨122, [(0, vi aAN), (1, vl eTie aAList), (6, vi x3.1), (7, .own 7), (8, vi x3.2.2), (11, .own 11), (14, vi x15.1)], [(7, .arr 2 1 x3.2.1.length (x3.2.1.map (eI .i64))), (11, .arr 2 1 x15.2.length (x15.2.map (eI .i64)))]⟩ ?_
  refine SRun.nil ?_
  refine nx_n ?_
  refine swp_seq ?_
  refine swp_reg ?_
  refine SRun.ck tbokE7 1 ⟨122, [(0, vi aAN), (1, vl eTie aAList), (6, vi x3.1), (7, .own 7), (8, vi x3.2.2), (11, .own 11), (14, vi x15.1), (15, vi 1)], [(7, .arr 2 1 x3.2.1.length (x3.2.1.map (eI .i64))), (11, .arr 2 1 x15.2.length (x15.2.map (eI .i64)))]⟩ ?_
  refine SRun.nil ?_
  refine nx_n ?_
  refine swp_seq ?_
  refine swp_reg ?_
  refine SRun.ck tbokE7 2 ⟨122, [(0, vi aAN), (1, vl eTie aAList), (6, vi x3.1), (7, .own 7), (8, vi x3.2.2), (11, .own 11), (14, vi x15.1), (84, .own 11), (85, vi 1)], [(7, .arr 2 1 x3.2.1.length (x3.2.1.map (eI .i64))), (11, .arr 2 1 x15.2.length (x15.2.map (eI .i64)))]⟩ ?_
  obtain ⟨x16, hx16, h⟩ := bind_some h
  refine SRun.ls (x_lstep_call (f := 42) (caps := []) (xs := [.own 11, vi 1]) (ys := [vl (eI .i64) x15.2, vi 1]) (res := ⟨[.v (vi x16)], [], false⟩) (x := vi x16) (y := none) rfl ents42 (laws_heldInt64S_run x15.2 1 _ hx16) rfl (by intro hc; cases hc)) ?_
  refine SRun.ck tbokE7 1 ⟨122, [(0, vi aAN), (1, vl eTie aAList), (6, vi x3.1), (7, .own 7), (8, vi x3.2.2), (11, .own 11), (14, vi x15.1), (15, vi x16)], [(7, .arr 2 1 x3.2.1.length (x3.2.1.map (eI .i64))), (11, .arr 2 1 x15.2.length (x15.2.map (eI .i64)))]⟩ ?_
  refine SRun.nil ?_
  refine nx_n ?_
  refine swp_seq ?_
  refine swp_seq ?_
  refine swp_reg ?_
  refine SRun.ck tbokE7 2 ⟨122, [(0, vi aAN), (1, vl eTie aAList), (6, vi x3.1), (7, .own 7), (8, vi x3.2.2), (11, .own 11), (14, vi x15.1), (15, vi x16), (88, vb (decide (x16 < 0)))], [(7, .arr 2 1 x3.2.1.length (x3.2.1.map (eI .i64))), (11, .arr 2 1 x15.2.length (x15.2.map (eI .i64)))]⟩ ?_
  refine SRun.nil ?_
  refine nx_n ?_
  refine swp_cond (b := (decide (x16 < 0))) (by kernel_rfl) (fun hb => ?_) (fun hb => ?_)
  replace h := cond_t hb h
  refine swp_seq ?_
  refine swp_reg ?_
  refine SRun.ck tbokE7 1 ⟨122, [(4, vb false)], []⟩ ?_
  refine SRun.nil ?_
  refine nx_n ?_
  refine swp_ret ?_
  replace h := Option.some.inj h
  subst h
  exact nx_r (q_fr (fin1 (by kernel_rfl) (finV rfl (by simp [SV.Flat, SV.Flat.FlatL, Tr.flat]) (holds_t (by kernel_rfl)))))
  replace h := cond_f hb h
  refine swp_skip ?_
  refine nx_n ?_
  refine swp_seq ?_
  refine swp_seq ?_
  refine swp_reg ?_
  refine SRun.ck tbokE7 3 ⟨122, [(0, vi aAN), (1, vl eTie aAList), (6, vi x3.1), (7, .own 7), (8, vi x3.2.2), (11, .own 11), (14, vi x15.1), (91, vb (x16 != x15.1))], [(7, .arr 2 1 x3.2.1.length (x3.2.1.map (eI .i64))), (11, .arr 2 1 x15.2.length (x15.2.map (eI .i64)))]⟩ ?_
  refine SRun.nil ?_
  refine nx_n ?_
  refine swp_cond (b := (x16 != x15.1)) (by kernel_rfl) (fun hb => ?_) (fun hb => ?_)
  replace h := cond_t hb h
  refine swp_seq ?_
  refine swp_reg ?_
  refine SRun.ck tbokE7 1 ⟨122, [(4, vb false)], []⟩ ?_
  refine SRun.nil ?_
  refine nx_n ?_
  refine swp_ret ?_
  replace h := Option.some.inj h
  subst h
  exact nx_r (q_fr (fin1 (by kernel_rfl) (finV rfl (by simp [SV.Flat, SV.Flat.FlatL, Tr.flat]) (holds_t (by kernel_rfl)))))
  replace h := cond_f hb h
  refine swp_skip ?_
  refine nx_n ?_
  refine swp_seq ?_
  refine swp_reg ?_
  refine SRun.ck tbokE7 2 ⟨122, [(6, vi x3.1), (7, .own 7), (8, vi x3.2.2), (11, .own 11), (14, vi x15.1), (93, vi aAN), (94, vl eTie aAList)], [(7, .arr 2 1 x3.2.1.length (x3.2.1.map (eI .i64))), (11, .arr 2 1 x15.2.length (x15.2.map (eI .i64)))]⟩ ?_
  obtain ⟨x17, hx17, h⟩ := bind_some h
  refine SRun.ls (x_lstep_call (f := 16) (caps := []) (xs := [vl eTie aAList]) (ys := [vl eTie aAList]) (res := ⟨[.own 42 4 x17.length (x17.map eTie)], [], false⟩) (x := .own 95) (y := some (.arr 42 4 x17.length (x17.map eTie))) rfl ents16 (laws_toTieS_run aAList _ hx17) rfl (by intro hc; cases hc)) ?_
  obtain ⟨x18, hx18, h⟩ := bind_some h
  refine SRun.ls (x_lstep_call (f := 39) (caps := []) (xs := [vi aAN, .own 95]) (ys := [vi aAN, vl eTie x17]) (res := ⟨[.v (vi x18.1), .own 2 1 x18.2.1.length (x18.2.1.map (eI .i64)), .v (vi x18.2.2)], [], false⟩) (x := .tup [vi x18.1, .own 96, vi x18.2.2]) (y := some (.arr 2 1 x18.2.1.length (x18.2.1.map (eI .i64)))) rfl ents39 (impl_Refutation_run aAN x17 _ hx18) rfl (by intro hc; cases hc)) ?_
  refine SRun.ck tbokE7 7 ⟨122, [(6, vi x3.1), (7, .own 7), (8, vi x3.2.2), (11, .own 11), (14, vi x15.1), (16, vi x18.1), (17, .own 96), (18, vi x18.2.2)], [(7, .arr 2 1 x3.2.1.length (x3.2.1.map (eI .i64))), (11, .arr 2 1 x15.2.length (x15.2.map (eI .i64))), (96, .arr 2 1 x18.2.1.length (x18.2.1.map (eI .i64)))]⟩ ?_
  refine SRun.nil ?_
  refine nx_n ?_
  refine swp_seq ?_
  refine swp_seq ?_
  refine swp_regJ h (fun j20 => ⟨122, [(11, .own 11), (14, vi x15.1), (113, vb j20)], [(11, .arr 2 1 x15.2.length (x15.2.map (eI .i64)))]⟩) (fun v21 h => ?_) (fun j20 h => ?_)
  refine SRun.ck tbokE7 4 ⟨122, [(7, .own 7), (8, vi x3.2.2), (11, .own 11), (14, vi x15.1), (17, .own 96), (18, vi x18.2.2), (103, vb (x18.1 != x3.1))], [(7, .arr 2 1 x3.2.1.length (x3.2.1.map (eI .i64))), (11, .arr 2 1 x15.2.length (x15.2.map (eI .i64))), (96, .arr 2 1 x18.2.1.length (x18.2.1.map (eI .i64)))]⟩ ?_
  refine SRun.cut [(103, fun b => b)] (b := (x18.1 != x3.1)) (by kernel_rfl) (fun hb => ?_) (fun hb => ?_)
  replace h := cond_t hb h
  refine SRun.ck tbokE7 10 ⟨122, [(11, .own 11), (14, vi x15.1), (113, vb true)], [(11, .arr 2 1 x15.2.length (x15.2.map (eI .i64)))]⟩ ?_
  refine SRun.nil ?_
  replace h := Option.some.inj h
  subst h
  exact Le.sub0
  replace h := cond_f hb h
  refine SRun.ck tbokE7 2 ⟨122, [(8, vi x3.2.2), (11, .own 11), (14, vi x15.1), (18, vi x18.2.2), (103, vb false), (104, .own 96), (105, .own 7)], [(7, .arr 2 1 x3.2.1.length (x3.2.1.map (eI .i64))), (11, .arr 2 1 x15.2.length (x15.2.map (eI .i64))), (96, .arr 2 1 x18.2.1.length (x18.2.1.map (eI .i64)))]⟩ ?_
  obtain ⟨x19, hx19, h⟩ := bind_some h
  refine SRun.ls (x_lstep_call (f := 40) (caps := []) (xs := [.own 96, .own 7]) (ys := [vl (eI .i64) x18.2.1, vl (eI .i64) x3.2.1]) (res := ⟨[.v (vb x19)], [], false⟩) (x := vb x19) (y := none) rfl ents40 (laws_eqInt64S_run x18.2.1 x3.2.1 _ hx19) rfl (by intro hc; cases hc)) ?_
  refine SRun.ck tbokE7 3 ⟨122, [(8, vi x3.2.2), (11, .own 11), (14, vi x15.1), (18, vi x18.2.2), (109, vb (!x19))], [(11, .arr 2 1 x15.2.length (x15.2.map (eI .i64)))]⟩ ?_
  refine SRun.cut [(109, fun b => b)] (b := (!x19)) (by kernel_rfl) (fun hb => ?_) (fun hb => ?_)
  replace h := cond_t hb h
  refine SRun.ck tbokE7 4 ⟨122, [(11, .own 11), (14, vi x15.1), (113, vb true)], [(11, .arr 2 1 x15.2.length (x15.2.map (eI .i64)))]⟩ ?_
  refine SRun.nil ?_
  replace h := Option.some.inj h
  subst h
  exact Le.sub0
  replace h := cond_f hb h
  refine SRun.ck tbokE7 4 ⟨122, [(11, .own 11), (14, vi x15.1), (113, vb (x18.2.2 != x3.2.2))], [(11, .arr 2 1 x15.2.length (x15.2.map (eI .i64)))]⟩ ?_
  refine SRun.nil ?_
  replace h := Option.some.inj h
  subst h
  exact Le.sub0
  refine swp_cond (b := j20) (by kernel_rfl) (fun hb => ?_) (fun hb => ?_)
  replace h := cond_t hb h
  refine swp_seq ?_
  refine swp_reg ?_
  refine SRun.ck tbokE7 1 ⟨122, [(4, vb false)], []⟩ ?_
  refine SRun.nil ?_
  refine nx_n ?_
  refine swp_ret ?_
  replace h := Option.some.inj h
  subst h
  exact nx_r (q_fr (fin1 (by kernel_rfl) (finV rfl (by simp [SV.Flat, SV.Flat.FlatL, Tr.flat]) (holds_t (by kernel_rfl)))))
  replace h := cond_f hb h
  refine swp_skip ?_
  refine nx_n ?_
  refine swp_seq ?_
  refine swp_reg ?_
  refine SRun.ck tbokE7 1 ⟨122, [(11, .own 11), (14, vi x15.1), (15, vi 1)], [(11, .arr 2 1 x15.2.length (x15.2.map (eI .i64)))]⟩ ?_
  refine SRun.nil ?_
  refine nx_n ?_
  refine swp_seq ?_
  refine swp_reg ?_
  refine SRun.ck tbokE7 2 ⟨122, [(14, vi x15.1), (114, .own 11), (115, vi 1)], [(11, .arr 2 1 x15.2.length (x15.2.map (eI .i64)))]⟩ ?_
  obtain ⟨x22, hx22, h⟩ := bind_some h
  refine SRun.ls (x_lstep_call (f := 42) (caps := []) (xs := [.own 11, vi 1]) (ys := [vl (eI .i64) x15.2, vi 1]) (res := ⟨[.v (vi x22)], [], false⟩) (x := vi x22) (y := none) rfl ents42 (laws_heldInt64S_run x15.2 1 _ hx22) rfl (by intro hc; cases hc)) ?_
  refine SRun.ck tbokE7 1 ⟨122, [(14, vi x15.1), (15, vi x22)], []⟩ ?_
  refine SRun.nil ?_
  refine nx_n ?_
  refine swp_seq ?_
  refine swp_seq ?_
  refine swp_reg ?_
  refine SRun.ck tbokE7 2 ⟨122, [(14, vi x15.1), (15, vi x22), (118, vb (decide (x22 < 0)))], []⟩ ?_
  refine SRun.nil ?_
  refine nx_n ?_
  refine swp_cond (b := (decide (x22 < 0))) (by kernel_rfl) (fun hb => ?_) (fun hb => ?_)
  replace h := cond_t hb h
  refine swp_seq ?_
  refine swp_reg ?_
  refine SRun.ck tbokE7 1 ⟨122, [(4, vb false)], []⟩ ?_
  refine SRun.nil ?_
  refine nx_n ?_
  refine swp_ret ?_
  replace h := Option.some.inj h
  subst h
  exact nx_r (q_fr (fin1 (by kernel_rfl) (finV rfl (by simp [SV.Flat, SV.Flat.FlatL, Tr.flat]) (holds_t (by kernel_rfl)))))
  replace h := cond_f hb h
  refine swp_skip ?_
  refine nx_n ?_
  refine swp_seq ?_
  refine swp_seq ?_
  refine swp_reg ?_
  refine SRun.ck tbokE7 3 ⟨122, [(121, vb (x22 != x15.1))], []⟩ ?_
  refine SRun.nil ?_
  refine nx_n ?_
  refine swp_cond (b := (x22 != x15.1)) (by kernel_rfl) (fun hb => ?_) (fun hb => ?_)
  replace h := cond_t hb h
  refine swp_seq ?_
  refine swp_reg ?_
  refine SRun.ck tbokE7 1 ⟨122, [(4, vb false)], []⟩ ?_
  refine SRun.nil ?_
  refine nx_n ?_
  refine swp_ret ?_
  replace h := Option.some.inj h
  subst h
  exact nx_r (q_fr (fin1 (by kernel_rfl) (finV rfl (by simp [SV.Flat, SV.Flat.FlatL, Tr.flat]) (holds_t (by kernel_rfl)))))
  replace h := cond_f hb h
  refine swp_skip ?_
  refine nx_n ?_
  refine swp_seq ?_
  refine swp_reg ?_
  refine SRun.ck tbokE7 1 ⟨122, [(4, vb true)], []⟩ ?_
  refine SRun.nil ?_
  refine nx_n ?_
  refine swp_ret ?_
  replace h := Option.some.inj h
  subst h
  exact q_fr (fin1 (by kernel_rfl) (finV rfl (by simp [SV.Flat, SV.Flat.FlatL, Tr.flat]) (holds_t (by kernel_rfl))))
theorem ents10 : Ents Tryd.prog 10 := ents_of Tryd.func10 (by kernel_rfl) rfl
end Go.Proofs.YtmbejkchgdcdhaaDoor.Sh
