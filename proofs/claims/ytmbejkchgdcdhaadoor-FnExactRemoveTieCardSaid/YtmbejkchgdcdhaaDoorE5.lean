/- Typed functions and the calls that do what they say. -/
import Derived.Test.YtmbejkchgdcdhaaDoorSB
import Derived.Test.YtmbejkchgdcdhaaDoorKA
import Derived.Test.YtmbejkchgdcdhaaDoorH1
import Derived.Test.YtmbejkchgdcdhaaDoorGA
import Derived.Test.YtmbejkchgdcdhaaDoorGB
namespace Go.Proofs.YtmbejkchgdcdhaaDoor.Sh
open Go.RowKit

def tblE5 : Tb := [(2, ti2), (4, ti4), (9, ti9), (22, ti22), (39, ti39)]
theorem tbokE5 : TbOk Tryd.prog tblE5 := TbOk.cons ⟨by kernel_rfl, show Tryd.prog.underlying 2 = some (.int .i64) from by kernel_rfl⟩ (TbOk.cons ⟨by kernel_rfl, show Tryd.prog.underlying 4 = some (.bool) from by kernel_rfl⟩ (TbOk.cons ⟨by kernel_rfl, show Tryd.prog.underlying 9 = some (.string) from by kernel_rfl⟩ (TbOk.cons ⟨by kernel_rfl, show Tryd.prog.underlying 22 = some (.slice 39) from by kernel_rfl⟩ (TbOk.cons ⟨by kernel_rfl, show structOf Tryd.prog 39 = some [(0, 2), (1, 2), (2, 4), (3, 9)] from by kernel_rfl⟩ (TbOk.nil _)))))
noncomputable def laws_FnExactRemoveTie (aAN : Int) (aAList : (List Tie)) (aAIndex : Int) : Option (Bool) :=
  ((laws_szTieS aAList 1048576).bind fun x1 => (bif (decide (x1 < 0)) then some true else ((laws_toTieS aAList).bind fun x2 => ((spec_RemoveTie aAN x2 aAIndex).bind fun x3 => ((laws_toTieS aAList).bind fun x4 => ((impl_RemoveTie aAN x4 aAIndex).bind fun x5 => ((((laws_eqTieS x5.1 x3.1).bind fun x6 => (bif (!x6) then some true else some (x5.2 != x3.2)))).bind fun (j7 : Bool) => (bif j7 then some false else ((laws_toTieS aAList).bind fun x9 => ((laws_eqTieS x4 x9).bind fun x10 => (bif (!x10) then some false else ((laws_markTieS x4 1).bind fun x11 => (((bif (decide (x11.1 < 0)) then some true else ((laws_eqTieS x5.1 x3.1).bind fun x12 => (bif (!x12) then some true else some (x5.2 != x3.2))))).bind fun (j13 : Bool) => (bif j13 then some false else ((laws_markTieS x5.1 1).bind fun x15 => ((laws_heldTieS x15.2 1).bind fun x16 => (bif (decide (x16 < 0)) then some false else (bif (x16 != x15.1) then some false else ((laws_toTieS aAList).bind fun x17 => ((impl_RemoveTie aAN x17 aAIndex).bind fun x18 => ((((laws_eqTieS x18.1 x3.1).bind fun x19 => (bif (!x19) then some true else some (x18.2 != x3.2)))).bind fun (j20 : Bool) => (bif j20 then some false else ((laws_heldTieS x15.2 1).bind fun x22 => (bif (decide (x22 < 0)) then some false else (bif (x22 != x15.1) then some false else some true)))))))))))))))))))))))))
set_option maxRecDepth 100000 in
set_option maxHeartbeats 4000000 in
theorem laws_FnExactRemoveTie_run (aAN : Int) (aAList : (List Tie)) (aAIndex : Int) (r : Bool) (h : laws_FnExactRemoveTie aAN aAList aAIndex = some r) : SCall Tryd.prog 4 [.v (vi aAN), .v (vl eTie aAList), .v (vi aAIndex)] ⟨[.v (vb r)], [], false⟩ := by
  refine scall_in Tryd.func4 rfl [(.tmp 6)] rfl (fun r => ⟨[.v (vb r)], [], false⟩) (r := r) ?_
  unfold laws_FnExactRemoveTie at h
  refine swp_seq ?_
  refine swp_reg ?_
  refine SRun.ck tbokE5 1 ⟨106, [(0, vi aAN), (1, vl eTie aAList), (2, vi aAIndex)], []⟩ ?_
  refine SRun.nil ?_
  refine nx_n ?_
  refine swp_seq ?_
  refine swp_reg ?_
  refine SRun.ck tbokE5 1 ⟨106, [(0, vi aAN), (1, vl eTie aAList), (2, vi aAIndex), (7, vi 1048576)], []⟩ ?_
  refine SRun.nil ?_
  refine nx_n ?_
  refine swp_seq ?_
  refine swp_reg ?_
  refine SRun.ck tbokE5 2 ⟨106, [(0, vi aAN), (1, vl eTie aAList), (2, vi aAIndex), (18, vl eTie aAList), (19, vi 1048576)], []⟩ ?_
  obtain ⟨x1, hx1, h⟩ := bind_some h
  refine SRun.ls (x_lstep_call (f := 14) (caps := []) (xs := [vl eTie aAList, vi 1048576]) (ys := [vl eTie aAList, vi 1048576]) (res := ⟨[.v (vi x1)], [], false⟩) (x := vi x1) (y := none) rfl ents14 (laws_szTieS_run aAList 1048576 _ hx1) rfl (by intro hc; cases hc)) ?_
  refine SRun.ck tbokE5 1 ⟨106, [(0, vi aAN), (1, vl eTie aAList), (2, vi aAIndex), (7, vi x1)], []⟩ ?_
  refine SRun.nil ?_
  refine nx_n ?_
  refine swp_seq ?_
  refine swp_seq ?_
  refine swp_reg ?_
  refine SRun.ck tbokE5 2 ⟨106, [(0, vi aAN), (1, vl eTie aAList), (2, vi aAIndex), (22, vb (decide (x1 < 0)))], []⟩ ?_
  refine SRun.nil ?_
  refine nx_n ?_
  refine swp_cond (b := (decide (x1 < 0))) (by kernel_rfl) (fun hb => ?_) (fun hb => ?_)
  replace h := cond_t hb h
  refine swp_seq ?_
  refine swp_reg ?_
  refine SRun.ck tbokE5 1 ⟨106, [(6, vb true)], []⟩ ?_
  refine SRun.nil ?_
  refine nx_n ?_
  refine swp_ret ?_
  replace h := Option.some.inj h
  subst h
  exact nx_r (q_fr (fin1 (by kernel_rfl) (finV rfl (by simp [SV.Flat, SV.Flat.FlatL, Tr.flat]) (holds_t (by kernel_rfl)))))
  replace h := cond_f hb h
  refine swp_skip ?_
  refine nx_n ?_
  refine swp_seq ?_
  refine swp_reg ?_
  refine SRun.ck tbokE5 2 ⟨106, [(0, vi aAN), (1, vl eTie aAList), (2, vi aAIndex), (24, vi aAN), (25, vl eTie aAList)], []⟩ ?_
  obtain ⟨x2, hx2, h⟩ := bind_some h
  refine SRun.ls (x_lstep_call (f := 16) (caps := []) (xs := [vl eTie aAList]) (ys := [vl eTie aAList]) (res := ⟨[.own 42 4 x2.length (x2.map eTie)], [], false⟩) (x := .own 26) (y := some (.arr 42 4 x2.length (x2.map eTie))) rfl ents16 (laws_toTieS_run aAList _ hx2) rfl (by intro hc; cases hc)) ?_
  refine SRun.ck tbokE5 1 ⟨106, [(0, vi aAN), (1, vl eTie aAList), (2, vi aAIndex), (24, vi aAN), (26, .own 26), (27, vi aAIndex)], [(26, .arr 42 4 x2.length (x2.map eTie))]⟩ ?_
  obtain ⟨x3, hx3, h⟩ := bind_some h
  refine SRun.ls (x_lstep_call (f := 19) (caps := []) (xs := [vi aAN, .own 26, vi aAIndex]) (ys := [vi aAN, vl eTie x2, vi aAIndex]) (res := ⟨[.own 42 4 x3.1.length (x3.1.map eTie), .v (vi x3.2)], [], false⟩) (x := .tup [.own 28, vi x3.2]) (y := some (.arr 42 4 x3.1.length (x3.1.map eTie))) rfl ents19 (spec_RemoveTie_run aAN x2 aAIndex _ hx3) rfl (by intro hc; cases hc)) ?_
  refine SRun.ck tbokE5 5 ⟨106, [(0, vi aAN), (1, vl eTie aAList), (2, vi aAIndex), (8, .own 28), (9, vi x3.2)], [(28, .arr 42 4 x3.1.length (x3.1.map eTie))]⟩ ?_
  refine SRun.nil ?_
  refine nx_n ?_
  refine swp_seq ?_
  refine swp_reg ?_
  refine SRun.ck tbokE5 1 ⟨106, [(0, vi aAN), (1, vl eTie aAList), (2, vi aAIndex), (8, .own 28), (9, vi x3.2), (31, vl eTie aAList)], [(28, .arr 42 4 x3.1.length (x3.1.map eTie))]⟩ ?_
  obtain ⟨x4, hx4, h⟩ := bind_some h
  refine SRun.ls (x_lstep_call (f := 16) (caps := []) (xs := [vl eTie aAList]) (ys := [vl eTie aAList]) (res := ⟨[.own 42 4 x4.length (x4.map eTie)], [], false⟩) (x := .own 32) (y := some (.arr 42 4 x4.length (x4.map eTie))) rfl ents16 (laws_toTieS_run aAList _ hx4) rfl (by intro hc; cases hc)) ?_
  refine SRun.ck tbokE5 1 ⟨106, [(0, vi aAN), (1, vl eTie aAList), (2, vi aAIndex), (8, .own 28), (9, vi x3.2), (10, .own 32)], [(28, .arr 42 4 x3.1.length (x3.1.map eTie)), (32, .arr 42 4 x4.length (x4.map eTie))]⟩ ?_
  refine SRun.nil ?_
  refine nx_n ?_
  refine swp_seq ?_
  refine swp_reg ?_
  refine SRun.ck tbokE5 3 ⟨106, [(0, vi aAN), (1, vl eTie aAList), (2, vi aAIndex), (8, .own 28), (9, vi x3.2), (10, .own 32), (34, vi aAN), (35, .own 32), (36, vi aAIndex)], [(28, .arr 42 4 x3.1.length (x3.1.map eTie)), (32, .arr 42 4 x4.length (x4.map eTie))]⟩ ?_
  obtain ⟨x5, hx5, h⟩ := bind_some h
  refine SRun.ls (x_lstep_call (f := 20) (caps := []) (xs := [vi aAN, .own 32, vi aAIndex]) (ys := [vi aAN, vl eTie x4, vi aAIndex]) (res := ⟨[.own 42 4 x5.1.length (x5.1.map eTie), .v (vi x5.2)], [], false⟩) (x := .tup [.own 37, vi x5.2]) (y := some (.arr 42 4 x5.1.length (x5.1.map eTie))) rfl ents20 (impl_RemoveTie_run aAN x4 aAIndex _ hx5) rfl (by intro hc; cases hc)) ?_
  refine SRun.ck tbokE5 5 ⟨106, [(0, vi aAN), (1, vl eTie aAList), (2, vi aAIndex), (8, .own 28), (9, vi x3.2), (10, .own 32), (11, .own 37), (12, vi x5.2)], [(28, .arr 42 4 x3.1.length (x3.1.map eTie)), (32, .arr 42 4 x4.length (x4.map eTie)), (37, .arr 42 4 x5.1.length (x5.1.map eTie))]⟩ ?_
  refine SRun.nil ?_
  refine nx_n ?_
  refine swp_seq ?_
  refine swp_seq ?_
  refine swp_regJ h (fun j7 => ⟨106, [(0, vi aAN), (1, vl eTie aAList), (2, vi aAIndex), (8, .own 8), (9, vi x3.2), (10, .own 10), (11, .own 11), (12, vi x5.2), (48, vb j7)], [(8, .arr 42 4 x3.1.length (x3.1.map eTie)), (10, .arr 42 4 x4.length (x4.map eTie)), (11, .arr 42 4 x5.1.length (x5.1.map eTie))]⟩) (fun v8 h => ?_) (fun j7 h => ?_)
  refine SRun.ck tbokE5 2 ⟨106, [(0, vi aAN), (1, vl eTie aAList), (2, vi aAIndex), (8, .own 28), (9, vi x3.2), (10, .own 32), (11, .own 37), (12, vi x5.2), (40, .own 37), (41, .own 28)], [(28, .arr 42 4 x3.1.length (x3.1.map eTie)), (32, .arr 42 4 x4.length (x4.map eTie)), (37, .arr 42 4 x5.1.length (x5.1.map eTie))]⟩ ?_
  obtain ⟨x6, hx6, h⟩ := bind_some h
  refine SRun.ls (x_lstep_call (f := 18) (caps := []) (xs := [.own 37, .own 28]) (ys := [vl eTie x5.1, vl eTie x3.1]) (res := ⟨[.v (vb x6)], [], false⟩) (x := vb x6) (y := none) rfl ents18 (laws_eqTieS_run x5.1 x3.1 _ hx6) rfl (by intro hc; cases hc)) ?_
  refine SRun.ck tbokE5 2 ⟨106, [(0, vi aAN), (1, vl eTie aAList), (2, vi aAIndex), (8, .own 28), (9, vi x3.2), (10, .own 32), (11, .own 37), (12, vi x5.2), (44, vb (!x6))], [(28, .arr 42 4 x3.1.length (x3.1.map eTie)), (32, .arr 42 4 x4.length (x4.map eTie)), (37, .arr 42 4 x5.1.length (x5.1.map eTie))]⟩ ?_
  refine SRun.cut [(44, fun b => b)] (b := (!x6)) (by kernel_rfl) (fun hb => ?_) (fun hb => ?_)
  replace h := cond_t hb h
  refine SRun.ck tbokE5 4 ⟨106, [(0, vi aAN), (1, vl eTie aAList), (2, vi aAIndex), (8, .own 28), (9, vi x3.2), (10, .own 32), (11, .own 37), (12, vi x5.2), (48, vb true)], [(28, .arr 42 4 x3.1.length (x3.1.map eTie)), (32, .arr 42 4 x4.length (x4.map eTie)), (37, .arr 42 4 x5.1.length (x5.1.map eTie))]⟩ ?_
  refine SRun.nil ?_
  replace h := Option.some.inj h
  subst h
  exact (Le.sub' ([(0, vi aAN), (1, vl eTie aAList), (2, vi aAIndex), (8, .own 28), (9, vi x3.2), (10, .own 32), (11, .own 37), (12, vi x5.2), (48, vb true)] : List (Nat × SV)) ([(28, .arr 42 4 x3.1.length (x3.1.map eTie)), (32, .arr 42 4 x4.length (x4.map eTie)), (37, .arr 42 4 x5.1.length (x5.1.map eTie))] : List (Nat × SO)) (by kernel_rfl) (by kernel_rfl)).trans ((Le.ren' (d := 28) (e := 8) (by kernel_rfl) (by kernel_rfl) (by kernel_rfl)).trans ((Le.ren' (d := 32) (e := 10) (by kernel_rfl) (by kernel_rfl) (by kernel_rfl)).trans ((Le.ren' (d := 37) (e := 11) (by kernel_rfl) (by kernel_rfl) (by kernel_rfl)).trans (Le.sub0))))
  replace h := cond_f hb h
  refine SRun.ck tbokE5 4 ⟨106, [(0, vi aAN), (1, vl eTie aAList), (2, vi aAIndex), (8, .own 28), (9, vi x3.2), (10, .own 32), (11, .own 37), (12, vi x5.2), (48, vb (x5.2 != x3.2))], [(28, .arr 42 4 x3.1.length (x3.1.map eTie)), (32, .arr 42 4 x4.length (x4.map eTie)), (37, .arr 42 4 x5.1.length (x5.1.map eTie))]⟩ ?_
  refine SRun.nil ?_
  replace h := Option.some.inj h
  subst h
  exact (Le.sub' ([(0, vi aAN), (1, vl eTie aAList), (2, vi aAIndex), (8, .own 28), (9, vi x3.2), (10, .own 32), (11, .own 37), (12, vi x5.2), (48, vb (x5.2 != x3.2))] : List (Nat × SV)) ([(28, .arr 42 4 x3.1.length (x3.1.map eTie)), (32, .arr 42 4 x4.length (x4.map eTie)), (37, .arr 42 4 x5.1.length (x5.1.map eTie))] : List (Nat × SO)) (by kernel_rfl) (by kernel_rfl)).trans ((Le.ren' (d := 28) (e := 8) (by kernel_rfl) (by kernel_rfl) (by kernel_rfl)).trans ((Le.ren' (d := 32) (e := 10) (by kernel_rfl) (by kernel_rfl) (by kernel_rfl)).trans ((Le.ren' (d := 37) (e := 11) (by kernel_rfl) (by kernel_rfl) (by kernel_rfl)).trans (Le.sub0))))
  refine swp_cond (b := j7) (by kernel_rfl) (fun hb => ?_) (fun hb => ?_)
  replace h := cond_t hb h
  refine swp_seq ?_
  refine swp_reg ?_
  refine SRun.ck tbokE5 1 ⟨106, [(6, vb false)], []⟩ ?_
  refine SRun.nil ?_
  refine nx_n ?_
  refine swp_ret ?_
  replace h := Option.some.inj h
  subst h
  exact nx_r (q_fr (fin1 (by kernel_rfl) (finV rfl (by simp [SV.Flat, SV.Flat.FlatL, Tr.flat]) (holds_t (by kernel_rfl)))))
  replace h := cond_f hb h
  refine swp_skip ?_
  refine nx_n ?_
  refine swp_seq ?_
  refine swp_seq ?_
  refine swp_reg ?_
  refine SRun.ck tbokE5 2 ⟨106, [(0, vi aAN), (1, vl eTie aAList), (2, vi aAIndex), (8, .own 8), (9, vi x3.2), (10, .own 10), (11, .own 11), (12, vi x5.2), (49, .own 10), (50, vl eTie aAList)], [(8, .arr 42 4 x3.1.length (x3.1.map eTie)), (10, .arr 42 4 x4.length (x4.map eTie)), (11, .arr 42 4 x5.1.length (x5.1.map eTie))]⟩ ?_
  obtain ⟨x9, hx9, h⟩ := bind_some h
  refine SRun.ls (x_lstep_call (f := 16) (caps := []) (xs := [vl eTie aAList]) (ys := [vl eTie aAList]) (res := ⟨[.own 42 4 x9.length (x9.map eTie)], [], false⟩) (x := .own 51) (y := some (.arr 42 4 x9.length (x9.map eTie))) rfl ents16 (laws_toTieS_run aAList _ hx9) rfl (by intro hc; cases hc)) ?_
  obtain ⟨x10, hx10, h⟩ := bind_some h
  refine SRun.ls (x_lstep_call (f := 18) (caps := []) (xs := [.own 10, .own 51]) (ys := [vl eTie x4, vl eTie x9]) (res := ⟨[.v (vb x10)], [], false⟩) (x := vb x10) (y := none) rfl ents18 (laws_eqTieS_run x4 x9 _ hx10) rfl (by intro hc; cases hc)) ?_
  refine SRun.ck tbokE5 1 ⟨106, [(0, vi aAN), (1, vl eTie aAList), (2, vi aAIndex), (8, .own 8), (9, vi x3.2), (10, .own 10), (11, .own 11), (12, vi x5.2), (53, vb (!x10))], [(8, .arr 42 4 x3.1.length (x3.1.map eTie)), (10, .arr 42 4 x4.length (x4.map eTie)), (11, .arr 42 4 x5.1.length (x5.1.map eTie))]⟩ ?_
  refine SRun.nil ?_
  refine nx_n ?_
  refine swp_cond (b := (!x10)) (by kernel_rfl) (fun hb => ?_) (fun hb => ?_)
  replace h := cond_t hb h
  refine swp_seq ?_
  refine swp_reg ?_
  refine SRun.ck tbokE5 1 ⟨106, [(6, vb false)], []⟩ ?_
  refine SRun.nil ?_
  refine nx_n ?_
  refine swp_ret ?_
  replace h := Option.some.inj h
  subst h
  exact nx_r (q_fr (fin1 (by kernel_rfl) (finV rfl (by simp [SV.Flat, SV.Flat.FlatL, Tr.flat]) (holds_t (by kernel_rfl)))))
  replace h := cond_f hb h
  refine swp_skip ?_
  refine nx_n ?_
  refine swp_seq ?_
  refine swp_reg ?_
  refine SRun.ck tbokE5 1 ⟨106, [(0, vi aAN), (1, vl eTie aAList), (2, vi aAIndex), (8, .own 8), (9, vi x3.2), (10, .own 10), (11, .own 11), (12, vi x5.2), (13, vi 1)], [(8, .arr 42 4 x3.1.length (x3.1.map eTie)), (10, .arr 42 4 x4.length (x4.map eTie)), (11, .arr 42 4 x5.1.length (x5.1.map eTie))]⟩ ?_
  refine SRun.nil ?_
  refine nx_n ?_
  refine swp_seq ?_
  refine swp_reg ?_
  refine SRun.ck tbokE5 2 ⟨106, [(0, vi aAN), (1, vl eTie aAList), (2, vi aAIndex), (8, .own 8), (9, vi x3.2), (11, .own 11), (12, vi x5.2), (54, .own 10), (55, vi 1)], [(8, .arr 42 4 x3.1.length (x3.1.map eTie)), (10, .arr 42 4 x4.length (x4.map eTie)), (11, .arr 42 4 x5.1.length (x5.1.map eTie))]⟩ ?_
  obtain ⟨x11, hx11, h⟩ := bind_some h
  refine SRun.estep (x_estep_call (f := 21) (caps := []) (xs := [.own 10, vi 1]) (pre := []) (post := [vi 1]) (qs := [vi 1]) (z := .own 10) (d := 10) (pl := 0) (y := .arr 42 4 x4.length (x4.map eTie)) (y' := .arr 42 4 x11.2.length (x11.2.map eTie)) (res := ⟨[.v (vi x11.1)], [(0, .arr 42 4 x11.2.length (x11.2.map eTie))], false⟩) (x := vi x11.1) (yo := none) rfl rfl rfl rfl rfl ents21 (laws_markTieS_run x4 1 _ hx11) rfl rfl false (fun _ => rfl) (by intro hc; cases hc)) ?_
  refine SRun.ck tbokE5 1 ⟨106, [(0, vi aAN), (1, vl eTie aAList), (2, vi aAIndex), (8, .own 8), (9, vi x3.2), (11, .own 11), (12, vi x5.2), (13, vi x11.1)], [(8, .arr 42 4 x3.1.length (x3.1.map eTie)), (11, .arr 42 4 x5.1.length (x5.1.map eTie))]⟩ ?_
  refine SRun.nil ?_
  refine nx_n ?_
  refine swp_seq ?_
  refine swp_seq ?_
  refine swp_regJ h (fun j13 => ⟨106, [(0, vi aAN), (1, vl eTie aAList), (2, vi aAIndex), (8, .own 8), (9, vi x3.2), (11, .own 11), (69, vb j13)], [(8, .arr 42 4 x3.1.length (x3.1.map eTie)), (11, .arr 42 4 x5.1.length (x5.1.map eTie))]⟩) (fun v14 h => ?_) (fun j13 h => ?_)
  refine SRun.ck tbokE5 3 ⟨106, [(0, vi aAN), (1, vl eTie aAList), (2, vi aAIndex), (8, .own 8), (9, vi x3.2), (11, .own 11), (12, vi x5.2), (59, vb (decide (x11.1 < 0)))], [(8, .arr 42 4 x3.1.length (x3.1.map eTie)), (11, .arr 42 4 x5.1.length (x5.1.map eTie))]⟩ ?_
  refine SRun.cut [(59, fun b => b)] (b := (decide (x11.1 < 0))) (by kernel_rfl) (fun hb => ?_) (fun hb => ?_)
  replace h := cond_t hb h
  refine SRun.ck tbokE5 10 ⟨106, [(0, vi aAN), (1, vl eTie aAList), (2, vi aAIndex), (8, .own 8), (9, vi x3.2), (11, .own 11), (69, vb true)], [(8, .arr 42 4 x3.1.length (x3.1.map eTie)), (11, .arr 42 4 x5.1.length (x5.1.map eTie))]⟩ ?_
  refine SRun.nil ?_
  replace h := Option.some.inj h
  subst h
  exact Le.sub0
  replace h := cond_f hb h
  refine SRun.ck tbokE5 2 ⟨106, [(0, vi aAN), (1, vl eTie aAList), (2, vi aAIndex), (8, .own 8), (9, vi x3.2), (11, .own 11), (12, vi x5.2), (59, vb false), (60, .own 11), (61, .own 8)], [(8, .arr 42 4 x3.1.length (x3.1.map eTie)), (11, .arr 42 4 x5.1.length (x5.1.map eTie))]⟩ ?_
  obtain ⟨x12, hx12, h⟩ := bind_some h
  refine SRun.ls (x_lstep_call (f := 18) (caps := []) (xs := [.own 11, .own 8]) (ys := [vl eTie x5.1, vl eTie x3.1]) (res := ⟨[.v (vb x12)], [], false⟩) (x := vb x12) (y := none) rfl ents18 (laws_eqTieS_run x5.1 x3.1 _ hx12) rfl (by intro hc; cases hc)) ?_
  refine SRun.ck tbokE5 3 ⟨106, [(0, vi aAN), (1, vl eTie aAList), (2, vi aAIndex), (8, .own 8), (9, vi x3.2), (11, .own 11), (12, vi x5.2), (65, vb (!x12))], [(8, .arr 42 4 x3.1.length (x3.1.map eTie)), (11, .arr 42 4 x5.1.length (x5.1.map eTie))]⟩ ?_
  refine SRun.cut [(65, fun b => b)] (b := (!x12)) (by kernel_rfl) (fun hb => ?_) (fun hb => ?_)
  replace h := cond_t hb h
  refine SRun.ck tbokE5 4 ⟨106, [(0, vi aAN), (1, vl eTie aAList), (2, vi aAIndex), (8, .own 8), (9, vi x3.2), (11, .own 11), (69, vb true)], [(8, .arr 42 4 x3.1.length (x3.1.map eTie)), (11, .arr 42 4 x5.1.length (x5.1.map eTie))]⟩ ?_
  refine SRun.nil ?_
  replace h := Option.some.inj h
  subst h
  exact Le.sub0
  replace h := cond_f hb h
  refine SRun.ck tbokE5 4 ⟨106, [(0, vi aAN), (1, vl eTie aAList), (2, vi aAIndex), (8, .own 8), (9, vi x3.2), (11, .own 11), (69, vb (x5.2 != x3.2))], [(8, .arr 42 4 x3.1.length (x3.1.map eTie)), (11, .arr 42 4 x5.1.length (x5.1.map eTie))]⟩ ?_
  refine SRun.nil ?_
  replace h := Option.some.inj h
  subst h
  exact Le.sub0
  refine swp_cond (b := j13) (by kernel_rfl) (fun hb => ?_) (fun hb => ?_)
  replace h := cond_t hb h
  refine swp_seq ?_
  refine swp_reg ?_
  refine SRun.ck tbokE5 1 ⟨106, [(6, vb false)], []⟩ ?_
  refine SRun.nil ?_
  refine nx_n ?_
  refine swp_ret ?_
  replace h := Option.some.inj h
  subst h
  exact nx_r (q_fr (fin1 (by kernel_rfl) (finV rfl (by simp [SV.Flat, SV.Flat.FlatL, Tr.flat]) (holds_t (by kernel_rfl)))))
  replace h := cond_f hb h
  refine swp_skip ?_
  refine nx_n ?_
  refine swp_seq ?_
  refine swp_reg ?_
  refine SRun.ck tbokE5 1 ⟨106, [(0, vi aAN), (1, vl eTie aAList), (2, vi aAIndex), (8, .own 8), (9, vi x3.2), (11, .own 11), (14, vi 1)], [(8, .arr 42 4 x3.1.length (x3.1.map eTie)), (11, .arr 42 4 x5.1.length (x5.1.map eTie))]⟩ ?_
  refine SRun.nil ?_
  refine nx_n ?_
  refine swp_seq ?_
  refine swp_reg ?_
  refine SRun.ck tbokE5 2 ⟨106, [(0, vi aAN), (1, vl eTie aAList), (2, vi aAIndex), (8, .own 8), (9, vi x3.2), (11, .own 11), (70, .own 11), (71, vi 1)], [(8, .arr 42 4 x3.1.length (x3.1.map eTie)), (11, .arr 42 4 x5.1.length (x5.1.map eTie))]⟩ ?_
  obtain ⟨x15, hx15, h⟩ := bind_some h
  refine SRun.estep (x_estep_call (f := 21) (caps := []) (xs := [.own 11, vi 1]) (pre := []) (post := [vi 1]) (qs := [vi 1]) (z := .own 11) (d := 11) (pl := 0) (y := .arr 42 4 x5.1.length (x5.1.map eTie)) (y' := .arr 42 4 x15.2.length (x15.2.map eTie)) (res := ⟨[.v (vi x15.1)], [(0, .arr 42 4 x15.2.length (x15.2.map eTie))], false⟩) (x := vi x15.1) (yo := none) rfl rfl rfl rfl rfl ents21 (laws_markTieS_run x5.1 1 _ hx15) rfl rfl false (fun _ => rfl) (by intro hc; cases hc)) ?_
  refine SRun.ck tbokE5 1 ⟨106, [(0, vi aAN), (1, vl eTie aAList), (2, vi aAIndex), (8, .own 8), (9, vi x3.2), (11, .own 11), (14, vi x15.1)], [(8, .arr 42 4 x3.1.length (x3.1.map eTie)), (11, .arr 42 4 x15.2.length (x15.2.map eTie))]⟩ ?_
  refine SRun.nil ?_
  refine nx_n ?_
  refine swp_seq ?_
  refine swp_reg ?_
  refine SRun.ck tbokE5 1 ⟨106, [(0, vi aAN), (1, vl eTie aAList), (2, vi aAIndex), (8, .own 8), (9, vi x3.2), (11, .own 11), (14, vi x15.1), (15, vi 1)], [(8, .arr 42 4 x3.1.length (x3.1.map eTie)), (11, .arr 42 4 x15.2.length (x15.2.map eTie))]⟩ ?_
  refine SRun.nil ?_
  refine nx_n ?_
  refine swp_seq ?_
  refine swp_reg ?_
  refine SRun.ck tbokE5 2 ⟨106, [(0, vi aAN), (1, vl eTie aAList), (2, vi aAIndex), (8, .own 8), (9, vi x3.2), (11, .own 11), (14, vi x15.1), (73, .own 11), (74, vi 1)], [(8, .arr 42 4 x3.1.length (x3.1.map eTie)), (11, .arr 42 4 x15.2.length (x15.2.map eTie))]⟩ ?_
  obtain ⟨x16, hx16, h⟩ := bind_some h
  refine SRun.ls (x_lstep_call (f := 22) (caps := []) (xs := [.own 11, vi 1]) (ys := [vl eTie x15.2, vi 1]) (res := ⟨[.v (vi x16)], [], false⟩) (x := vi x16) (y := none) rfl ents22 (laws_heldTieS_run x15.2 1 _ hx16) rfl (by intro hc; cases hc)) ?_
  refine SRun.ck tbokE5 1 ⟨106, [(0, vi aAN), (1, vl eTie aAList), (2, vi aAIndex), (8, .own 8), (9, vi x3.2), (11, .own 11), (14, vi x15.1), (15, vi x16)], [(8, .arr 42 4 x3.1.length (x3.1.map eTie)), (11, .arr 42 4 x15.2.length (x15.2.map eTie))]⟩ ?_
  refine SRun.nil ?_
  refine nx_n ?_
  refine swp_seq ?_
  refine swp_seq ?_
  refine swp_reg ?_
  refine SRun.ck tbokE5 2 ⟨106, [(0, vi aAN), (1, vl eTie aAList), (2, vi aAIndex), (8, .own 8), (9, vi x3.2), (11, .own 11), (14, vi x15.1), (15, vi x16), (77, vb (decide (x16 < 0)))], [(8, .arr 42 4 x3.1.length (x3.1.map eTie)), (11, .arr 42 4 x15.2.length (x15.2.map eTie))]⟩ ?_
  refine SRun.nil ?_
  refine nx_n ?_
  refine swp_cond (b := (decide (x16 < 0))) (by kernel_rfl) (fun hb => ?_) (fun hb => ?_)
  replace h := cond_t hb h
  refine swp_seq ?_
  refine swp_reg ?_
  refine SRun.ck tbokE5 1 ⟨106, [(6, vb false)], []⟩ ?_
  refine SRun.nil ?_
  refine nx_n ?_
  refine swp_ret ?_
  replace h := Option.some.inj h
  subst h
  exact nx_r (q_fr (fin1 (by kernel_rfl) (finV rfl (by simp [SV.Flat, SV.Flat.FlatL, Tr.flat]) (holds_t (by kernel_rfl)))))
  replace h := cond_f hb h
  refine swp_skip ?_
  refine nx_n ?_
  refine swp_seq ?_
  refine swp_seq ?_
  refine swp_reg ?_
  refine SRun.ck tbokE5 3 ⟨106, [(0, vi aAN), (1, vl eTie aAList), (2, vi aAIndex), (8, .own 8), (9, vi x3.2), (11, .own 11), (14, vi x15.1), (80, vb (x16 != x15.1))], [(8, .arr 42 4 x3.1.length (x3.1.map eTie)), (11, .arr 42 4 x15.2.length (x15.2.map eTie))]⟩ ?_
  refine SRun.nil ?_
  refine nx_n ?_
  refine swp_cond (b := (x16 != x15.1)) (by kernel_rfl) (fun hb => ?_) (fun hb => ?_)
  replace h := cond_t hb h
  refine swp_seq ?_
  refine swp_reg ?_
  refine SRun.ck tbokE5 1 ⟨106, [(6, vb false)], []⟩ ?_
  refine SRun.nil ?_
  refine nx_n ?_
  refine swp_ret ?_
  replace h := Option.some.inj h
  subst h
  exact nx_r (q_fr (fin1 (by kernel_rfl) (finV rfl (by simp [SV.Flat, SV.Flat.FlatL, Tr.flat]) (holds_t (by kernel_rfl)))))
  replace h := cond_f hb h
  refine swp_skip ?_
  refine nx_n ?_
  refine swp_seq ?_
  refine swp_reg ?_
  refine SRun.ck tbokE5 2 ⟨106, [(2, vi aAIndex), (8, .own 8), (9, vi x3.2), (11, .own 11), (14, vi x15.1), (82, vi aAN), (83, vl eTie aAList)], [(8, .arr 42 4 x3.1.length (x3.1.map eTie)), (11, .arr 42 4 x15.2.length (x15.2.map eTie))]⟩ ?_
  obtain ⟨x17, hx17, h⟩ := bind_some h
  refine SRun.ls (x_lstep_call (f := 16) (caps := []) (xs := [vl eTie aAList]) (ys := [vl eTie aAList]) (res := ⟨[.own 42 4 x17.length (x17.map eTie)], [], false⟩) (x := .own 84) (y := some (.arr 42 4 x17.length (x17.map eTie))) rfl ents16 (laws_toTieS_run aAList _ hx17) rfl (by intro hc; cases hc)) ?_
  refine SRun.ck tbokE5 1 ⟨106, [(8, .own 8), (9, vi x3.2), (11, .own 11), (14, vi x15.1), (82, vi aAN), (84, .own 84), (85, vi aAIndex)], [(8, .arr 42 4 x3.1.length (x3.1.map eTie)), (11, .arr 42 4 x15.2.length (x15.2.map eTie)), (84, .arr 42 4 x17.length (x17.map eTie))]⟩ ?_
  obtain ⟨x18, hx18, h⟩ := bind_some h
  refine SRun.ls (x_lstep_call (f := 20) (caps := []) (xs := [vi aAN, .own 84, vi aAIndex]) (ys := [vi aAN, vl eTie x17, vi aAIndex]) (res := ⟨[.own 42 4 x18.1.length (x18.1.map eTie), .v (vi x18.2)], [], false⟩) (x := .tup [.own 86, vi x18.2]) (y := some (.arr 42 4 x18.1.length (x18.1.map eTie))) rfl ents20 (impl_RemoveTie_run aAN x17 aAIndex _ hx18) rfl (by intro hc; cases hc)) ?_
  refine SRun.ck tbokE5 5 ⟨106, [(8, .own 8), (9, vi x3.2), (11, .own 11), (14, vi x15.1), (16, .own 86), (17, vi x18.2)], [(8, .arr 42 4 x3.1.length (x3.1.map eTie)), (11, .arr 42 4 x15.2.length (x15.2.map eTie)), (86, .arr 42 4 x18.1.length (x18.1.map eTie))]⟩ ?_
  refine SRun.nil ?_
  refine nx_n ?_
  refine swp_seq ?_
  refine swp_seq ?_
  refine swp_regJ h (fun j20 => ⟨106, [(11, .own 11), (14, vi x15.1), (97, vb j20)], [(11, .arr 42 4 x15.2.length (x15.2.map eTie))]⟩) (fun v21 h => ?_) (fun j20 h => ?_)
  refine SRun.ck tbokE5 2 ⟨106, [(9, vi x3.2), (11, .own 11), (14, vi x15.1), (17, vi x18.2), (89, .own 86), (90, .own 8)], [(8, .arr 42 4 x3.1.length (x3.1.map eTie)), (11, .arr 42 4 x15.2.length (x15.2.map eTie)), (86, .arr 42 4 x18.1.length (x18.1.map eTie))]⟩ ?_
  obtain ⟨x19, hx19, h⟩ := bind_some h
  refine SRun.ls (x_lstep_call (f := 18) (caps := []) (xs := [.own 86, .own 8]) (ys := [vl eTie x18.1, vl eTie x3.1]) (res := ⟨[.v (vb x19)], [], false⟩) (x := vb x19) (y := none) rfl ents18 (laws_eqTieS_run x18.1 x3.1 _ hx19) rfl (by intro hc; cases hc)) ?_
  refine SRun.ck tbokE5 2 ⟨106, [(9, vi x3.2), (11, .own 11), (14, vi x15.1), (17, vi x18.2), (93, vb (!x19))], [(11, .arr 42 4 x15.2.length (x15.2.map eTie))]⟩ ?_
  refine SRun.cut [(93, fun b => b)] (b := (!x19)) (by kernel_rfl) (fun hb => ?_) (fun hb => ?_)
  replace h := cond_t hb h
  refine SRun.ck tbokE5 4 ⟨106, [(11, .own 11), (14, vi x15.1), (97, vb true)], [(11, .arr 42 4 x15.2.length (x15.2.map eTie))]⟩ ?_
  refine SRun.nil ?_
  replace h := Option.some.inj h
  subst h
  exact Le.sub0
  replace h := cond_f hb h
  refine SRun.ck tbokE5 4 ⟨106, [(11, .own 11), (14, vi x15.1), (97, vb (x18.2 != x3.2))], [(11, .arr 42 4 x15.2.length (x15.2.map eTie))]⟩ ?_
  refine SRun.nil ?_
  replace h := Option.some.inj h
  subst h
  exact Le.sub0
  refine swp_cond (b := j20) (by kernel_rfl) (fun hb => ?_) (fun hb => ?_)
  replace h := cond_t hb h
  refine swp_seq ?_
  refine swp_reg ?_
  refine SRun.ck tbokE5 1 ⟨106, [(6, vb false)], []⟩ ?_
  refine SRun.nil ?_
  refine nx_n ?_
  refine swp_ret ?_
  replace h := Option.some.inj h
  subst h
  exact nx_r (q_fr (fin1 (by kernel_rfl) (finV rfl (by simp [SV.Flat, SV.Flat.FlatL, Tr.flat]) (holds_t (by kernel_rfl)))))
  replace h := cond_f hb h
  refine swp_skip ?_
  refine nx_n ?_
  refine swp_seq ?_
  refine swp_reg ?_
  refine SRun.ck tbokE5 1 ⟨106, [(11, .own 11), (14, vi x15.1), (15, vi 1)], [(11, .arr 42 4 x15.2.length (x15.2.map eTie))]⟩ ?_
  refine SRun.nil ?_
  refine nx_n ?_
  refine swp_seq ?_
  refine swp_reg ?_
  refine SRun.ck tbokE5 2 ⟨106, [(14, vi x15.1), (98, .own 11), (99, vi 1)], [(11, .arr 42 4 x15.2.length (x15.2.map eTie))]⟩ ?_
  obtain ⟨x22, hx22, h⟩ := bind_some h
  refine SRun.ls (x_lstep_call (f := 22) (caps := []) (xs := [.own 11, vi 1]) (ys := [vl eTie x15.2, vi 1]) (res := ⟨[.v (vi x22)], [], false⟩) (x := vi x22) (y := none) rfl ents22 (laws_heldTieS_run x15.2 1 _ hx22) rfl (by intro hc; cases hc)) ?_
  refine SRun.ck tbokE5 1 ⟨106, [(14, vi x15.1), (15, vi x22)], []⟩ ?_
  refine SRun.nil ?_
  refine nx_n ?_
  refine swp_seq ?_
  refine swp_seq ?_
  refine swp_reg ?_
  refine SRun.ck tbokE5 2 ⟨106, [(14, vi x15.1), (15, vi x22), (102, vb (decide (x22 < 0)))], []⟩ ?_
  refine SRun.nil ?_
  refine nx_n ?_
  refine swp_cond (b := (decide (x22 < 0))) (by kernel_rfl) (fun hb => ?_) (fun hb => ?_)
  replace h := cond_t hb h
  refine swp_seq ?_
  refine swp_reg ?_
  refine SRun.ck tbokE5 1 ⟨106, [(6, vb false)], []⟩ ?_
  refine SRun.nil ?_
  refine nx_n ?_
  refine swp_ret ?_
  replace h := Option.some.inj h
  subst h
  exact nx_r (q_fr (fin1 (by kernel_rfl) (finV rfl (by simp [SV.Flat, SV.Flat.FlatL, Tr.flat]) (holds_t (by kernel_rfl)))))
  replace h := cond_f hb h
  refine swp_skip ?_
  refine nx_n ?_
  refine swp_seq ?_
  refine swp_seq ?_
  refine swp_reg ?_
  refine SRun.ck tbokE5 3 ⟨106, [(105, vb (x22 != x15.1))], []⟩ ?_
  refine SRun.nil ?_
  refine nx_n ?_
  refine swp_cond (b := (x22 != x15.1)) (by kernel_rfl) (fun hb => ?_) (fun hb => ?_)
  replace h := cond_t hb h
  refine swp_seq ?_
  refine swp_reg ?_
  refine SRun.ck tbokE5 1 ⟨106, [(6, vb false)], []⟩ ?_
  refine SRun.nil ?_
  refine nx_n ?_
  refine swp_ret ?_
  replace h := Option.some.inj h
  subst h
  exact nx_r (q_fr (fin1 (by kernel_rfl) (finV rfl (by simp [SV.Flat, SV.Flat.FlatL, Tr.flat]) (holds_t (by kernel_rfl)))))
  replace h := cond_f hb h
  refine swp_skip ?_
  refine nx_n ?_
  refine swp_seq ?_
  refine swp_reg ?_
  refine SRun.ck tbokE5 1 ⟨106, [(6, vb true)], []⟩ ?_
  refine SRun.nil ?_
  refine nx_n ?_
  refine swp_ret ?_
  replace h := Option.some.inj h
  subst h
  exact q_fr (fin1 (by kernel_rfl) (finV rfl (by simp [SV.Flat, SV.Flat.FlatL, Tr.flat]) (holds_t (by kernel_rfl))))
theorem ents4 : Ents Tryd.prog 4 := ents_of Tryd.func4 (by kernel_rfl) rfl
end Go.Proofs.YtmbejkchgdcdhaaDoor.Sh
