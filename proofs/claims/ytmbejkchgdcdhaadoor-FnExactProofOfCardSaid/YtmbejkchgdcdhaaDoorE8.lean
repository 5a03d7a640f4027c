/- Typed functions and the calls that do what they say. -/
import Derived.Test.YtmbejkchgdcdhaaDoorSB
import Derived.Test.YtmbejkchgdcdhaaDoorKA
import Derived.Test.YtmbejkchgdcdhaaDoorKR
import Derived.Test.YtmbejkchgdcdhaaDoorH1
import Derived.Test.YtmbejkchgdcdhaaDoorGA
import Derived.Test.YtmbejkchgdcdhaaDoorGB
namespace Go.Proofs.YtmbejkchgdcdhaaDoor.Sh
open Go.RowKit

def tblE8 : Tb := [(2, ti2), (4, ti4), (9, ti9), (22, ti22), (39, ti39)]
theorem tbokE8 : TbOk Tryd.prog tblE8 := TbOk.cons ⟨by kernel_rfl, show Tryd.prog.underlying 2 = some (.int .i64) from by kernel_rfl⟩ (TbOk.cons ⟨by kernel_rfl, show Tryd.prog.underlying 4 = some (.bool) from by kernel_rfl⟩ (TbOk.cons ⟨by kernel_rfl, show Tryd.prog.underlying 9 = some (.string) from by kernel_rfl⟩ (TbOk.cons ⟨by kernel_rfl, show Tryd.prog.underlying 22 = some (.slice 39) from by kernel_rfl⟩ (TbOk.cons ⟨by kernel_rfl, show structOf Tryd.prog 39 = some [(0, 2), (1, 2), (2, 4), (3, 9)] from by kernel_rfl⟩ (TbOk.nil _)))))
noncomputable def laws_FnExactProofOf (aAN : Int) (aAList : (List Tie)) (aAA : Int) (aAB : Int) : Option (Bool) :=
  ((laws_szTieS aAList 1048576).bind fun x1 => (bif (decide (x1 < 0)) then some true else ((laws_toTieS aAList).bind fun x2 => ((spec_ProofOf aAN x2 aAA aAB).bind fun x3 => ((laws_toTieS aAList).bind fun x4 => ((impl_ProofOf aAN x4 aAA aAB).bind fun x5 => ((((laws_eqInt64S x5.1 x3.1).bind fun x6 => (bif (!x6) then some true else some (x5.2 != x3.2)))).bind fun (j7 : Bool) => (bif j7 then some false else ((laws_toTieS aAList).bind fun x9 => ((laws_eqTieS x4 x9).bind fun x10 => (bif (!x10) then some false else ((laws_markTieS x4 1).bind fun x11 => (((bif (decide (x11.1 < 0)) then some true else ((laws_eqInt64S x5.1 x3.1).bind fun x12 => (bif (!x12) then some true else some (x5.2 != x3.2))))).bind fun (j13 : Bool) => (bif j13 then some false else ((laws_markInt64S x5.1 1).bind fun x15 => ((laws_heldInt64S x15.2 1).bind fun x16 => (bif (decide (x16 < 0)) then some false else (bif (x16 != x15.1) then some false else ((laws_toTieS aAList).bind fun x17 => ((impl_ProofOf aAN x17 aAA aAB).bind fun x18 => ((((laws_eqInt64S x18.1 x3.1).bind fun x19 => (bif (!x19) then some true else some (x18.2 != x3.2)))).bind fun (j20 : Bool) => (bif j20 then some false else ((laws_heldInt64S x15.2 1).bind fun x22 => (bif (decide (x22 < 0)) then some false else (bif (x22 != x15.1) then some false else some true)))))))))))))))))))))))))
set_option maxRecDepth 100000 in
set_option maxHeartbeats 4000000 in
theorem laws_FnExactProofOf_run (aAN : Int) (aAList : (List Tie)) (aAA : Int) (aAB : Int) (r : Bool) (h : laws_FnExactProofOf aAN aAList aAA aAB = some r) : SCall Tryd.prog 11 [.v (vi aAN), .v (vl eTie aAList), .v (vi aAA), .v (vi aAB)] ⟨[.v (vb r)], [], false⟩ := by
  refine scall_in Tryd.func11 rfl [(.tmp 8)] rfl (fun r => ⟨[.v (vb r)], [], false⟩) (r := r) ?_
  unfold laws_FnExactProofOf at h
  refine swp_seq ?_
  refine swp_reg ?_
  refine SRun.ck tbokE8 1 ⟨111, [(0, vi aAN), (1, vl eTie aAList), (2, vi aAA), (3, vi aAB)], []⟩ ?_
  refine SRun.nil ?_
  refine nx_n ?_
  refine swp_seq ?_
  refine swp_reg ?_
  refine SRun.ck tbokE8 1 ⟨111, [(0, vi aAN), (1, vl eTie aAList), (2, vi aAA), (3, vi aAB), (9, vi 1048576)], []⟩ ?_
  refine SRun.nil ?_
  refine nx_n ?_
  refine swp_seq ?_
  refine swp_reg ?_
  refine SRun.ck tbokE8 2 ⟨111, [(0, vi aAN), (1, vl eTie aAList), (2, vi aAA), (3, vi aAB), (20, vl eTie aAList), (21, vi 1048576)], []⟩ ?_
  obtain ⟨x1, hx1, h⟩ := bind_some h
  refine SRun.ls (x_lstep_call (f := 14) (caps := []) (xs := [vl eTie aAList, vi 1048576]) (ys := [vl eTie aAList, vi 1048576]) (res := ⟨[.v (vi x1)], [], false⟩) (x := vi x1) (y := none) rfl ents14 (laws_szTieS_run aAList 1048576 _ hx1) rfl (by intro hc; cases hc)) ?_
  refine SRun.ck tbokE8 1 ⟨111, [(0, vi aAN), (1, vl eTie aAList), (2, vi aAA), (3, vi aAB), (9, vi x1)], []⟩ ?_
  refine SRun.nil ?_
  refine nx_n ?_
  refine swp_seq ?_
  refine swp_seq ?_
  refine swp_reg ?_
  refine SRun.ck tbokE8 2 ⟨111, [(0, vi aAN), (1, vl eTie aAList), (2, vi aAA), (3, vi aAB), (24, vb (decide (x1 < 0)))], []⟩ ?_
  refine SRun.nil ?_
  refine nx_n ?_
  refine swp_cond (b := (decide (x1 < 0))) (by kernel_rfl) (fun hb => ?_) (fun hb => ?_)
  replace h := cond_t hb h
  refine swp_seq ?_
  refine swp_reg ?_
  refine SRun.ck tbokE8 1 ⟨111, [(8, vb true)], []⟩ ?_
  refine SRun.nil ?_
  refine nx_n ?_
  refine swp_ret ?_
  replace h := Option.some.inj h
  subst h
  exact nx_r (q_fr (fin1 (by kernel_rfl) (finV rfl (by simp [SV.Flat, SV.Flat.FlatL, Tr.flat]) (holds_t (by kernel_rfl)))))
  replace h := cond_f hb h
  refine swp_skip ?_
  refine nx_n ?_
  refine swp_seq ?_
  refine swp_reg ?_
  refine SRun.ck tbokE8 2 ⟨111, [(0, vi aAN), (1, vl eTie aAList), (2, vi aAA), (3, vi aAB), (26, vi aAN), (27, vl eTie aAList)], []⟩ ?_
  obtain ⟨x2, hx2, h⟩ := bind_some h
  refine SRun.ls (x_lstep_call (f := 16) (caps := []) (xs := [vl eTie aAList]) (ys := [vl eTie aAList]) (res := ⟨[.own 42 4 x2.length (x2.map eTie)], [], false⟩) (x := .own 28) (y := some (.arr 42 4 x2.length (x2.map eTie))) rfl ents16 (laws_toTieS_run aAList _ hx2) rfl (by intro hc; cases hc)) ?_
  refine SRun.ck tbokE8 2 ⟨111, [(0, vi aAN), (1, vl eTie aAList), (2, vi aAA), (3, vi aAB), (26, vi aAN), (28, .own 28), (29, vi aAA), (30, vi aAB)], [(28, .arr 42 4 x2.length (x2.map eTie))]⟩ ?_
  obtain ⟨x3, hx3, h⟩ := bind_some h
  refine SRun.ls (x_lstep_call (f := 43) (caps := []) (xs := [vi aAN, .own 28, vi aAA, vi aAB]) (ys := [vi aAN, vl eTie x2, vi aAA, vi aAB]) (res := ⟨[.own 2 1 x3.1.length (x3.1.map (eI .i64)), .v (vi x3.2)], [], false⟩) (x := .tup [.own 31, vi x3.2]) (y := some (.arr 2 1 x3.1.length (x3.1.map (eI .i64)))) rfl ents43 (spec_ProofOf_run aAN x2 aAA aAB _ hx3) rfl (by intro hc; cases hc)) ?_
  refine SRun.ck tbokE8 5 ⟨111, [(0, vi aAN), (1, vl eTie aAList), (2, vi aAA), (3, vi aAB), (10, .own 31), (11, vi x3.2)], [(31, .arr 2 1 x3.1.length (x3.1.map (eI .i64)))]⟩ ?_
  refine SRun.nil ?_
  refine nx_n ?_
  refine swp_seq ?_
  refine swp_reg ?_
  refine SRun.ck tbokE8 1 ⟨111, [(0, vi aAN), (1, vl eTie aAList), (2, vi aAA), (3, vi aAB), (10, .own 31), (11, vi x3.2), (34, vl eTie aAList)], [(31, .arr 2 1 x3.1.length (x3.1.map (eI .i64)))]⟩ ?_
  obtain ⟨x4, hx4, h⟩ := bind_some h
  refine SRun.ls (x_lstep_call (f := 16) (caps := []) (xs := [vl eTie aAList]) (ys := [vl eTie aAList]) (res := ⟨[.own 42 4 x4.length (x4.map eTie)], [], false⟩) (x := .own 35) (y := some (.arr 42 4 x4.length (x4.map eTie))) rfl ents16 (laws_toTieS_run aAList _ hx4) rfl (by intro hc; cases hc)) ?_
  refine SRun.ck tbokE8 1 ⟨111, [(0, vi aAN), (1, vl eTie aAList), (2, vi aAA), (3, vi aAB), (10, .own 31), (11, vi x3.2), (12, .own 35)], [(31, .arr 2 1 x3.1.length (x3.1.map (eI .i64))), (35, .arr 42 4 x4.length (x4.map eTie))]⟩ ?_
  refine SRun.nil ?_
  refine nx_n ?_
  refine swp_seq ?_
  refine swp_reg ?_
  refine SRun.ck tbokE8 4 ⟨111, [(0, vi aAN), (1, vl eTie aAList), (2, vi aAA), (3, vi aAB), (10, .own 31), (11, vi x3.2), (12, .own 35), (37, vi aAN), (38, .own 35), (39, vi aAA), (40, vi aAB)], [(31, .arr 2 1 x3.1.length (x3.1.map (eI .i64))), (35, .arr 42 4 x4.length (x4.map eTie))]⟩ ?_
  obtain ⟨x5, hx5, h⟩ := bind_some h
  refine SRun.ls (x_lstep_call (f := 44) (caps := []) (xs := [vi aAN, .own 35, vi aAA, vi aAB]) (ys := [vi aAN, vl eTie x4, vi aAA, vi aAB]) (res := ⟨[.own 2 1 x5.1.length (x5.1.map (eI .i64)), .v (vi x5.2)], [], false⟩) (x := .tup [.own 41, vi x5.2]) (y := some (.arr 2 1 x5.1.length (x5.1.map (eI .i64)))) rfl ents44 (impl_ProofOf_run aAN x4 aAA aAB _ hx5) rfl (by intro hc; cases hc)) ?_
  refine SRun.ck tbokE8 5 ⟨111, [(0, vi aAN), (1, vl eTie aAList), (2, vi aAA), (3, vi aAB), (10, .own 31), (11, vi x3.2), (12, .own 35), (13, .own 41), (14, vi x5.2)], [(31, .arr 2 1 x3.1.length (x3.1.map (eI .i64))), (35, .arr 42 4 x4.length (x4.map eTie)), (41, .arr 2 1 x5.1.length (x5.1.map (eI .i64)))]⟩ ?_
  refine SRun.nil ?_
  refine nx_n ?_
  refine swp_seq ?_
  refine swp_seq ?_
  refine swp_regJ h (fun j7 => ⟨111, [(0, vi aAN), (1, vl eTie aAList), (2, vi aAA), (3, vi aAB), (10, .own 10), (11, vi x3.2), (12, .own 12), (13, .own 13), (14, vi x5.2), (52, vb j7)], [(10, .arr 2 1 x3.1.length (x3.1.map (eI .i64))), (12, .arr 42 4 x4.length (x4.map eTie)), (13, .arr 2 1 x5.1.length (x5.1.map (eI .i64)))]⟩) (fun v8 h => ?_) (fun j7 h => ?_)
  refine SRun.ck tbokE8 2 ⟨111, [(0, vi aAN), (1, vl eTie aAList), (2, vi aAA), (3, vi aAB), (10, .own 31), (11, vi x3.2), (12, .own 35), (13, .own 41), (14, vi x5.2), (44, .own 41), (45, .own 31)], [(31, .arr 2 1 x3.1.length (x3.1.map (eI .i64))), (35, .arr 42 4 x4.length (x4.map eTie)), (41, .arr 2 1 x5.1.length (x5.1.map (eI .i64)))]⟩ ?_
  obtain ⟨x6, hx6, h⟩ := bind_some h
  refine SRun.ls (x_lstep_call (f := 40) (caps := []) (xs := [.own 41, .own 31]) (ys := [vl (eI .i64) x5.1, vl (eI .i64) x3.1]) (res := ⟨[.v (vb x6)], [], false⟩) (x := vb x6) (y := none) rfl ents40 (laws_eqInt64S_run x5.1 x3.1 _ hx6) rfl (by intro hc; cases hc)) ?_
  refine SRun.ck tbokE8 2 ⟨111, [(0, vi aAN), (1, vl eTie aAList), (2, vi aAA), (3, vi aAB), (10, .own 31), (11, vi x3.2), (12, .own 35), (13, .own 41), (14, vi x5.2), (48, vb (!x6))], [(31, .arr 2 1 x3.1.length (x3.1.map (eI .i64))), (35, .arr 42 4 x4.length (x4.map eTie)), (41, .arr 2 1 x5.1.length (x5.1.map (eI .i64)))]⟩ ?_
  refine SRun.cut [(48, fun b => b)] (b := (!x6)) (by kernel_rfl) (fun hb => ?_) (fun hb => ?_)
  replace h := cond_t hb h
  refine SRun.ck tbokE8 4 ⟨111, [(0, vi aAN), (1, vl eTie aAList), (2, vi aAA), (3, vi aAB), (10, .own 31), (11, vi x3.2), (12, .own 35), (13, .own 41), (14, vi x5.2), (52, vb true)], [(31, .arr 2 1 x3.1.length (x3.1.map (eI .i64))), (35, .arr 42 4 x4.length (x4.map eTie)), (41, .arr 2 1 x5.1.length (x5.1.map (eI .i64)))]⟩ ?_
  refine SRun.nil ?_
  replace h := Option.some.inj h
  subst h
  exact (Le.sub' ([(0, vi aAN), (1, vl eTie aAList), (2, vi aAA), (3, vi aAB), (10, .own 31), (11, vi x3.2), (12, .own 35), (13, .own 41), (14, vi x5.2), (52, vb true)] : List (Nat × SV)) ([(31, .arr 2 1 x3.1.length (x3.1.map (eI .i64))), (35, .arr 42 4 x4.length (x4.map eTie)), (41, .arr 2 1 x5.1.length (x5.1.map (eI .i64)))] : List (Nat × SO)) (by kernel_rfl) (by kernel_rfl)).trans ((Le.ren' (d := 31) (e := 10) (by kernel_rfl) (by kernel_rfl) (by kernel_rfl)).trans ((Le.ren' (d := 35) (e := 12) (by kernel_rfl) (by kernel_rfl) (by kernel_rfl)).trans ((Le.ren' (d := 41) (e := 13) (by kernel_rfl) (by kernel_rfl) (by kernel_rfl)).trans (Le.sub0))))
  replace h := cond_f hb h
  refine SRun.ck tbokE8 4 ⟨111, [(0, vi aAN), (1, vl eTie aAList), (2, vi aAA), (3, vi aAB), (10, .own 31), (11, vi x3.2), (12, .own 35), (13, .own 41), (14, vi x5.2), (52, vb (x5.2 != x3.2))], [(31, .arr 2 1 x3.1.length (x3.1.map (eI .i64))), (35, .arr 42 4 x4.length (x4.map eTie)), (41, .arr 2 1 x5.1.length (x5.1.map (eI .i64)))]⟩ ?_
  refine SRun.nil ?_
  replace h := Option.some.inj h
  subst h
  exact (Le.sub' ([(0, vi aAN), (1, vl eTie aAList), (2, vi aAA), (3, vi aAB), (10, .own 31), (11, vi x3.2), (12, .own 35), (13, .own 41), (14, vi x5.2), (52, vb (x5.2 != x3.2))] : List (Nat × SV)) ([(31, .arr 2 1 x3.1.length (x3.1.map (eI .i64))), (35, .arr 42 4 x4.length (x4.map eTie)), (41, .arr 2 1 x5.1.length (x5.1.map (eI .i64)))] : List (Nat × SO)) (by kernel_rfl) (by kernel_rfl)).trans ((Le.ren' (d := 31) (e := 10) (by kernel_rfl) (by kernel_rfl) (by kernel_rfl)).trans ((Le.ren' (d := 35) (e := 12) (by kernel_rfl) (by kernel_rfl) (by kernel_rfl)).trans ((Le.ren' (d := 41) (e := 13) (by kernel_rfl) (by kernel_rfl) (by kernel_rfl)).trans (Le.sub0))))
  refine swp_cond (b := j7) (by kernel_rfl) (fun hb => ?_) (fun hb => ?_)
  replace h := cond_t hb h
  refine swp_seq ?_
  refine swp_reg ?_
  refine SRun.ck tbokE8 1 ⟨111, [(8, vb false)], []⟩ ?_
  refine SRun.nil ?_
  refine nx_n ?_
  refine swp_ret ?_
  replace h := Option.some.inj h
  subst h
  exact nx_r (q_fr (fin1 (by kernel_rfl) (finV rfl (by simp [SV.Flat, SV.Flat.FlatL, Tr.flat]) (holds_t (by kernel_rfl)))))
  replace h := cond_f hb h
  refine swp_skip ?_
  refine nx_n ?_
  refine swp_seq ?_
  refine swp_seq ?_
  refine swp_reg ?_
  refine SRun.ck tbokE8 2 ⟨111, [(0, vi aAN), (1, vl eTie aAList), (2, vi aAA), (3, vi aAB), (10, .own 10), (11, vi x3.2), (12, .own 12), (13, .own 13), (14, vi x5.2), (53, .own 12), (54, vl eTie aAList)], [(10, .arr 2 1 x3.1.length (x3.1.map (eI .i64))), (12, .arr 42 4 x4.length (x4.map eTie)), (13, .arr 2 1 x5.1.length (x5.1.map (eI .i64)))]⟩ ?_
  obtain ⟨x9, hx9, h⟩ := bind_some h
  refine SRun.ls (x_lstep_call (f := 16) (caps := []) (xs := [vl eTie aAList]) (ys := [vl eTie aAList]) (res := ⟨[.own 42 4 x9.length (x9.map eTie)], [], false⟩) (x := .own 55) (y := some (.arr 42 4 x9.length (x9.map eTie))) rfl ents16 (laws_toTieS_run aAList _ hx9) rfl (by intro hc; cases hc)) ?_
  obtain ⟨x10, hx10, h⟩ := bind_some h
  refine SRun.ls (x_lstep_call (f := 18) (caps := []) (xs := [.own 12, .own 55]) (ys := [vl eTie x4, vl eTie x9]) (res := ⟨[.v (vb x10)], [], false⟩) (x := vb x10) (y := none) rfl ents18 (laws_eqTieS_run x4 x9 _ hx10) rfl (by intro hc; cases hc)) ?_
  refine SRun.ck tbokE8 1 ⟨111, [(0, vi aAN), (1, vl eTie aAList), (2, vi aAA), (3, vi aAB), (10, .own 10), (11, vi x3.2), (12, .own 12), (13, .own 13), (14, vi x5.2), (57, vb (!x10))], [(10, .arr 2 1 x3.1.length (x3.1.map (eI .i64))), (12, .arr 42 4 x4.length (x4.map eTie)), (13, .arr 2 1 x5.1.length (x5.1.map (eI .i64)))]⟩ ?_
  refine SRun.nil ?_
  refine nx_n ?_
  refine swp_cond (b := (!x10)) (by kernel_rfl) (fun hb => ?_) (fun hb => ?_)
  replace h := cond_t hb h
  refine swp_seq ?_
  refine swp_reg ?_
  refine SRun.ck tbokE8 1 ⟨111, [(8, vb false)], []⟩ ?_
  refine SRun.nil ?_
  refine nx_n ?_
  refine swp_ret ?_
  replace h := Option.some.inj h
  subst h
  exact nx_r (q_fr (fin1 (by kernel_rfl) (finV rfl (by simp [SV.Flat, SV.Flat.FlatL, Tr.flat]) (holds_t (by kernel_rfl)))))
  replace h := cond_f hb h
  refine swp_skip ?_
  refine nx_n ?_
  refine swp_seq ?_
  refine swp_reg ?_
  refine SRun.ck tbokE8 1 ⟨111, [(0, vi aAN), (1, vl eTie aAList), (2, vi aAA), (3, vi aAB), (10, .own 10), (11, vi x3.2), (12, .own 12), (13, .own 13), (14, vi x5.2), (15, vi 1)], [(10, .arr 2 1 x3.1.length (x3.1.map (eI .i64))), (12, .arr 42 4 x4.length (x4.map eTie)), (13, .arr 2 1 x5.1.length (x5.1.map (eI .i64)))]⟩ ?_
  refine SRun.nil ?_
  refine nx_n ?_
  refine swp_seq ?_
  refine swp_reg ?_
  refine SRun.ck tbokE8 2 ⟨111, [(0, vi aAN), (1, vl eTie aAList), (2, vi aAA), (3, vi aAB), (10, .own 10), (11, vi x3.2), (13, .own 13), (14, vi x5.2), (58, .own 12), (59, vi 1)], [(10, .arr 2 1 x3.1.length (x3.1.map (eI .i64))), (12, .arr 42 4 x4.length (x4.map eTie)), (13, .arr 2 1 x5.1.length (x5.1.map (eI .i64)))]⟩ ?_
  obtain ⟨x11, hx11, h⟩ := bind_some h
  refine SRun.estep (x_estep_call (f := 21) (caps := []) (xs := [.own 12, vi 1]) (pre := []) (post := [vi 1]) (qs := [vi 1]) (z := .own 12) (d := 12) (pl := 0) (y := .arr 42 4 x4.length (x4.map eTie)) (y' := .arr 42 4 x11.2.length (x11.2.map eTie)) (res := ⟨[.v (vi x11.1)], [(0, .arr 42 4 x11.2.length (x11.2.map eTie))], false⟩) (x := vi x11.1) (yo := none) rfl rfl rfl rfl rfl ents21 (laws_markTieS_run x4 1 _ hx11) rfl rfl false (fun _ => rfl) (by intro hc; cases hc)) ?_
  refine SRun.ck tbokE8 1 ⟨111, [(0, vi aAN), (1, vl eTie aAList), (2, vi aAA), (3, vi aAB), (10, .own 10), (11, vi x3.2), (13, .own 13), (14, vi x5.2), (15, vi x11.1)], [(10, .arr 2 1 x3.1.length (x3.1.map (eI .i64))), (13, .arr 2 1 x5.1.length (x5.1.map (eI .i64)))]⟩ ?_
  refine SRun.nil ?_
  refine nx_n ?_
  refine swp_seq ?_
  refine swp_seq ?_
  refine swp_regJ h (fun j13 => ⟨111, [(0, vi aAN), (1, vl eTie aAList), (2, vi aAA), (3, vi aAB), (10, .own 10), (11, vi x3.2), (13, .own 13), (73, vb j13)], [(10, .arr 2 1 x3.1.length (x3.1.map (eI .i64))), (13, .arr 2 1 x5.1.length (x5.1.map (eI .i64)))]⟩) (fun v14 h => ?_) (fun j13 h => ?_)
  refine SRun.ck tbokE8 3 ⟨111, [(0, vi aAN), (1, vl eTie aAList), (2, vi aAA), (3, vi aAB), (10, .own 10), (11, vi x3.2), (13, .own 13), (14, vi x5.2), (63, vb (decide (x11.1 < 0)))], [(10, .arr 2 1 x3.1.length (x3.1.map (eI .i64))), (13, .arr 2 1 x5.1.length (x5.1.map (eI .i64)))]⟩ ?_
  refine SRun.cut [(63, fun b => b)] (b := (decide (x11.1 < 0))) (by kernel_rfl) (fun hb => ?_) (fun hb => ?_)
  replace h := cond_t hb h
  refine SRun.ck tbokE8 10 ⟨111, [(0, vi aAN), (1, vl eTie aAList), (2, vi aAA), (3, vi aAB), (10, .own 10), (11, vi x3.2), (13, .own 13), (73, vb true)], [(10, .arr 2 1 x3.1.length (x3.1.map (eI .i64))), (13, .arr 2 1 x5.1.length (x5.1.map (eI .i64)))]⟩ ?_
  refine SRun.nil ?_
  replace h := Option.some.inj h
  subst h
  exact Le.sub0
  replace h := cond_f hb h
  refine SRun.ck tbokE8 2 ⟨111, [(0, vi aAN), (1, vl eTie aAList), (2, vi aAA), (3, vi aAB), (10, .own 10), (11, vi x3.2), (13, .own 13), (14, vi x5.2), (63, vb false), (64, .own 13), (65, .own 10)], [(10, .arr 2 1 x3.1.length (x3.1.map (eI .i64))), (13, .arr 2 1 x5.1.length (x5.1.map (eI .i64)))]⟩ ?_
  obtain ⟨x12, hx12, h⟩ := bind_some h
  refine SRun.ls (x_lstep_call (f := 40) (caps := []) (xs := [.own 13, .own 10]) (ys := [vl (eI .i64) x5.1, vl (eI .i64) x3.1]) (res := ⟨[.v (vb x12)], [], false⟩) (x := vb x12) (y := none) rfl ents40 (laws_eqInt64S_run x5.1 x3.1 _ hx12) rfl (by intro hc; cases hc)) ?_
  refine SRun.ck tbokE8 3 ⟨111, [(0, vi aAN), (1, vl eTie aAList), (2, vi aAA), (3, vi aAB), (10, .own 10), (11, vi x3.2), (13, .own 13), (14, vi x5.2), (69, vb (!x12))], [(10, .arr 2 1 x3.1.length (x3.1.map (eI .i64))), (13, .arr 2 1 x5.1.length (x5.1.map (eI .i64)))]⟩ ?_
  refine SRun.cut [(69, fun b => b)] (b := (!x12)) (by kernel_rfl) (fun hb => ?_) (fun hb => ?_)
  replace h := cond_t hb h
  refine SRun.ck tbokE8 4 ⟨111, [(0, vi aAN), (1, vl eTie aAList), (2, vi aAA), (3, vi aAB), (10, .own 10), (11, vi x3.2), (13, .own 13), (73, vb true)], [(10, .arr 2 1 x3.1.length (x3.1.map (eI .i64))), (13, .arr 2 1 x5.1.length (x5.1.map (eI .i64)))]⟩ ?_
  refine SRun.nil ?_
  replace h := Option.some.inj h
  subst h
  exact Le.sub0
  replace h := cond_f hb h
  refine SRun.ck tbokE8 4 ⟨111, [(0, vi aAN), (1, vl eTie aAList), (2, vi aAA), (3, vi aAB), (10, .own 10), (11, vi x3.2), (13, .own 13), (73, vb (x5.2 != x3.2))], [(10, .arr 2 1 x3.1.length (x3.1.map (eI .i64))), (13, .arr 2 1 x5.1.length (x5.1.map (eI .i64)))]⟩ ?_
  refine SRun.nil ?_
  replace h := Option.some.inj h
  subst h
  exact Le.sub0
  refine swp_cond (b := j13) (by kernel_rfl) (fun hb => ?_) (fun hb => ?_)
  replace h := cond_t hb h
  refine swp_seq ?_
  refine swp_reg ?_
  refine SRun.ck tbokE8 1 ⟨111, [(8, vb false)], []⟩ ?_
  refine SRun.nil ?_
  refine nx_n ?_
  refine swp_ret ?_
  replace h := Option.some.inj h
  subst h
  exact nx_r (q_fr (fin1 (by kernel_rfl) (finV rfl (by simp [SV.Flat, SV.Flat.FlatL, Tr.flat]) (holds_t (by kernel_rfl)))))
  replace h := cond_f hb h
  refine swp_skip ?_
  refine nx_n ?_
  refine swp_seq ?_
  refine swp_reg ?_
  refine SRun.ck tbokE8 1 ⟨111, [(0, vi aAN), (1, vl eTie aAList), (2, vi aAA), (3, vi aAB), (10, .own 10), (11, vi x3.2), (13, .own 13), (16, vi 1)], [(10, .arr 2 1 x3.1.length (x3.1.map (eI .i64))), (13, .arr 2 1 x5.1.length (x5.1.map (eI .i64)))]⟩ ?_
  refine SRun.nil ?_
  refine nx_n ?_
  refine swp_seq ?_
  refine swp_reg ?_
  refine SRun.ck tbokE8 2 ⟨111, [(0, vi aAN), (1, vl eTie aAList), (2, vi aAA), (3, vi aAB), (10, .own 10), (11, vi x3.2), (13, .own 13), (74, .own 13), (75, vi 1)], [(10, .arr 2 1 x3.1.length (x3.1.map (eI .i64))), (13, .arr 2 1 x5.1.length (x5.1.map (eI .i64)))]⟩ ?_
  obtain ⟨x15, hx15, h⟩ := bind_some h
  refine SRun.estep (x_estep_call (f := 41) (caps := []) (xs := [.own 13, vi 1]) (pre := []) (post := [vi 1]) (qs := [vi 1]) (z := .own 13) (d := 13) (pl := 0) (y := .arr 2 1 x5.1.length (x5.1.map (eI .i64))) (y' := .arr 2 1 x15.2.length (x15.2.map (eI .i64))) (res := ⟨[.v (vi x15.1)], [(0, .arr 2 1 x15.2.length (x15.2.map (eI .i64)))], false⟩) (x := vi x15.1) (yo := none) rfl rfl rfl rfl rfl ents41 (laws_markInt64S_run x5.1 1 _ hx15) rfl rfl false (fun _ => rfl) (by intro hc; cases hc)) ?_
  refine SRun.ck tbokE8 1 ⟨111, [(0, vi aAN), (1, vl eTie aAList), (2, vi aAA), (3, vi aAB), (10, .own 10), (11, vi x3.2), (13, .own 13), (16, vi x15.1)], [(10, .arr 2 1 x3.1.length (x3.1.map (eI .i64))), (13, .arr 2 1 x15.2.length (x15.2.map (eI .i64)))]⟩ ?_
  refine SRun.nil ?_
  refine nx_n ?_
  refine swp_seq ?_
  refine swp_reg ?_
  refine SRun.ck tbokE8 1 ⟨111, [(0, vi aAN), (1, vl eTie aAList), (2, vi aAA), (3, vi aAB), (10, .own 10), (11, vi x3.2), (13, .own 13), (16, vi x15.1), (17, vi 1)], [(10, .arr 2 1 x3.1.length (x3.1.map (eI .i64))), (13, .arr 2 1 x15.2.length (x15.2.map (eI .i64)))]⟩ ?_
  refine SRun.nil ?_
  refine nx_n ?_
  refine swp_seq ?_
  refine swp_reg ?_
  refine SRun.ck tbokE8 2 ⟨111, [(0, vi aAN), (1, vl eTie aAList), (2, vi aAA), (3, vi aAB), (10, .own 10), (11, vi x3.2), (13, .own 13), (16, vi x15.1), (77, .own 13), (78, vi 1)], [(10, .arr 2 1 x3.1.length (x3.1.map (eI .i64))), (13, .arr 2 1 x15.2.length (x15.2.map (eI .i64)))]⟩ ?_
  obtain ⟨x16, hx16, h⟩ := bind_some h
  refine SRun.ls (x_lstep_call (f := 42) (caps := []) (xs := [.own 13, vi 1]) (ys := [vl (eI .i64) x15.2, vi 1]) (res := ⟨[.v (vi x16)], [], false⟩) (x := vi x16) (y := none) rfl ents42 (laws_heldInt64S_run x15.2 1 _ hx16) rfl (by intro hc; cases hc)) ?_
  refine SRun.ck tbokE8 1 ⟨111, [(0, vi aAN), (1, vl eTie aAList), (2, vi aAA), (3, vi aAB), (10, .own 10), (11, vi x3.2), (13, .own 13), (16, vi x15.1), (17, vi x16)], [(10, .arr 2 1 x3.1.length (x3.1.map (eI .i64))), (13, .arr 2 1 x15.2.length (x15.2.map (eI .i64)))]⟩ ?_
  refine SRun.nil ?_
  refine nx_n ?_
  refine swp_seq ?_
  refine swp_seq ?_
  refine swp_reg ?_
  refine SRun.ck tbokE8 2 ⟨111, [(0, vi aAN), (1, vl eTie aAList), (2, vi aAA), (3, vi aAB), (10, .own 10), (11, vi x3.2), (13, .own 13), (16, vi x15.1), (17, vi x16), (81, vb (decide (x16 < 0)))], [(10, .arr 2 1 x3.1.length (x3.1.map (eI .i64))), (13, .arr 2 1 x15.2.length (x15.2.map (eI .i64)))]⟩ ?_
  refine SRun.nil ?_
  refine nx_n ?_
  refine swp_cond (b := (decide (x16 < 0))) (by kernel_rfl) (fun hb => ?_) (fun hb => ?_)
  replace h := cond_t hb h
  refine swp_seq ?_
  refine swp_reg ?_
  refine SRun.ck tbokE8 1 ⟨111, [(8, vb false)], []⟩ ?_
  refine SRun.nil ?_
  refine nx_n ?_
  refine swp_ret ?_
  replace h := Option.some.inj h
  subst h
  exact nx_r (q_fr (fin1 (by kernel_rfl) (finV rfl (by simp [SV.Flat, SV.Flat.FlatL, Tr.flat]) (holds_t (by kernel_rfl)))))
  replace h := cond_f hb h
  refine swp_skip ?_
  refine nx_n ?_
  refine swp_seq ?_
  refine swp_seq ?_
  refine swp_reg ?_
  refine SRun.ck tbokE8 3 ⟨111, [(0, vi aAN), (1, vl eTie aAList), (2, vi aAA), (3, vi aAB), (10, .own 10), (11, vi x3.2), (13, .own 13), (16, vi x15.1), (84, vb (x16 != x15.1))], [(10, .arr 2 1 x3.1.length (x3.1.map (eI .i64))), (13, .arr 2 1 x15.2.length (x15.2.map (eI .i64)))]⟩ ?_
  refine SRun.nil ?_
  refine nx_n ?_
  refine swp_cond (b := (x16 != x15.1)) (by kernel_rfl) (fun hb => ?_) (fun hb => ?_)
  replace h := cond_t hb h
  refine swp_seq ?_
  refine swp_reg ?_
  refine SRun.ck tbokE8 1 ⟨111, [(8, vb false)], []⟩ ?_
  refine SRun.nil ?_
  refine nx_n ?_
  refine swp_ret ?_
  replace h := Option.some.inj h
  subst h
  exact nx_r (q_fr (fin1 (by kernel_rfl) (finV rfl (by simp [SV.Flat, SV.Flat.FlatL, Tr.flat]) (holds_t (by kernel_rfl)))))
  replace h := cond_f hb h
  refine swp_skip ?_
  refine nx_n ?_
  refine swp_seq ?_
  refine swp_reg ?_
  refine SRun.ck tbokE8 2 ⟨111, [(2, vi aAA), (3, vi aAB), (10, .own 10), (11, vi x3.2), (13, .own 13), (16, vi x15.1), (86, vi aAN), (87, vl eTie aAList)], [(10, .arr 2 1 x3.1.length (x3.1.map (eI .i64))), (13, .arr 2 1 x15.2.length (x15.2.map (eI .i64)))]⟩ ?_
  obtain ⟨x17, hx17, h⟩ := bind_some h
  refine SRun.ls (x_lstep_call (f := 16) (caps := []) (xs := [vl eTie aAList]) (ys := [vl eTie aAList]) (res := ⟨[.own 42 4 x17.length (x17.map eTie)], [], false⟩) (x := .own 88) (y := some (.arr 42 4 x17.length (x17.map eTie))) rfl ents16 (laws_toTieS_run aAList _ hx17) rfl (by intro hc; cases hc)) ?_
  refine SRun.ck tbokE8 2 ⟨111, [(10, .own 10), (11, vi x3.2), (13, .own 13), (16, vi x15.1), (86, vi aAN), (88, .own 88), (89, vi aAA), (90, vi aAB)], [(10, .arr 2 1 x3.1.length (x3.1.map (eI .i64))), (13, .arr 2 1 x15.2.length (x15.2.map (eI .i64))), (88, .arr 42 4 x17.length (x17.map eTie))]⟩ ?_
  obtain ⟨x18, hx18, h⟩ := bind_some h
  refine SRun.ls (x_lstep_call (f := 44) (caps := []) (xs := [vi aAN, .own 88, vi aAA, vi aAB]) (ys := [vi aAN, vl eTie x17, vi aAA, vi aAB]) (res := ⟨[.own 2 1 x18.1.length (x18.1.map (eI .i64)), .v (vi x18.2)], [], false⟩) (x := .tup [.own 91, vi x18.2]) (y := some (.arr 2 1 x18.1.length (x18.1.map (eI .i64)))) rfl ents44 (impl_ProofOf_run aAN x17 aAA aAB _ hx18) rfl (by intro hc; cases hc)) ?_
  refine SRun.ck tbokE8 5 ⟨111, [(10, .own 10), (11, vi x3.2), (13, .own 13), (16, vi x15.1), (18, .own 91), (19, vi x18.2)], [(10, .arr 2 1 x3.1.length (x3.1.map (eI .i64))), (13, .arr 2 1 x15.2.length (x15.2.map (eI .i64))), (91, .arr 2 1 x18.1.length (x18.1.map (eI .i64)))]⟩ ?_
  refine SRun.nil ?_
  refine nx_n ?_
  refine swp_seq ?_
  refine swp_seq ?_
  refine swp_regJ h (fun j20 => ⟨111, [(13, .own 13), (16, vi x15.1), (102, vb j20)], [(13, .arr 2 1 x15.2.length (x15.2.map (eI .i64)))]⟩) (fun v21 h => ?_) (fun j20 h => ?_)
  refine SRun.ck tbokE8 2 ⟨111, [(11, vi x3.2), (13, .own 13), (16, vi x15.1), (19, vi x18.2), (94, .own 91), (95, .own 10)], [(10, .arr 2 1 x3.1.length (x3.1.map (eI .i64))), (13, .arr 2 1 x15.2.length (x15.2.map (eI .i64))), (91, .arr 2 1 x18.1.length (x18.1.map (eI .i64)))]⟩ ?_
  obtain ⟨x19, hx19, h⟩ := bind_some h
  refine SRun.ls (x_lstep_call (f := 40) (caps := []) (xs := [.own 91, .own 10]) (ys := [vl (eI .i64) x18.1, vl (eI .i64) x3.1]) (res := ⟨[.v (vb x19)], [], false⟩) (x := vb x19) (y := none) rfl ents40 (laws_eqInt64S_run x18.1 x3.1 _ hx19) rfl (by intro hc; cases hc)) ?_
  refine SRun.ck tbokE8 2 ⟨111, [(11, vi x3.2), (13, .own 13), (16, vi x15.1), (19, vi x18.2), (98, vb (!x19))], [(13, .arr 2 1 x15.2.length (x15.2.map (eI .i64)))]⟩ ?_
  refine SRun.cut [(98, fun b => b)] (b := (!x19)) (by kernel_rfl) (fun hb => ?_) (fun hb => ?_)
  replace h := cond_t hb h
  refine SRun.ck tbokE8 4 ⟨111, [(13, .own 13), (16, vi x15.1), (102, vb true)], [(13, .arr 2 1 x15.2.length (x15.2.map (eI .i64)))]⟩ ?_
  refine SRun.nil ?_
  replace h := Option.some.inj h
  subst h
  exact Le.sub0
  replace h := cond_f hb h
  refine SRun.ck tbokE8 4 ⟨111, [(13, .own 13), (16, vi x15.1), (102, vb (x18.2 != x3.2))], [(13, .arr 2 1 x15.2.length (x15.2.map (eI .i64)))]⟩ ?_
  refine SRun.nil ?_
  replace h := Option.some.inj h
  subst h
  exact Le.sub0
  refine swp_cond (b := j20) (by kernel_rfl) (fun hb => ?_) (fun hb => ?_)
  replace h := cond_t hb h
  refine swp_seq ?_
  refine swp_reg ?_
  refine SRun.ck tbokE8 1 ⟨111, [(8, vb false)], []⟩ ?_
  refine SRun.nil ?_
  refine nx_n ?_
  refine swp_ret ?_
  replace h := Option.some.inj h
  subst h
  exact nx_r (q_fr (fin1 (by kernel_rfl) (finV rfl (by simp [SV.Flat, SV.Flat.FlatL, Tr.flat]) (holds_t (by kernel_rfl)))))
  replace h := cond_f hb h
  refine swp_skip ?_
  refine nx_n ?_
  refine swp_seq ?_
  refine swp_reg ?_
  refine SRun.ck tbokE8 1 ⟨111, [(13, .own 13), (16, vi x15.1), (17, vi 1)], [(13, .arr 2 1 x15.2.length (x15.2.map (eI .i64)))]⟩ ?_
  refine SRun.nil ?_
  refine nx_n ?_
  refine swp_seq ?_
  refine swp_reg ?_
  refine SRun.ck tbokE8 2 ⟨111, [(16, vi x15.1), (103, .own 13), (104, vi 1)], [(13, .arr 2 1 x15.2.length (x15.2.map (eI .i64)))]⟩ ?_
  obtain ⟨x22, hx22, h⟩ := bind_some h
  refine SRun.ls (x_lstep_call (f := 42) (caps := []) (xs := [.own 13, vi 1]) (ys := [vl (eI .i64) x15.2, vi 1]) (res := ⟨[.v (vi x22)], [], false⟩) (x := vi x22) (y := none) rfl ents42 (laws_heldInt64S_run x15.2 1 _ hx22) rfl (by intro hc; cases hc)) ?_
  refine SRun.ck tbokE8 1 ⟨111, [(16, vi x15.1), (17, vi x22)], []⟩ ?_
  refine SRun.nil ?_
  refine nx_n ?_
  refine swp_seq ?_
  refine swp_seq ?_
  refine swp_reg ?_
  refine SRun.ck tbokE8 2 ⟨111, [(16, vi x15.1), (17, vi x22), (107, vb (decide (x22 < 0)))], []⟩ ?_
  refine SRun.nil ?_
  refine nx_n ?_
  refine swp_cond (b := (decide (x22 < 0))) (by kernel_rfl) (fun hb => ?_) (fun hb => ?_)
  replace h := cond_t hb h
  refine swp_seq ?_
  refine swp_reg ?_
  refine SRun.ck tbokE8 1 ⟨111, [(8, vb false)], []⟩ ?_
  refine SRun.nil ?_
  refine nx_n ?_
  refine swp_ret ?_
  replace h := Option.some.inj h
  subst h
  exact nx_r (q_fr (fin1 (by kernel_rfl) (finV rfl (by simp [SV.Flat, SV.Flat.FlatL, Tr.flat]) (holds_t (by kernel_rfl)))))
  replace h := cond_f hb h
  refine swp_skip ?_
  refine nx_n ?_
  refine swp_seq ?_
  refine swp_seq ?_
  refine swp_reg ?_
  refine SRun.ck tbokE8 3 ⟨111, [(110, vb (x22 != x15.1))], []⟩ ?_
  refine SRun.nil ?_
  refine nx_n ?_
  refine swp_cond (b := (x22 != x15.1)) (by kernel_rfl) (fun hb => ?_) (fun hb => ?_)
  replace h := cond_t hb h
  refine swp_seq ?_
  refine swp_reg ?_
  refine SRun.ck tbokE8 1 ⟨111, [(8, vb false)], []⟩ ?_
  refine SRun.nil ?_
  refine nx_n ?_
  refine swp_ret ?_
  replace h := Option.some.inj h
  subst h
  exact nx_r (q_fr (fin1 (by kernel_rfl) (finV rfl (by simp [SV.Flat, SV.Flat.FlatL, Tr.flat]) (holds_t (by kernel_rfl)))))
  replace h := cond_f hb h
  refine swp_skip ?_
  refine nx_n ?_
  refine swp_seq ?_
  refine swp_reg ?_
  refine SRun.ck tbokE8 1 ⟨111, [(8, vb true)], []⟩ ?_
  refine SRun.nil ?_
  refine nx_n ?_
  refine swp_ret ?_
  replace h := Option.some.inj h
  subst h
  exact q_fr (fin1 (by kernel_rfl) (finV rfl (by simp [SV.Flat, SV.Flat.FlatL, Tr.flat]) (holds_t (by kernel_rfl))))
theorem ents11 : Ents Tryd.prog 11 := ents_of Tryd.func11 (by kernel_rfl) rfl
end Go.Proofs.YtmbejkchgdcdhaaDoor.Sh
