/- Typed functions and the calls that do what they say. -/
import Derived.Test.YtmbejkchgdcdhaaDoorSB
import Derived.Test.YtmbejkchgdcdhaaDoorKA
import Derived.Test.YtmbejkchgdcdhaaDoorKR
import Derived.Test.YtmbejkchgdcdhaaDoorH1
import Derived.Test.YtmbejkchgdcdhaaDoorGA
import Derived.Test.YtmbejkchgdcdhaaDoorGB
namespace Go.Proofs.YtmbejkchgdcdhaaDoor.Sh
open Go.RowKit

def tblE3 : Tb := [(2, ti2), (4, ti4), (9, ti9), (22, ti22), (39, ti39)]
theorem tbokE3 : TbOk Tryd.prog tblE3 := TbOk.cons ⟨by kernel_rfl, show Tryd.prog.underlying 2 = some (.int .i64) from by kernel_rfl⟩ (TbOk.cons ⟨by kernel_rfl, show Tryd.prog.underlying 4 = some (.bool) from by kernel_rfl⟩ (TbOk.cons ⟨by kernel_rfl, show Tryd.prog.underlying 9 = some (.string) from by kernel_rfl⟩ (TbOk.cons ⟨by kernel_rfl, show Tryd.prog.underlying 22 = some (.slice 39) from by kernel_rfl⟩ (TbOk.cons ⟨by kernel_rfl, show structOf Tryd.prog 39 = some [(0, 2), (1, 2), (2, 4), (3, 9)] from by kernel_rfl⟩ (TbOk.nil _)))))
noncomputable def laws_FnExactMayBeSame (aAN : Int) (aAList : (List Tie)) (aAA : Int) (aAB : Int) : Option (Bool) :=
  ((laws_szTieS aAList 1048576).bind fun x1 => (bif (decide (x1 < 0)) then some true else ((laws_toTieS aAList).bind fun x2 => ((spec_MayBeSame aAN x2 aAA aAB).bind fun x3 => ((laws_toTieS aAList).bind fun x4 => ((impl_MayBeSame aAN x4 aAA aAB).bind fun x5 => (bif ((!(x5.1 == x3.1)) || (x5.2 != x3.2)) then some false else ((laws_toTieS aAList).bind fun x6 => ((laws_eqTieS x4 x6).bind fun x7 => (bif (!x7) then some false else some true))))))))))
set_option maxRecDepth 100000 in
set_option maxHeartbeats 4000000 in
theorem laws_FnExactMayBeSame_run (aAN : Int) (aAList : (List Tie)) (aAA : Int) (aAB : Int) (r : Bool) (h : laws_FnExactMayBeSame aAN aAList aAA aAB = some r) : SCall Tryd.prog 6 [.v (vi aAN), .v (vl eTie aAList), .v (vi aAA), .v (vi aAB)] ⟨[.v (vb r)], [], false⟩ := by
  refine scall_in Tryd.func6 rfl [(.tmp 8)] rfl (fun r => ⟨[.v (vb r)], [], false⟩) (r := r) ?_
  unfold laws_FnExactMayBeSame at h
  refine swp_seq ?_
  refine swp_reg ?_
  refine SRun.ck tbokE3 1 ⟨52, [(0, vi aAN), (1, vl eTie aAList), (2, vi aAA), (3, vi aAB)], []⟩ ?_
  refine SRun.nil ?_
  refine nx_n ?_
  refine swp_seq ?_
  refine swp_reg ?_
  refine SRun.ck tbokE3 1 ⟨52, [(0, vi aAN), (1, vl eTie aAList), (2, vi aAA), (3, vi aAB), (9, vi 1048576)], []⟩ ?_
  refine SRun.nil ?_
  refine nx_n ?_
  refine swp_seq ?_
  refine swp_reg ?_
  refine SRun.ck tbokE3 2 ⟨52, [(0, vi aAN), (1, vl eTie aAList), (2, vi aAA), (3, vi aAB), (15, vl eTie aAList), (16, vi 1048576)], []⟩ ?_
  obtain ⟨x1, hx1, h⟩ := bind_some h
  refine SRun.ls (x_lstep_call (f := 14) (caps := []) (xs := [vl eTie aAList, vi 1048576]) (ys := [vl eTie aAList, vi 1048576]) (res := ⟨[.v (vi x1)], [], false⟩) (x := vi x1) (y := none) rfl ents14 (laws_szTieS_run aAList 1048576 _ hx1) rfl (by intro hc; cases hc)) ?_
  refine SRun.ck tbokE3 1 ⟨52, [(0, vi aAN), (1, vl eTie aAList), (2, vi aAA), (3, vi aAB), (9, vi x1)], []⟩ ?_
  refine SRun.nil ?_
  refine nx_n ?_
  refine swp_seq ?_
  refine swp_seq ?_
  refine swp_reg ?_
  refine SRun.ck tbokE3 2 ⟨52, [(0, vi aAN), (1, vl eTie aAList), (2, vi aAA), (3, vi aAB), (19, vb (decide (x1 < 0)))], []⟩ ?_
  refine SRun.nil ?_
  refine nx_n ?_
  refine swp_cond (b := (decide (x1 < 0))) (by kernel_rfl) (fun hb => ?_) (fun hb => ?_)
  replace h := cond_t hb h
  refine swp_seq ?_
  refine swp_reg ?_
  refine SRun.ck tbokE3 1 ⟨52, [(8, vb true)], []⟩ ?_
  refine SRun.nil ?_
  refine nx_n ?_
  refine swp_ret ?_
  replace h := Option.some.inj h
  subst h
  exact nx_r (q_fr (fin1 (by kernel_rfl) (finV rfl (by simp [SV.Flat, SV.Flat.FlatL, Tr.flat]) (holds_t (by kernel_rfl)))))
  replace h := cond_f hb h
  refine swp_skip ?_
  refine nx_n ?_
  refine swp_seq ?_
  refine swp_reg ?_
  refine SRun.ck tbokE3 2 ⟨52, [(0, vi aAN), (1, vl eTie aAList), (2, vi aAA), (3, vi aAB), (21, vi aAN), (22, vl eTie aAList)], []⟩ ?_
  obtain ⟨x2, hx2, h⟩ := bind_some h
  refine SRun.ls (x_lstep_call (f := 16) (caps := []) (xs := [vl eTie aAList]) (ys := [vl eTie aAList]) (res := ⟨[.own 42 4 x2.length (x2.map eTie)], [], false⟩) (x := .own 23) (y := some (.arr 42 4 x2.length (x2.map eTie))) rfl ents16 (laws_toTieS_run aAList _ hx2) rfl (by intro hc; cases hc)) ?_
  refine SRun.ck tbokE3 2 ⟨52, [(0, vi aAN), (1, vl eTie aAList), (2, vi aAA), (3, vi aAB), (21, vi aAN), (23, .own 23), (24, vi aAA), (25, vi aAB)], [(23, .arr 42 4 x2.length (x2.map eTie))]⟩ ?_
  obtain ⟨x3, hx3, h⟩ := bind_some h
  refine SRun.ls (x_lstep_call (f := 25) (caps := []) (xs := [vi aAN, .own 23, vi aAA, vi aAB]) (ys := [vi aAN, vl eTie x2, vi aAA, vi aAB]) (res := ⟨[.v (vb x3.1), .v (vi x3.2)], [], false⟩) (x := .tup [vb x3.1, vi x3.2]) (y := none) rfl ents25 (spec_MayBeSame_run aAN x2 aAA aAB _ hx3) rfl (by intro hc; cases hc)) ?_
  refine SRun.ck tbokE3 5 ⟨52, [(0, vi aAN), (1, vl eTie aAList), (2, vi aAA), (3, vi aAB), (10, vb x3.1), (11, vi x3.2)], []⟩ ?_
  refine SRun.nil ?_
  refine nx_n ?_
  refine swp_seq ?_
  refine swp_reg ?_
  refine SRun.ck tbokE3 1 ⟨52, [(0, vi aAN), (1, vl eTie aAList), (2, vi aAA), (3, vi aAB), (10, vb x3.1), (11, vi x3.2), (29, vl eTie aAList)], []⟩ ?_
  obtain ⟨x4, hx4, h⟩ := bind_some h
  refine SRun.ls (x_lstep_call (f := 16) (caps := []) (xs := [vl eTie aAList]) (ys := [vl eTie aAList]) (res := ⟨[.own 42 4 x4.length (x4.map eTie)], [], false⟩) (x := .own 30) (y := some (.arr 42 4 x4.length (x4.map eTie))) rfl ents16 (laws_toTieS_run aAList _ hx4) rfl (by intro hc; cases hc)) ?_
  refine SRun.ck tbokE3 1 ⟨52, [(0, vi aAN), (1, vl eTie aAList), (2, vi aAA), (3, vi aAB), (10, vb x3.1), (11, vi x3.2), (12, .own 30)], [(30, .arr 42 4 x4.length (x4.map eTie))]⟩ ?_
  refine SRun.nil ?_
  refine nx_n ?_
  refine swp_seq ?_
  refine swp_reg ?_
  refine SRun.ck tbokE3 4 ⟨52, [(1, vl eTie aAList), (10, vb x3.1), (11, vi x3.2), (12, .own 30), (32, vi aAN), (33, .own 30), (34, vi aAA), (35, vi aAB)], [(30, .arr 42 4 x4.length (x4.map eTie))]⟩ ?_
  obtain ⟨x5, hx5, h⟩ := bind_some h
  refine SRun.ls (x_lstep_call (f := 26) (caps := []) (xs := [vi aAN, .own 30, vi aAA, vi aAB]) (ys := [vi aAN, vl eTie x4, vi aAA, vi aAB]) (res := ⟨[.v (vb x5.1), .v (vi x5.2)], [], false⟩) (x := .tup [vb x5.1, vi x5.2]) (y := none) rfl ents26 (impl_MayBeSame_run aAN x4 aAA aAB _ hx5) rfl (by intro hc; cases hc)) ?_
  refine SRun.ck tbokE3 5 ⟨52, [(1, vl eTie aAList), (10, vb x3.1), (11, vi x3.2), (12, .own 30), (13, vb x5.1), (14, vi x5.2)], [(30, .arr 42 4 x4.length (x4.map eTie))]⟩ ?_
  refine SRun.nil ?_
  refine nx_n ?_
  refine swp_seq ?_
  refine swp_seq ?_
  refine swp_regP ⟨52, [(1, vl eTie aAList), (12, .own 30), (46, vb ((!(x5.1 == x3.1)) || (x5.2 != x3.2)))], [(30, .arr 42 4 x4.length (x4.map eTie))]⟩ ?_ ?_
  refine SRun.ck tbokE3 2 ⟨52, [(1, vl eTie aAList), (11, vi x3.2), (12, .own 30), (14, vi x5.2), (39, vb x5.1), (40, vb x3.1)], [(30, .arr 42 4 x4.length (x4.map eTie))]⟩ ?_
  refine SRun.ls (x_lstep_eqb tbokE3 (ti := ti4) (i := x5.1) (j := x3.1) true rfl) ?_
  refine SRun.ck tbokE3 1 ⟨52, [(1, vl eTie aAList), (11, vi x3.2), (12, .own 30), (14, vi x5.2), (42, vb (!(x5.1 == x3.1)))], [(30, .arr 42 4 x4.length (x4.map eTie))]⟩ ?_
  generalize (!(x5.1 == x3.1)) = bb
  cases bb
  refine SRun.ck tbokE3 4 ⟨52, [(1, vl eTie aAList), (12, .own 30), (46, vb (x5.2 != x3.2))], [(30, .arr 42 4 x4.length (x4.map eTie))]⟩ ?_
  exact SRun.nil (Le.sub0)
  refine SRun.ck tbokE3 4 ⟨52, [(1, vl eTie aAList), (12, .own 30), (46, vb true)], [(30, .arr 42 4 x4.length (x4.map eTie))]⟩ ?_
  exact SRun.nil (Le.sub0)
  refine swp_cond (b := ((!(x5.1 == x3.1)) || (x5.2 != x3.2))) (by kernel_rfl) (fun hb => ?_) (fun hb => ?_)
  replace h := cond_t hb h
  refine swp_seq ?_
  refine swp_reg ?_
  refine SRun.ck tbokE3 1 ⟨52, [(8, vb false)], []⟩ ?_
  refine SRun.nil ?_
  refine nx_n ?_
  refine swp_ret ?_
  replace h := Option.some.inj h
  subst h
  exact nx_r (q_fr (fin1 (by kernel_rfl) (finV rfl (by simp [SV.Flat, SV.Flat.FlatL, Tr.flat]) (holds_t (by kernel_rfl)))))
  replace h := cond_f hb h
  refine swp_skip ?_
  refine nx_n ?_
  refine swp_seq ?_
  refine swp_seq ?_
  refine swp_reg ?_
  refine SRun.ck tbokE3 2 ⟨52, [(47, .own 30), (48, vl eTie aAList)], [(30, .arr 42 4 x4.length (x4.map eTie))]⟩ ?_
  obtain ⟨x6, hx6, h⟩ := bind_some h
  refine SRun.ls (x_lstep_call (f := 16) (caps := []) (xs := [vl eTie aAList]) (ys := [vl eTie aAList]) (res := ⟨[.own 42 4 x6.length (x6.map eTie)], [], false⟩) (x := .own 49) (y := some (.arr 42 4 x6.length (x6.map eTie))) rfl ents16 (laws_toTieS_run aAList _ hx6) rfl (by intro hc; cases hc)) ?_
  obtain ⟨x7, hx7, h⟩ := bind_some h
  refine SRun.ls (x_lstep_call (f := 18) (caps := []) (xs := [.own 30, .own 49]) (ys := [vl eTie x4, vl eTie x6]) (res := ⟨[.v (vb x7)], [], false⟩) (x := vb x7) (y := none) rfl ents18 (laws_eqTieS_run x4 x6 _ hx7) rfl (by intro hc; cases hc)) ?_
  refine SRun.ck tbokE3 1 ⟨52, [(51, vb (!x7))], []⟩ ?_
  refine SRun.nil ?_
  refine nx_n ?_
  refine swp_cond (b := (!x7)) (by kernel_rfl) (fun hb => ?_) (fun hb => ?_)
  replace h := cond_t hb h
  refine swp_seq ?_
  refine swp_reg ?_
  refine SRun.ck tbokE3 1 ⟨52, [(8, vb false)], []⟩ ?_
  refine SRun.nil ?_
  refine nx_n ?_
  refine swp_ret ?_
  replace h := Option.some.inj h
  subst h
  exact nx_r (q_fr (fin1 (by kernel_rfl) (finV rfl (by simp [SV.Flat, SV.Flat.FlatL, Tr.flat]) (holds_t (by kernel_rfl)))))
  replace h := cond_f hb h
  refine swp_skip ?_
  refine nx_n ?_
  refine swp_seq ?_
  refine swp_reg ?_
  refine SRun.ck tbokE3 1 ⟨52, [(8, vb true)], []⟩ ?_
  refine SRun.nil ?_
  refine nx_n ?_
  refine swp_ret ?_
  replace h := Option.some.inj h
  subst h
  exact q_fr (fin1 (by kernel_rfl) (finV rfl (by simp [SV.Flat, SV.Flat.FlatL, Tr.flat]) (holds_t (by kernel_rfl))))
theorem ents6 : Ents Tryd.prog 6 := ents_of Tryd.func6 (by kernel_rfl) rfl
end Go.Proofs.YtmbejkchgdcdhaaDoor.Sh
