/- Typed functions and the calls that do what they say. -/
import Derived.Test.YtmbejkchgdcdhaaDoorSB
import Derived.Test.YtmbejkchgdcdhaaDoorKA
import Derived.Test.YtmbejkchgdcdhaaDoorKR
import Derived.Test.YtmbejkchgdcdhaaDoorH1
import Derived.Test.YtmbejkchgdcdhaaDoorGA
import Derived.Test.YtmbejkchgdcdhaaDoorGB
namespace Go.Proofs.YtmbejkchgdcdhaaDoor.Sh
open Go.RowKit

def tblE4 : Tb := [(2, ti2), (4, ti4), (9, ti9), (22, ti22), (39, ti39)]
theorem tbokE4 : TbOk Tryd.prog tblE4 := TbOk.cons ⟨by kernel_rfl, show Tryd.prog.underlying 2 = some (.int .i64) from by kernel_rfl⟩ (TbOk.cons ⟨by kernel_rfl, show Tryd.prog.underlying 4 = some (.bool) from by kernel_rfl⟩ (TbOk.cons ⟨by kernel_rfl, show Tryd.prog.underlying 9 = some (.string) from by kernel_rfl⟩ (TbOk.cons ⟨by kernel_rfl, show Tryd.prog.underlying 22 = some (.slice 39) from by kernel_rfl⟩ (TbOk.cons ⟨by kernel_rfl, show structOf Tryd.prog 39 = some [(0, 2), (1, 2), (2, 4), (3, 9)] from by kernel_rfl⟩ (TbOk.nil _)))))
noncomputable def laws_FnExactSplitsBy (aAN : Int) (aAList : (List Tie)) (aAIndex : Int) : Option (Bool) :=
  ((laws_szTieS aAList 1048576).bind fun x1 => (bif (decide (x1 < 0)) then some true else ((laws_toTieS aAList).bind fun x2 => ((spec_SplitsBy aAN x2 aAIndex).bind fun x3 => ((laws_toTieS aAList).bind fun x4 => ((impl_SplitsBy aAN x4 aAIndex).bind fun x5 => (bif ((!(x5.1 == x3.1)) || (x5.2 != x3.2)) then some false else ((laws_toTieS aAList).bind fun x6 => ((laws_eqTieS x4 x6).bind fun x7 => (bif (!x7) then some false else some true))))))))))
set_option maxRecDepth 100000 in
set_option maxHeartbeats 4000000 in
theorem laws_FnExactSplitsBy_run (aAN : Int) (aAList : (List Tie)) (aAIndex : Int) (r : Bool) (h : laws_FnExactSplitsBy aAN aAList aAIndex = some r) : SCall Tryd.prog 7 [.v (vi aAN), .v (vl eTie aAList), .v (vi aAIndex)] ⟨[.v (vb r)], [], false⟩ := by
  refine scall_in Tryd.func7 rfl [(.tmp 6)] rfl (fun r => ⟨[.v (vb r)], [], false⟩) (r := r) ?_
  unfold laws_FnExactSplitsBy at h
  refine swp_seq ?_
  refine swp_reg ?_
  refine SRun.ck tbokE4 1 ⟨48, [(0, vi aAN), (1, vl eTie aAList), (2, vi aAIndex)], []⟩ ?_
  refine SRun.nil ?_
  refine nx_n ?_
  refine swp_seq ?_
  refine swp_reg ?_
  refine SRun.ck tbokE4 1 ⟨48, [(0, vi aAN), (1, vl eTie aAList), (2, vi aAIndex), (7, vi 1048576)], []⟩ ?_
  refine SRun.nil ?_
  refine nx_n ?_
  refine swp_seq ?_
  refine swp_reg ?_
  refine SRun.ck tbokE4 2 ⟨48, [(0, vi aAN), (1, vl eTie aAList), (2, vi aAIndex), (13, vl eTie aAList), (14, vi 1048576)], []⟩ ?_
  obtain ⟨x1, hx1, h⟩ := bind_some h
  refine SRun.ls (x_lstep_call (f := 14) (caps := []) (xs := [vl eTie aAList, vi 1048576]) (ys := [vl eTie aAList, vi 1048576]) (res := ⟨[.v (vi x1)], [], false⟩) (x := vi x1) (y := none) rfl ents14 (laws_szTieS_run aAList 1048576 _ hx1) rfl (by intro hc; cases hc)) ?_
  refine SRun.ck tbokE4 1 ⟨48, [(0, vi aAN), (1, vl eTie aAList), (2, vi aAIndex), (7, vi x1)], []⟩ ?_
  refine SRun.nil ?_
  refine nx_n ?_
  refine swp_seq ?_
  refine swp_seq ?_
  refine swp_reg ?_
  refine SRun.ck tbokE4 2 ⟨48, [(0, vi aAN), (1, vl eTie aAList), (2, vi aAIndex), (17, vb (decide (x1 < 0)))], []⟩ ?_
  refine SRun.nil ?_
  refine nx_n ?_
  refine swp_cond (b := (decide (x1 < 0))) (by kernel_rfl) (fun hb => ?_) (fun hb => ?_)
  replace h := cond_t hb h
  refine swp_seq ?_
  refine swp_reg ?_
  refine SRun.ck tbokE4 1 ⟨48, [(6, vb true)], []⟩ ?_
  refine SRun.nil ?_
  refine nx_n ?_
  refine swp_ret ?_
  replace h := Option.some.inj h
  subst h
  exact nx_r (q_fr (fin1 (by kernel_rfl) (finV rfl (by simp [SV.Flat, SV.Flat.FlatL, Tr.flat]) (holds_t (by kernel_rfl)))))
  replace h := cond_f hb h
  refine swp_skip ?_
  refine nx_n ?_
  refine swp_seq ?_
  refine swp_reg ?_
  refine SRun.ck tbokE4 2 ⟨48, [(0, vi aAN), (1, vl eTie aAList), (2, vi aAIndex), (19, vi aAN), (20, vl eTie aAList)], []⟩ ?_
  obtain ⟨x2, hx2, h⟩ := bind_some h
  refine SRun.ls (x_lstep_call (f := 16) (caps := []) (xs := [vl eTie aAList]) (ys := [vl eTie aAList]) (res := ⟨[.own 42 4 x2.length (x2.map eTie)], [], false⟩) (x := .own 21) (y := some (.arr 42 4 x2.length (x2.map eTie))) rfl ents16 (laws_toTieS_run aAList _ hx2) rfl (by intro hc; cases hc)) ?_
  refine SRun.ck tbokE4 1 ⟨48, [(0, vi aAN), (1, vl eTie aAList), (2, vi aAIndex), (19, vi aAN), (21, .own 21), (22, vi aAIndex)], [(21, .arr 42 4 x2.length (x2.map eTie))]⟩ ?_
  obtain ⟨x3, hx3, h⟩ := bind_some h
  refine SRun.ls (x_lstep_call (f := 27) (caps := []) (xs := [vi aAN, .own 21, vi aAIndex]) (ys := [vi aAN, vl eTie x2, vi aAIndex]) (res := ⟨[.v (vb x3.1), .v (vi x3.2)], [], false⟩) (x := .tup [vb x3.1, vi x3.2]) (y := none) rfl ents27 (spec_SplitsBy_run aAN x2 aAIndex _ hx3) rfl (by intro hc; cases hc)) ?_
  refine SRun.ck tbokE4 5 ⟨48, [(0, vi aAN), (1, vl eTie aAList), (2, vi aAIndex), (8, vb x3.1), (9, vi x3.2)], []⟩ ?_
  refine SRun.nil ?_
  refine nx_n ?_
  refine swp_seq ?_
  refine swp_reg ?_
  refine SRun.ck tbokE4 1 ⟨48, [(0, vi aAN), (1, vl eTie aAList), (2, vi aAIndex), (8, vb x3.1), (9, vi x3.2), (26, vl eTie aAList)], []⟩ ?_
  obtain ⟨x4, hx4, h⟩ := bind_some h
  refine SRun.ls (x_lstep_call (f := 16) (caps := []) (xs := [vl eTie aAList]) (ys := [vl eTie aAList]) (res := ⟨[.own 42 4 x4.length (x4.map eTie)], [], false⟩) (x := .own 27) (y := some (.arr 42 4 x4.length (x4.map eTie))) rfl ents16 (laws_toTieS_run aAList _ hx4) rfl (by intro hc; cases hc)) ?_
  refine SRun.ck tbokE4 1 ⟨48, [(0, vi aAN), (1, vl eTie aAList), (2, vi aAIndex), (8, vb x3.1), (9, vi x3.2), (10, .own 27)], [(27, .arr 42 4 x4.length (x4.map eTie))]⟩ ?_
  refine SRun.nil ?_
  refine nx_n ?_
  refine swp_seq ?_
  refine swp_reg ?_
  refine SRun.ck tbokE4 3 ⟨48, [(1, vl eTie aAList), (8, vb x3.1), (9, vi x3.2), (10, .own 27), (29, vi aAN), (30, .own 27), (31, vi aAIndex)], [(27, .arr 42 4 x4.length (x4.map eTie))]⟩ ?_
  obtain ⟨x5, hx5, h⟩ := bind_some h
  refine SRun.ls (x_lstep_call (f := 28) (caps := []) (xs := [vi aAN, .own 27, vi aAIndex]) (ys := [vi aAN, vl eTie x4, vi aAIndex]) (res := ⟨[.v (vb x5.1), .v (vi x5.2)], [], false⟩) (x := .tup [vb x5.1, vi x5.2]) (y := none) rfl ents28 (impl_SplitsBy_run aAN x4 aAIndex _ hx5) rfl (by intro hc; cases hc)) ?_
  refine SRun.ck tbokE4 5 ⟨48, [(1, vl eTie aAList), (8, vb x3.1), (9, vi x3.2), (10, .own 27), (11, vb x5.1), (12, vi x5.2)], [(27, .arr 42 4 x4.length (x4.map eTie))]⟩ ?_
  refine SRun.nil ?_
  refine nx_n ?_
  refine swp_seq ?_
  refine swp_seq ?_
  refine swp_regP ⟨48, [(1, vl eTie aAList), (10, .own 27), (42, vb ((!(x5.1 == x3.1)) || (x5.2 != x3.2)))], [(27, .arr 42 4 x4.length (x4.map eTie))]⟩ ?_ ?_
  refine SRun.ck tbokE4 2 ⟨48, [(1, vl eTie aAList), (9, vi x3.2), (10, .own 27), (12, vi x5.2), (35, vb x5.1), (36, vb x3.1)], [(27, .arr 42 4 x4.length (x4.map eTie))]⟩ ?_
  refine SRun.ls (x_lstep_eqb tbokE4 (ti := ti4) (i := x5.1) (j := x3.1) true rfl) ?_
  refine SRun.ck tbokE4 1 ⟨48, [(1, vl eTie aAList), (9, vi x3.2), (10, .own 27), (12, vi x5.2), (38, vb (!(x5.1 == x3.1)))], [(27, .arr 42 4 x4.length (x4.map eTie))]⟩ ?_
  generalize (!(x5.1 == x3.1)) = bb
  cases bb
  refine SRun.ck tbokE4 4 ⟨48, [(1, vl eTie aAList), (10, .own 27), (42, vb (x5.2 != x3.2))], [(27, .arr 42 4 x4.length (x4.map eTie))]⟩ ?_
  exact SRun.nil (Le.sub0)
  refine SRun.ck tbokE4 4 ⟨48, [(1, vl eTie aAList), (10, .own 27), (42, vb true)], [(27, .arr 42 4 x4.length (x4.map eTie))]⟩ ?_
  exact SRun.nil (Le.sub0)
  refine swp_cond (b := ((!(x5.1 == x3.1)) || (x5.2 != x3.2))) (by kernel_rfl) (fun hb => ?_) (fun hb => ?_)
  replace h := cond_t hb h
  refine swp_seq ?_
  refine swp_reg ?_
  refine SRun.ck tbokE4 1 ⟨48, [(6, vb false)], []⟩ ?_
  refine SRun.nil ?_
  refine nx_n ?_
  refine swp_ret ?_
  replace h := Option.some.inj h
  subst h
  exact nx_r (q_fr (fin1 (by kernel_rfl) (finV rfl (by simp [SV.Flat, SV.Flat.FlatL, Tr.flat]) (holds_t (by kernel_rfl)))))
  replace h := cond_f hb h
  refine swp_skip ?_
  refine nx_n ?_
  refine swp_seq ?_
  refine swp_seq ?_
  refine swp_reg ?_
  refine SRun.ck tbokE4 2 ⟨48, [(43, .own 27), (44, vl eTie aAList)], [(27, .arr 42 4 x4.length (x4.map eTie))]⟩ ?_
  obtain ⟨x6, hx6, h⟩ := bind_some h
  refine SRun.ls (x_lstep_call (f := 16) (caps := []) (xs := [vl eTie aAList]) (ys := [vl eTie aAList]) (res := ⟨[.own 42 4 x6.length (x6.map eTie)], [], false⟩) (x := .own 45) (y := some (.arr 42 4 x6.length (x6.map eTie))) rfl ents16 (laws_toTieS_run aAList _ hx6) rfl (by intro hc; cases hc)) ?_
  obtain ⟨x7, hx7, h⟩ := bind_some h
  refine SRun.ls (x_lstep_call (f := 18) (caps := []) (xs := [.own 27, .own 45]) (ys := [vl eTie x4, vl eTie x6]) (res := ⟨[.v (vb x7)], [], false⟩) (x := vb x7) (y := none) rfl ents18 (laws_eqTieS_run x4 x6 _ hx7) rfl (by intro hc; cases hc)) ?_
  refine SRun.ck tbokE4 1 ⟨48, [(47, vb (!x7))], []⟩ ?_
  refine SRun.nil ?_
  refine nx_n ?_
  refine swp_cond (b := (!x7)) (by kernel_rfl) (fun hb => ?_) (fun hb => ?_)
  replace h := cond_t hb h
  refine swp_seq ?_
  refine swp_reg ?_
  refine SRun.ck tbokE4 1 ⟨48, [(6, vb false)], []⟩ ?_
  refine SRun.nil ?_
  refine nx_n ?_
  refine swp_ret ?_
  replace h := Option.some.inj h
  subst h
  exact nx_r (q_fr (fin1 (by kernel_rfl) (finV rfl (by simp [SV.Flat, SV.Flat.FlatL, Tr.flat]) (holds_t (by kernel_rfl)))))
  replace h := cond_f hb h
  refine swp_skip ?_
  refine nx_n ?_
  refine swp_seq ?_
  refine swp_reg ?_
  refine SRun.ck tbokE4 1 ⟨48, [(6, vb true)], []⟩ ?_
  refine SRun.nil ?_
  refine nx_n ?_
  refine swp_ret ?_
  replace h := Option.some.inj h
  subst h
  exact q_fr (fin1 (by kernel_rfl) (finV rfl (by simp [SV.Flat, SV.Flat.FlatL, Tr.flat]) (holds_t (by kernel_rfl))))
theorem ents7 : Ents Tryd.prog 7 := ents_of Tryd.func7 (by kernel_rfl) rfl
end Go.Proofs.YtmbejkchgdcdhaaDoor.Sh
