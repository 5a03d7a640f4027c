/- Typed functions and the calls that do what they say. -/
import Derived.Test.YtlhllbiikideeaaSB
import Derived.Test.YtlhllbiikideeaaBP3
import Derived.Test.YtlhllbiikideeaaH1
import Derived.Test.YtlhllbiikideeaaGA
namespace Go.Proofs.Ytlhllbiikideeaa.Sh
open Go.RowKit
set_option maxRecDepth 100000
set_option maxHeartbeats 4000000

def tblGB : Tb := [(2, ti2), (4, ti4), (22, ti22), (24, ti24), (27, ti27), (50, ti50), (52, ti52), (54, ti54), (56, ti56)]
theorem tbokGB : TbOk Try.prog tblGB := TbOk.cons ⟨by kernel_rfl, show Try.prog.underlying 2 = some (.int .i64) from by kernel_rfl⟩ (TbOk.cons ⟨by kernel_rfl, show Try.prog.underlying 4 = some (.bool) from by kernel_rfl⟩ (TbOk.cons ⟨by kernel_rfl, show Try.prog.underlying 22 = some (.slice 56) from by kernel_rfl⟩ (TbOk.cons ⟨by kernel_rfl, show Try.prog.underlying 24 = some (.slice 2) from by kernel_rfl⟩ (TbOk.cons ⟨by kernel_rfl, show Try.prog.underlying 27 = some (.slice 52) from by kernel_rfl⟩ (TbOk.cons ⟨by kernel_rfl, show structOf Try.prog 50 = some [(0, 2), (1, 2)] from by kernel_rfl⟩ (TbOk.cons ⟨by kernel_rfl, show structOf Try.prog 52 = some [(0, 50), (2, 2), (3, 2)] from by kernel_rfl⟩ (TbOk.cons ⟨by kernel_rfl, show structOf Try.prog 54 = some [(0, 2), (1, 2)] from by kernel_rfl⟩ (TbOk.cons ⟨by kernel_rfl, show structOf Try.prog 56 = some [(0, 54), (2, 2), (3, 2)] from by kernel_rfl⟩ (TbOk.nil _)))))))))

theorem ents9 : Ents Try.prog 9 := ents_of Try.func9 (by kernel_rfl) rfl
noncomputable def laws_FnExactBestPlacement (aAList : (List Label)) : Option (Bool) :=
  ((laws_szLabelS aAList 1048576).bind fun x1 => (bif (decide (x1 < 0)) then some true else ((laws_toLabelS aAList).bind fun x2 => ((spec_BestPlacement x2).bind fun x3 => ((laws_toLabelS aAList).bind fun x4 => ((impl_BestPlacement x4).bind fun x5 => ((((laws_eqInt64S x5.1 x3.1).bind fun x6 => (bif (!x6) then some true else some (x5.2 != x3.2)))).bind fun (j7 : Bool) => (bif j7 then some false else ((laws_toLabelS aAList).bind fun x9 => ((laws_eqLabelS x4 x9).bind fun x10 => (bif (!x10) then some false else ((laws_markLabelS x4 1).bind fun x11 => (((bif (decide (x11.1 < 0)) then some true else ((laws_eqInt64S x5.1 x3.1).bind fun x12 => (bif (!x12) then some true else some (x5.2 != x3.2))))).bind fun (j13 : Bool) => (bif j13 then some false else ((laws_markInt64S x5.1 1).bind fun x15 => ((laws_heldInt64S x15.2 1).bind fun x16 => (bif (decide (x16 < 0)) then some false else (bif (x16 != x15.1) then some false else ((laws_toLabelS aAList).bind fun x17 => ((impl_BestPlacement x17).bind fun x18 => ((((laws_eqInt64S x18.1 x3.1).bind fun x19 => (bif (!x19) then some true else some (x18.2 != x3.2)))).bind fun (j20 : Bool) => (bif j20 then some false else ((laws_heldInt64S x15.2 1).bind fun x22 => (bif (decide (x22 < 0)) then some false else (bif (x22 != x15.1) then some false else some true)))))))))))))))))))))))))
theorem laws_FnExactBestPlacement_run (aAList : (List Label)) (r : Bool) (h : laws_FnExactBestPlacement aAList = some r) : SCall Try.prog 3 [.v (vl eLabel aAList)] ⟨[.v (vb r)], [], false⟩ := by
  refine scall_in Try.func3 rfl [(.tmp 2)] rfl (fun r => ⟨[.v (vb r)], [], false⟩) (r := r) ?_
  unfold laws_FnExactBestPlacement at h
  refine srk tbokGB ⟨96, [(0, vl eLabel aAList)], []⟩ ?_
  refine srk tbokGB ⟨96, [(0, vl eLabel aAList), (3, vi 1048576)], []⟩ ?_
  refine sr ?_
  refine SRun.ck tbokGB 2 ⟨96, [(0, vl eLabel aAList), (14, vl eLabel aAList), (15, vi 1048576)], []⟩ ?_
  obtain ⟨x1, hx1, h⟩ := bind_some h
  refine SRun.ls (xc ents6 (laws_szLabelS_run aAList 1048576 _ hx1)) ?_
  refine ckn tbokGB 1 ⟨96, [(0, vl eLabel aAList), (3, vi x1)], []⟩ ?_
  refine swp_seq ?_
  refine srk tbokGB ⟨96, [(0, vl eLabel aAList), (18, vb (decide (x1 < 0)))], []⟩ ?_
  refine swp_cd h (fun h => ?_) fun h => ?_
  refine srk tbokGB ⟨96, [(2, vb true)], []⟩ ?_
  refine swp_ret ?_
  obtain rfl := inj h
  exact nx_r (q_fr (f1 fv))
  refine swp_skip ?_
  refine nx_n ?_
  refine sr ?_
  refine SRun.ck tbokGB 1 ⟨96, [(0, vl eLabel aAList), (20, vl eLabel aAList)], []⟩ ?_
  obtain ⟨x2, hx2, h⟩ := bind_some h
  refine SRun.ls (xc ents8 (laws_toLabelS_run aAList _ hx2)) ?_
  refine SRun.le (Le.frz' (d := 21) (e := 52) (m := 4) (n := x2.length) (es := x2.map eLabel) (by kernel_rfl) (by kernel_rfl)) ?_
  obtain ⟨x3, hx3, h⟩ := bind_some h
  refine SRun.ls (xc ents7 (spec_BestPlacement_run x2 _ hx3)) ?_
  refine ckn tbokGB 5 ⟨96, [(0, vl eLabel aAList), (4, vl (eI .i64) x3.1), (5, vi x3.2)], []⟩ ?_
  refine sr ?_
  refine SRun.ck tbokGB 1 ⟨96, [(0, vl eLabel aAList), (4, vl (eI .i64) x3.1), (5, vi x3.2), (25, vl eLabel aAList)], []⟩ ?_
  obtain ⟨x4, hx4, h⟩ := bind_some h
  refine SRun.ls (xc ents8 (laws_toLabelS_run aAList _ hx4)) ?_
  refine ckn tbokGB 1 ⟨96, [(0, vl eLabel aAList), (4, vl (eI .i64) x3.1), (5, vi x3.2), (6, .own 26)], [(26, oa 52 4 eLabel x4)]⟩ ?_
  refine sr ?_
  refine SRun.ck tbokGB 1 ⟨96, [(0, vl eLabel aAList), (4, vl (eI .i64) x3.1), (5, vi x3.2), (6, .own 26), (28, .own 26)], [(26, oa 52 4 eLabel x4)]⟩ ?_
  obtain ⟨x5, hx5, h⟩ := bind_some h
  refine SRun.ls (xc ents9 (impl_BestPlacement_run x4 _ hx5)) ?_
  refine ckn tbokGB 5 ⟨96, [(0, vl eLabel aAList), (4, vl (eI .i64) x3.1), (5, vi x3.2), (6, .own 26), (7, .own 29), (8, vi x5.2)], [(26, oa 52 4 eLabel x4), (29, oa 2 1 (eI .i64) x5.1)]⟩ ?_
  refine swp_seq ?_
  refine swp_seq ?_
  refine swp_regJ h (fun j7 => ⟨96, [(0, vl eLabel aAList), (4, vl (eI .i64) x3.1), (5, vi x3.2), (6, .own 6), (7, .own 7), (8, vi x5.2), (40, vb j7)], [(6, oa 52 4 eLabel x4), (7, oa 2 1 (eI .i64) x5.1)]⟩) (fun v8 h => ?_) (fun j7 h => ?_)
  refine SRun.ck tbokGB 2 ⟨96, [(0, vl eLabel aAList), (4, vl (eI .i64) x3.1), (5, vi x3.2), (6, .own 26), (7, .own 29), (8, vi x5.2), (32, .own 29), (33, vl (eI .i64) x3.1)], [(26, oa 52 4 eLabel x4), (29, oa 2 1 (eI .i64) x5.1)]⟩ ?_
  obtain ⟨x6, hx6, h⟩ := bind_some h
  refine SRun.ls (xc ents10 (laws_eqInt64S_run x5.1 x3.1 _ hx6)) ?_
  refine SRun.ck tbokGB 2 ⟨96, [(0, vl eLabel aAList), (4, vl (eI .i64) x3.1), (5, vi x3.2), (6, .own 26), (7, .own 29), (8, vi x5.2), (36, vb (!x6))], [(26, oa 52 4 eLabel x4), (29, oa 2 1 (eI .i64) x5.1)]⟩ ?_
  refine SRun.cu [(36, fun b => b)] h (fun h => ?_) fun h => ?_
  refine SRun.ck tbokGB 4 ⟨96, [(0, vl eLabel aAList), (4, vl (eI .i64) x3.1), (5, vi x3.2), (6, .own 26), (7, .own 29), (8, vi x5.2), (40, vb true)], [(26, oa 52 4 eLabel x4), (29, oa 2 1 (eI .i64) x5.1)]⟩ ?_
  refine SRun.nil ?_
  obtain rfl := inj h
  exact Le.rr [26, 29] [(26, 6), (29, 7)]
  refine SRun.ck tbokGB 4 ⟨96, [(0, vl eLabel aAList), (4, vl (eI .i64) x3.1), (5, vi x3.2), (6, .own 26), (7, .own 29), (8, vi x5.2), (40, vb (x5.2 != x3.2))], [(26, oa 52 4 eLabel x4), (29, oa 2 1 (eI .i64) x5.1)]⟩ ?_
  refine SRun.nil ?_
  obtain rfl := inj h
  exact Le.rr [26, 29] [(26, 6), (29, 7)]
  refine swp_cd h (fun h => ?_) fun h => ?_
  refine srk tbokGB ⟨96, [(2, vb false)], []⟩ ?_
  refine swp_ret ?_
  obtain rfl := inj h
  exact nx_r (q_fr (f1 fv))
  refine swp_skip ?_
  refine nx_n ?_
  refine swp_seq ?_
  refine sr ?_
  refine SRun.ck tbokGB 2 ⟨96, [(0, vl eLabel aAList), (4, vl (eI .i64) x3.1), (5, vi x3.2), (6, .own 6), (7, .own 7), (8, vi x5.2), (41, .own 6), (42, vl eLabel aAList)], [(6, oa 52 4 eLabel x4), (7, oa 2 1 (eI .i64) x5.1)]⟩ ?_
  obtain ⟨x9, hx9, h⟩ := bind_some h
  refine SRun.ls (xc ents8 (laws_toLabelS_run aAList _ hx9)) ?_
  obtain ⟨x10, hx10, h⟩ := bind_some h
  refine SRun.ls (xc ents11 (laws_eqLabelS_run x4 x9 _ hx10)) ?_
  refine ckn tbokGB 1 ⟨96, [(0, vl eLabel aAList), (4, vl (eI .i64) x3.1), (5, vi x3.2), (6, .own 6), (7, .own 7), (8, vi x5.2), (45, vb (!x10))], [(6, oa 52 4 eLabel x4), (7, oa 2 1 (eI .i64) x5.1)]⟩ ?_
  refine swp_cd h (fun h => ?_) fun h => ?_
  refine srk tbokGB ⟨96, [(2, vb false)], []⟩ ?_
  refine swp_ret ?_
  obtain rfl := inj h
  exact nx_r (q_fr (f1 fv))
  refine swp_skip ?_
  refine nx_n ?_
  refine srk tbokGB ⟨96, [(0, vl eLabel aAList), (4, vl (eI .i64) x3.1), (5, vi x3.2), (6, .own 6), (7, .own 7), (8, vi x5.2), (9, vi 1)], [(6, oa 52 4 eLabel x4), (7, oa 2 1 (eI .i64) x5.1)]⟩ ?_
  refine sr ?_
  refine SRun.ck tbokGB 2 ⟨96, [(0, vl eLabel aAList), (4, vl (eI .i64) x3.1), (5, vi x3.2), (7, .own 7), (8, vi x5.2), (46, .own 6), (47, vi 1)], [(6, oa 52 4 eLabel x4), (7, oa 2 1 (eI .i64) x5.1)]⟩ ?_
  obtain ⟨x11, hx11, h⟩ := bind_some h
  refine SRun.estep (xe ents12 (laws_markLabelS_run x4 1 _ hx11)) ?_
  refine ckn tbokGB 1 ⟨96, [(0, vl eLabel aAList), (4, vl (eI .i64) x3.1), (5, vi x3.2), (7, .own 7), (8, vi x5.2), (9, vi x11.1)], [(7, oa 2 1 (eI .i64) x5.1)]⟩ ?_
  refine swp_seq ?_
  refine swp_seq ?_
  refine swp_regJ h (fun j13 => ⟨96, [(0, vl eLabel aAList), (4, vl (eI .i64) x3.1), (5, vi x3.2), (7, .own 7), (61, vb j13)], [(7, oa 2 1 (eI .i64) x5.1)]⟩) (fun v14 h => ?_) (fun j13 h => ?_)
  refine SRun.ck tbokGB 3 ⟨96, [(0, vl eLabel aAList), (4, vl (eI .i64) x3.1), (5, vi x3.2), (7, .own 7), (8, vi x5.2), (51, vb (decide (x11.1 < 0)))], [(7, oa 2 1 (eI .i64) x5.1)]⟩ ?_
  refine SRun.cu [(51, fun b => b)] h (fun h => ?_) fun h => ?_
  refine SRun.ck tbokGB 10 ⟨96, [(0, vl eLabel aAList), (4, vl (eI .i64) x3.1), (5, vi x3.2), (7, .own 7), (61, vb true)], [(7, oa 2 1 (eI .i64) x5.1)]⟩ ?_
  refine SRun.nil ?_
  obtain rfl := inj h
  exact Le.sub0
  refine SRun.ck tbokGB 2 ⟨96, [(0, vl eLabel aAList), (4, vl (eI .i64) x3.1), (5, vi x3.2), (7, .own 7), (8, vi x5.2), (51, vb false), (52, .own 7), (53, vl (eI .i64) x3.1)], [(7, oa 2 1 (eI .i64) x5.1)]⟩ ?_
  obtain ⟨x12, hx12, h⟩ := bind_some h
  refine SRun.ls (xc ents10 (laws_eqInt64S_run x5.1 x3.1 _ hx12)) ?_
  refine SRun.ck tbokGB 3 ⟨96, [(0, vl eLabel aAList), (4, vl (eI .i64) x3.1), (5, vi x3.2), (7, .own 7), (8, vi x5.2), (57, vb (!x12))], [(7, oa 2 1 (eI .i64) x5.1)]⟩ ?_
  refine SRun.cu [(57, fun b => b)] h (fun h => ?_) fun h => ?_
  refine SRun.ck tbokGB 4 ⟨96, [(0, vl eLabel aAList), (4, vl (eI .i64) x3.1), (5, vi x3.2), (7, .own 7), (61, vb true)], [(7, oa 2 1 (eI .i64) x5.1)]⟩ ?_
  refine SRun.nil ?_
  obtain rfl := inj h
  exact Le.sub0
  refine SRun.ck tbokGB 4 ⟨96, [(0, vl eLabel aAList), (4, vl (eI .i64) x3.1), (5, vi x3.2), (7, .own 7), (61, vb (x5.2 != x3.2))], [(7, oa 2 1 (eI .i64) x5.1)]⟩ ?_
  refine SRun.nil ?_
  obtain rfl := inj h
  exact Le.sub0
  refine swp_cd h (fun h => ?_) fun h => ?_
  refine srk tbokGB ⟨96, [(2, vb false)], []⟩ ?_
  refine swp_ret ?_
  obtain rfl := inj h
  exact nx_r (q_fr (f1 fv))
  refine swp_skip ?_
  refine nx_n ?_
  refine srk tbokGB ⟨96, [(0, vl eLabel aAList), (4, vl (eI .i64) x3.1), (5, vi x3.2), (7, .own 7), (10, vi 1)], [(7, oa 2 1 (eI .i64) x5.1)]⟩ ?_
  refine sr ?_
  refine SRun.ck tbokGB 2 ⟨96, [(0, vl eLabel aAList), (4, vl (eI .i64) x3.1), (5, vi x3.2), (7, .own 7), (62, .own 7), (63, vi 1)], [(7, oa 2 1 (eI .i64) x5.1)]⟩ ?_
  obtain ⟨x15, hx15, h⟩ := bind_some h
  refine SRun.estep (xe ents13 (laws_markInt64S_run x5.1 1 _ hx15)) ?_
  refine ckn tbokGB 1 ⟨96, [(0, vl eLabel aAList), (4, vl (eI .i64) x3.1), (5, vi x3.2), (7, .own 7), (10, vi x15.1)], [(7, oa 2 1 (eI .i64) x15.2)]⟩ ?_
  refine srk tbokGB ⟨96, [(0, vl eLabel aAList), (4, vl (eI .i64) x3.1), (5, vi x3.2), (7, .own 7), (10, vi x15.1), (11, vi 1)], [(7, oa 2 1 (eI .i64) x15.2)]⟩ ?_
  refine sr ?_
  refine SRun.ck tbokGB 2 ⟨96, [(0, vl eLabel aAList), (4, vl (eI .i64) x3.1), (5, vi x3.2), (7, .own 7), (10, vi x15.1), (65, .own 7), (66, vi 1)], [(7, oa 2 1 (eI .i64) x15.2)]⟩ ?_
  obtain ⟨x16, hx16, h⟩ := bind_some h
  refine SRun.ls (xc ents14 (laws_heldInt64S_run x15.2 1 _ hx16)) ?_
  refine ckn tbokGB 1 ⟨96, [(0, vl eLabel aAList), (4, vl (eI .i64) x3.1), (5, vi x3.2), (7, .own 7), (10, vi x15.1), (11, vi x16)], [(7, oa 2 1 (eI .i64) x15.2)]⟩ ?_
  refine swp_seq ?_
  refine srk tbokGB ⟨96, [(0, vl eLabel aAList), (4, vl (eI .i64) x3.1), (5, vi x3.2), (7, .own 7), (10, vi x15.1), (11, vi x16), (69, vb (decide (x16 < 0)))], [(7, oa 2 1 (eI .i64) x15.2)]⟩ ?_
  refine swp_cd h (fun h => ?_) fun h => ?_
  refine srk tbokGB ⟨96, [(2, vb false)], []⟩ ?_
  refine swp_ret ?_
  obtain rfl := inj h
  exact nx_r (q_fr (f1 fv))
  refine swp_skip ?_
  refine nx_n ?_
  refine swp_seq ?_
  refine srk tbokGB ⟨96, [(0, vl eLabel aAList), (4, vl (eI .i64) x3.1), (5, vi x3.2), (7, .own 7), (10, vi x15.1), (72, vb (x16 != x15.1))], [(7, oa 2 1 (eI .i64) x15.2)]⟩ ?_
  refine swp_cd h (fun h => ?_) fun h => ?_
  refine srk tbokGB ⟨96, [(2, vb false)], []⟩ ?_
  refine swp_ret ?_
  obtain rfl := inj h
  exact nx_r (q_fr (f1 fv))
  refine swp_skip ?_
  refine nx_n ?_
  refine sr ?_
  refine SRun.ck tbokGB 1 ⟨96, [(4, vl (eI .i64) x3.1), (5, vi x3.2), (7, .own 7), (10, vi x15.1), (74, vl eLabel aAList)], [(7, oa 2 1 (eI .i64) x15.2)]⟩ ?_
  obtain ⟨x17, hx17, h⟩ := bind_some h
  refine SRun.ls (xc ents8 (laws_toLabelS_run aAList _ hx17)) ?_
  obtain ⟨x18, hx18, h⟩ := bind_some h
  refine SRun.ls (xc ents9 (impl_BestPlacement_run x17 _ hx18)) ?_
  refine ckn tbokGB 5 ⟨96, [(4, vl (eI .i64) x3.1), (5, vi x3.2), (7, .own 7), (10, vi x15.1), (12, .own 76), (13, vi x18.2)], [(7, oa 2 1 (eI .i64) x15.2), (76, oa 2 1 (eI .i64) x18.1)]⟩ ?_
  refine swp_seq ?_
  refine swp_seq ?_
  refine swp_regJ h (fun j20 => ⟨96, [(7, .own 7), (10, vi x15.1), (87, vb j20)], [(7, oa 2 1 (eI .i64) x15.2)]⟩) (fun v21 h => ?_) (fun j20 h => ?_)
  refine SRun.ck tbokGB 2 ⟨96, [(5, vi x3.2), (7, .own 7), (10, vi x15.1), (13, vi x18.2), (79, .own 76), (80, vl (eI .i64) x3.1)], [(7, oa 2 1 (eI .i64) x15.2), (76, oa 2 1 (eI .i64) x18.1)]⟩ ?_
  obtain ⟨x19, hx19, h⟩ := bind_some h
  refine SRun.ls (xc ents10 (laws_eqInt64S_run x18.1 x3.1 _ hx19)) ?_
  refine SRun.ck tbokGB 2 ⟨96, [(5, vi x3.2), (7, .own 7), (10, vi x15.1), (13, vi x18.2), (83, vb (!x19))], [(7, oa 2 1 (eI .i64) x15.2)]⟩ ?_
  refine SRun.cu [(83, fun b => b)] h (fun h => ?_) fun h => ?_
  refine SRun.ck tbokGB 4 ⟨96, [(7, .own 7), (10, vi x15.1), (87, vb true)], [(7, oa 2 1 (eI .i64) x15.2)]⟩ ?_
  refine SRun.nil ?_
  obtain rfl := inj h
  exact Le.sub0
  refine SRun.ck tbokGB 4 ⟨96, [(7, .own 7), (10, vi x15.1), (87, vb (x18.2 != x3.2))], [(7, oa 2 1 (eI .i64) x15.2)]⟩ ?_
  refine SRun.nil ?_
  obtain rfl := inj h
  exact Le.sub0
  refine swp_cd h (fun h => ?_) fun h => ?_
  refine srk tbokGB ⟨96, [(2, vb false)], []⟩ ?_
  refine swp_ret ?_
  obtain rfl := inj h
  exact nx_r (q_fr (f1 fv))
  refine swp_skip ?_
  refine nx_n ?_
  refine srk tbokGB ⟨96, [(7, .own 7), (10, vi x15.1), (11, vi 1)], [(7, oa 2 1 (eI .i64) x15.2)]⟩ ?_
  refine sr ?_
  refine SRun.ck tbokGB 2 ⟨96, [(10, vi x15.1), (88, .own 7), (89, vi 1)], [(7, oa 2 1 (eI .i64) x15.2)]⟩ ?_
  obtain ⟨x22, hx22, h⟩ := bind_some h
  refine SRun.ls (xc ents14 (laws_heldInt64S_run x15.2 1 _ hx22)) ?_
  refine ckn tbokGB 1 ⟨96, [(10, vi x15.1), (11, vi x22)], []⟩ ?_
  refine swp_seq ?_
  refine srk tbokGB ⟨96, [(10, vi x15.1), (11, vi x22), (92, vb (decide (x22 < 0)))], []⟩ ?_
  refine swp_cd h (fun h => ?_) fun h => ?_
  refine srk tbokGB ⟨96, [(2, vb false)], []⟩ ?_
  refine swp_ret ?_
  obtain rfl := inj h
  exact nx_r (q_fr (f1 fv))
  refine swp_skip ?_
  refine nx_n ?_
  refine swp_seq ?_
  refine srk tbokGB ⟨96, [(95, vb (x22 != x15.1))], []⟩ ?_
  refine swp_cd h (fun h => ?_) fun h => ?_
  refine srk tbokGB ⟨96, [(2, vb false)], []⟩ ?_
  refine swp_ret ?_
  obtain rfl := inj h
  exact nx_r (q_fr (f1 fv))
  refine swp_skip ?_
  refine nx_n ?_
  refine srk tbokGB ⟨96, [(2, vb true)], []⟩ ?_
  refine swp_ret ?_
  obtain rfl := inj h
  exact q_fr (f1 fv)
end Go.Proofs.Ytlhllbiikideeaa.Sh
