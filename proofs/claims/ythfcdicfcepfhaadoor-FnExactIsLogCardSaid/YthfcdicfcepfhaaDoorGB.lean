/- Typed functions and the calls that do what they say. -/
import Derived.Test.YthfcdicfcepfhaaDoorGBp0
import Derived.Test.YthfcdicfcepfhaaDoorKA
import Derived.Test.YthfcdicfcepfhaaDoorKS
import Derived.Test.YthfcdicfcepfhaaDoorH1
import Derived.Test.YthfcdicfcepfhaaDoorGA
namespace Go.Proofs.YthfcdicfcepfhaaDoor.Sh
open Go.RowKit
noncomputable def laws_FnExactMakeOp (aALog : (List Op)) (aAOffice : Int) (aAKey : ByteArray) (aAText : ByteArray) : Option (Bool) :=
  (bif (decide ((aAKey.size : Int) > 1048576)) then some true else (bif (decide ((aAText.size : Int) > 1048576)) then some true else ((laws_szOpS aALog 1048576).bind fun x1 => (bif (decide (x1 < 0)) then some true else ((laws_toOpS aALog).bind fun x2 => ((spec_MakeOp x2 aAOffice aAKey aAText).bind fun x3 => ((laws_toOpS aALog).bind fun x4 => ((impl_MakeOp x4 aAOffice aAKey aAText).bind fun x5 => ((((laws_eqOpS x5.1 x3.1).bind fun x6 => (bif (!x6) then some true else some (x5.2 != x3.2)))).bind fun (j7 : Bool) => (bif j7 then some false else ((laws_toOpS aALog).bind fun x9 => ((laws_eqOpS x4 x9).bind fun x10 => (bif (!x10) then some false else ((laws_markOpS x4 1).bind fun x11 => (((bif (decide (x11.1 < 0)) then some true else ((laws_eqOpS x5.1 x3.1).bind fun x12 => (bif (!x12) then some true else some (x5.2 != x3.2))))).bind fun (j13 : Bool) => (bif j13 then some false else ((laws_markOpS x5.1 1).bind fun x15 => ((laws_heldOpS x15.2 1).bind fun x16 => (bif (decide (x16 < 0)) then some false else (bif (x16 != x15.1) then some false else ((laws_toOpS aALog).bind fun x17 => ((impl_MakeOp x17 aAOffice aAKey aAText).bind fun x18 => ((((laws_eqOpS x18.1 x3.1).bind fun x19 => (bif (!x19) then some true else some (x18.2 != x3.2)))).bind fun (j20 : Bool) => (bif j20 then some false else ((laws_heldOpS x15.2 1).bind fun x22 => (bif (decide (x22 < 0)) then some false else (bif (x22 != x15.1) then some false else some true)))))))))))))))))))))))))))
set_option maxRecDepth 100000 in
set_option maxHeartbeats 4000000 in
theorem laws_FnExactMakeOp_run (aALog : (List Op)) (aAOffice : Int) (aAKey : ByteArray) (aAText : ByteArray) (r : Bool) (h : laws_FnExactMakeOp aALog aAOffice aAKey aAText = some r) : SCall Tryd.prog 9 [.v (vl eOp aALog), .v (vi aAOffice), .v (vs aAKey), .v (vs aAText)] ⟨[.v (vb r)], [], false⟩ := by
  refine scall_in Tryd.func9 rfl [(.tmp 8)] rfl (fun r => ⟨[.v (vb r)], [], false⟩) (r := r) ?_
  unfold laws_FnExactMakeOp at h
  refine swp_seq ?_
  refine swp_reg ?_
  refine SRun.ck tbokGB 1 ⟨117, [(0, vl eOp aALog), (1, vi aAOffice), (2, vs aAKey), (3, vs aAText)], []⟩ ?_
  refine SRun.nil ?_
  refine nx_n ?_
  refine swp_seq ?_
  refine swp_seq ?_
  refine swp_reg ?_
  refine SRun.ck tbokGB 3 ⟨117, [(0, vl eOp aALog), (1, vi aAOffice), (2, vs aAKey), (3, vs aAText), (22, vb (decide ((aAKey.size : Int) > 1048576)))], []⟩ ?_
  refine SRun.nil ?_
  refine nx_n ?_
  refine swp_cond (b := (decide ((aAKey.size : Int) > 1048576))) (by kernel_rfl) (fun hb => ?_) (fun hb => ?_)
  replace h := cond_t hb h
  refine swp_seq ?_
  refine swp_reg ?_
  refine SRun.ck tbokGB 1 ⟨117, [(8, vb true)], []⟩ ?_
  refine SRun.nil ?_
  refine nx_n ?_
  refine swp_ret ?_
  replace h := Option.some.inj h
  subst h
  exact nx_r (q_fr (fin1 (by kernel_rfl) (finV rfl SV.flat_of (holds_t (by kernel_rfl)))))
  replace h := cond_f hb h
  refine swp_skip ?_
  refine nx_n ?_
  refine swp_seq ?_
  refine swp_seq ?_
  refine swp_reg ?_
  refine SRun.ck tbokGB 3 ⟨117, [(0, vl eOp aALog), (1, vi aAOffice), (2, vs aAKey), (3, vs aAText), (25, vb (decide ((aAText.size : Int) > 1048576)))], []⟩ ?_
  refine SRun.nil ?_
  refine nx_n ?_
  refine swp_cond (b := (decide ((aAText.size : Int) > 1048576))) (by kernel_rfl) (fun hb => ?_) (fun hb => ?_)
  replace h := cond_t hb h
  refine swp_seq ?_
  refine swp_reg ?_
  refine SRun.ck tbokGB 1 ⟨117, [(8, vb true)], []⟩ ?_
  refine SRun.nil ?_
  refine nx_n ?_
  refine swp_ret ?_
  replace h := Option.some.inj h
  subst h
  exact nx_r (q_fr (fin1 (by kernel_rfl) (finV rfl SV.flat_of (holds_t (by kernel_rfl)))))
  replace h := cond_f hb h
  refine swp_skip ?_
  refine nx_n ?_
  refine swp_seq ?_
  refine swp_reg ?_
  refine SRun.ck tbokGB 1 ⟨117, [(0, vl eOp aALog), (1, vi aAOffice), (2, vs aAKey), (3, vs aAText), (9, vi 1048576)], []⟩ ?_
  refine SRun.nil ?_
  refine nx_n ?_
  refine swp_seq ?_
  refine swp_reg ?_
  refine SRun.ck tbokGB 2 ⟨117, [(0, vl eOp aALog), (1, vi aAOffice), (2, vs aAKey), (3, vs aAText), (26, vl eOp aALog), (27, vi 1048576)], []⟩ ?_
  obtain ⟨x1, hx1, h⟩ := bind_some h
  refine SRun.ls (x_lstep_call (f := 12) (caps := []) (xs := [vl eOp aALog, vi 1048576]) (ys := [vl eOp aALog, vi 1048576]) (res := ⟨[.v (vi x1)], [], false⟩) (x := vi x1) (y := none) rfl ents12 (laws_szOpS_run aALog 1048576 _ hx1) rfl (by intro hc; cases hc)) ?_
  refine SRun.ck tbokGB 1 ⟨117, [(0, vl eOp aALog), (1, vi aAOffice), (2, vs aAKey), (3, vs aAText), (9, vi x1)], []⟩ ?_
  refine SRun.nil ?_
  refine nx_n ?_
  refine swp_seq ?_
  refine swp_seq ?_
  refine swp_reg ?_
  refine SRun.ck tbokGB 2 ⟨117, [(0, vl eOp aALog), (1, vi aAOffice), (2, vs aAKey), (3, vs aAText), (30, vb (decide (x1 < 0)))], []⟩ ?_
  refine SRun.nil ?_
  refine nx_n ?_
  refine swp_cond (b := (decide (x1 < 0))) (by kernel_rfl) (fun hb => ?_) (fun hb => ?_)
  replace h := cond_t hb h
  refine swp_seq ?_
  refine swp_reg ?_
  refine SRun.ck tbokGB 1 ⟨117, [(8, vb true)], []⟩ ?_
  refine SRun.nil ?_
  refine nx_n ?_
  refine swp_ret ?_
  replace h := Option.some.inj h
  subst h
  exact nx_r (q_fr (fin1 (by kernel_rfl) (finV rfl SV.flat_of (holds_t (by kernel_rfl)))))
  replace h := cond_f hb h
  refine swp_skip ?_
  refine nx_n ?_
  refine swp_seq ?_
  refine swp_reg ?_
  refine SRun.ck tbokGB 1 ⟨117, [(0, vl eOp aALog), (1, vi aAOffice), (2, vs aAKey), (3, vs aAText), (32, vl eOp aALog)], []⟩ ?_
  obtain ⟨x2, hx2, h⟩ := bind_some h
  refine SRun.ls (x_lstep_call (f := 14) (caps := []) (xs := [vl eOp aALog]) (ys := [vl eOp aALog]) (res := ⟨[.deep 61 5 x2.length [.flat, .flat, .flat, .flat, (.sl 2 1 [.flat])] (x2.map eOp)], [], false⟩) (x := .own 33) (y := some (.deep 61 5 x2.length [.flat, .flat, .flat, .flat, (.sl 2 1 [.flat])] (x2.map eOp))) rfl ents14 (laws_toOpS_run aALog _ hx2) rfl (by intro hc; cases hc)) ?_
  refine SRun.ck tbokGB 3 ⟨117, [(0, vl eOp aALog), (1, vi aAOffice), (2, vs aAKey), (3, vs aAText), (33, .own 33), (34, vi aAOffice), (35, vs aAKey), (36, vs aAText)], [(33, .deep 61 5 x2.length [.flat, .flat, .flat, .flat, (.sl 2 1 [.flat])] (x2.map eOp))]⟩ ?_
  obtain ⟨x3, hx3, h⟩ := bind_some h
  refine SRun.ls (x_lstep_call (f := 32) (caps := []) (xs := [.own 33, vi aAOffice, vs aAKey, vs aAText]) (ys := [vl eOp x2, vi aAOffice, vs aAKey, vs aAText]) (res := ⟨[.deep 61 5 x3.1.length [.flat, .flat, .flat, .flat, (.sl 2 1 [.flat])] (x3.1.map eOp), .v (vi x3.2)], [], false⟩) (x := .tup [.own 37, vi x3.2]) (y := some (.deep 61 5 x3.1.length [.flat, .flat, .flat, .flat, (.sl 2 1 [.flat])] (x3.1.map eOp))) rfl ents32 (spec_MakeOp_run x2 aAOffice aAKey aAText _ hx3) rfl (by intro hc; cases hc)) ?_
  refine SRun.ck tbokGB 5 ⟨117, [(0, vl eOp aALog), (1, vi aAOffice), (2, vs aAKey), (3, vs aAText), (10, .own 37), (11, vi x3.2)], [(37, .deep 61 5 x3.1.length [.flat, .flat, .flat, .flat, (.sl 2 1 [.flat])] (x3.1.map eOp))]⟩ ?_
  refine SRun.nil ?_
  refine nx_n ?_
  refine swp_seq ?_
  refine swp_reg ?_
  refine SRun.ck tbokGB 1 ⟨117, [(0, vl eOp aALog), (1, vi aAOffice), (2, vs aAKey), (3, vs aAText), (10, .own 37), (11, vi x3.2), (40, vl eOp aALog)], [(37, .deep 61 5 x3.1.length [.flat, .flat, .flat, .flat, (.sl 2 1 [.flat])] (x3.1.map eOp))]⟩ ?_
  obtain ⟨x4, hx4, h⟩ := bind_some h
  refine SRun.ls (x_lstep_call (f := 14) (caps := []) (xs := [vl eOp aALog]) (ys := [vl eOp aALog]) (res := ⟨[.deep 61 5 x4.length [.flat, .flat, .flat, .flat, (.sl 2 1 [.flat])] (x4.map eOp)], [], false⟩) (x := .own 41) (y := some (.deep 61 5 x4.length [.flat, .flat, .flat, .flat, (.sl 2 1 [.flat])] (x4.map eOp))) rfl ents14 (laws_toOpS_run aALog _ hx4) rfl (by intro hc; cases hc)) ?_
  refine SRun.ck tbokGB 1 ⟨117, [(0, vl eOp aALog), (1, vi aAOffice), (2, vs aAKey), (3, vs aAText), (10, .own 37), (11, vi x3.2), (12, .own 41)], [(37, .deep 61 5 x3.1.length [.flat, .flat, .flat, .flat, (.sl 2 1 [.flat])] (x3.1.map eOp)), (41, .deep 61 5 x4.length [.flat, .flat, .flat, .flat, (.sl 2 1 [.flat])] (x4.map eOp))]⟩ ?_
  refine SRun.nil ?_
  refine nx_n ?_
  refine swp_seq ?_
  refine swp_reg ?_
  refine SRun.ck tbokGB 4 ⟨117, [(0, vl eOp aALog), (1, vi aAOffice), (2, vs aAKey), (3, vs aAText), (10, .own 37), (11, vi x3.2), (12, .own 41), (43, .own 41), (44, vi aAOffice), (45, vs aAKey), (46, vs aAText)], [(37, .deep 61 5 x3.1.length [.flat, .flat, .flat, .flat, (.sl 2 1 [.flat])] (x3.1.map eOp)), (41, .deep 61 5 x4.length [.flat, .flat, .flat, .flat, (.sl 2 1 [.flat])] (x4.map eOp))]⟩ ?_
  obtain ⟨x5, hx5, h⟩ := bind_some h
  refine SRun.ls (x_lstep_call (f := 33) (caps := []) (xs := [.own 41, vi aAOffice, vs aAKey, vs aAText]) (ys := [vl eOp x4, vi aAOffice, vs aAKey, vs aAText]) (res := ⟨[.deep 61 5 x5.1.length [.flat, .flat, .flat, .flat, (.sl 2 1 [.flat])] (x5.1.map eOp), .v (vi x5.2)], [], false⟩) (x := .tup [.own 47, vi x5.2]) (y := some (.deep 61 5 x5.1.length [.flat, .flat, .flat, .flat, (.sl 2 1 [.flat])] (x5.1.map eOp))) rfl ents33 (impl_MakeOp_run x4 aAOffice aAKey aAText _ hx5) rfl (by intro hc; cases hc)) ?_
  refine SRun.ck tbokGB 5 ⟨117, [(0, vl eOp aALog), (1, vi aAOffice), (2, vs aAKey), (3, vs aAText), (10, .own 37), (11, vi x3.2), (12, .own 41), (13, .own 47), (14, vi x5.2)], [(37, .deep 61 5 x3.1.length [.flat, .flat, .flat, .flat, (.sl 2 1 [.flat])] (x3.1.map eOp)), (41, .deep 61 5 x4.length [.flat, .flat, .flat, .flat, (.sl 2 1 [.flat])] (x4.map eOp)), (47, .deep 61 5 x5.1.length [.flat, .flat, .flat, .flat, (.sl 2 1 [.flat])] (x5.1.map eOp))]⟩ ?_
  refine SRun.nil ?_
  refine nx_n ?_
  refine swp_seq ?_
  refine swp_seq ?_
  refine swp_regJ h (fun j7 => ⟨117, [(0, vl eOp aALog), (1, vi aAOffice), (2, vs aAKey), (3, vs aAText), (10, .own 10), (11, vi x3.2), (12, .own 12), (13, .own 13), (14, vi x5.2), (58, vb j7)], [(10, .deep 61 5 x3.1.length [.flat, .flat, .flat, .flat, (.sl 2 1 [.flat])] (x3.1.map eOp)), (12, .deep 61 5 x4.length [.flat, .flat, .flat, .flat, (.sl 2 1 [.flat])] (x4.map eOp)), (13, .deep 61 5 x5.1.length [.flat, .flat, .flat, .flat, (.sl 2 1 [.flat])] (x5.1.map eOp))]⟩) (fun v8 h => ?_) (fun j7 h => ?_)
  refine SRun.ck tbokGB 2 ⟨117, [(0, vl eOp aALog), (1, vi aAOffice), (2, vs aAKey), (3, vs aAText), (10, .own 37), (11, vi x3.2), (12, .own 41), (13, .own 47), (14, vi x5.2), (50, .own 47), (51, .own 37)], [(37, .deep 61 5 x3.1.length [.flat, .flat, .flat, .flat, (.sl 2 1 [.flat])] (x3.1.map eOp)), (41, .deep 61 5 x4.length [.flat, .flat, .flat, .flat, (.sl 2 1 [.flat])] (x4.map eOp)), (47, .deep 61 5 x5.1.length [.flat, .flat, .flat, .flat, (.sl 2 1 [.flat])] (x5.1.map eOp))]⟩ ?_
  obtain ⟨x6, hx6, h⟩ := bind_some h
  refine SRun.ls (x_lstep_call (f := 16) (caps := []) (xs := [.own 47, .own 37]) (ys := [vl eOp x5.1, vl eOp x3.1]) (res := ⟨[.v (vb x6)], [], false⟩) (x := vb x6) (y := none) rfl ents16 (laws_eqOpS_run x5.1 x3.1 _ hx6) rfl (by intro hc; cases hc)) ?_
  refine SRun.ck tbokGB 2 ⟨117, [(0, vl eOp aALog), (1, vi aAOffice), (2, vs aAKey), (3, vs aAText), (10, .own 37), (11, vi x3.2), (12, .own 41), (13, .own 47), (14, vi x5.2), (54, vb (!x6))], [(37, .deep 61 5 x3.1.length [.flat, .flat, .flat, .flat, (.sl 2 1 [.flat])] (x3.1.map eOp)), (41, .deep 61 5 x4.length [.flat, .flat, .flat, .flat, (.sl 2 1 [.flat])] (x4.map eOp)), (47, .deep 61 5 x5.1.length [.flat, .flat, .flat, .flat, (.sl 2 1 [.flat])] (x5.1.map eOp))]⟩ ?_
  refine SRun.cut [(54, fun b => b)] (b := (!x6)) (by kernel_rfl) (fun hb => ?_) (fun hb => ?_)
  replace h := cond_t hb h
  refine SRun.ck tbokGB 4 ⟨117, [(0, vl eOp aALog), (1, vi aAOffice), (2, vs aAKey), (3, vs aAText), (10, .own 37), (11, vi x3.2), (12, .own 41), (13, .own 47), (14, vi x5.2), (58, vb true)], [(37, .deep 61 5 x3.1.length [.flat, .flat, .flat, .flat, (.sl 2 1 [.flat])] (x3.1.map eOp)), (41, .deep 61 5 x4.length [.flat, .flat, .flat, .flat, (.sl 2 1 [.flat])] (x4.map eOp)), (47, .deep 61 5 x5.1.length [.flat, .flat, .flat, .flat, (.sl 2 1 [.flat])] (x5.1.map eOp))]⟩ ?_
  refine SRun.nil ?_
  replace h := Option.some.inj h
  subst h
  exact (Le.sub' ([(0, vl eOp aALog), (1, vi aAOffice), (2, vs aAKey), (3, vs aAText), (10, .own 37), (11, vi x3.2), (12, .own 41), (13, .own 47), (14, vi x5.2), (58, vb true)] : List (Nat × SV)) ([(37, .deep 61 5 x3.1.length [.flat, .flat, .flat, .flat, (.sl 2 1 [.flat])] (x3.1.map eOp)), (41, .deep 61 5 x4.length [.flat, .flat, .flat, .flat, (.sl 2 1 [.flat])] (x4.map eOp)), (47, .deep 61 5 x5.1.length [.flat, .flat, .flat, .flat, (.sl 2 1 [.flat])] (x5.1.map eOp))] : List (Nat × SO)) (by kernel_rfl) (by kernel_rfl)).trans ((Le.ren' (d := 37) (e := 10) (by kernel_rfl) (by kernel_rfl) (by kernel_rfl)).trans ((Le.ren' (d := 41) (e := 12) (by kernel_rfl) (by kernel_rfl) (by kernel_rfl)).trans ((Le.ren' (d := 47) (e := 13) (by kernel_rfl) (by kernel_rfl) (by kernel_rfl)).trans (Le.sub0))))
  replace h := cond_f hb h
  refine SRun.ck tbokGB 4 ⟨117, [(0, vl eOp aALog), (1, vi aAOffice), (2, vs aAKey), (3, vs aAText), (10, .own 37), (11, vi x3.2), (12, .own 41), (13, .own 47), (14, vi x5.2), (58, vb (x5.2 != x3.2))], [(37, .deep 61 5 x3.1.length [.flat, .flat, .flat, .flat, (.sl 2 1 [.flat])] (x3.1.map eOp)), (41, .deep 61 5 x4.length [.flat, .flat, .flat, .flat, (.sl 2 1 [.flat])] (x4.map eOp)), (47, .deep 61 5 x5.1.length [.flat, .flat, .flat, .flat, (.sl 2 1 [.flat])] (x5.1.map eOp))]⟩ ?_
  refine SRun.nil ?_
  replace h := Option.some.inj h
  subst h
  exact (Le.sub' ([(0, vl eOp aALog), (1, vi aAOffice), (2, vs aAKey), (3, vs aAText), (10, .own 37), (11, vi x3.2), (12, .own 41), (13, .own 47), (14, vi x5.2), (58, vb (x5.2 != x3.2))] : List (Nat × SV)) ([(37, .deep 61 5 x3.1.length [.flat, .flat, .flat, .flat, (.sl 2 1 [.flat])] (x3.1.map eOp)), (41, .deep 61 5 x4.length [.flat, .flat, .flat, .flat, (.sl 2 1 [.flat])] (x4.map eOp)), (47, .deep 61 5 x5.1.length [.flat, .flat, .flat, .flat, (.sl 2 1 [.flat])] (x5.1.map eOp))] : List (Nat × SO)) (by kernel_rfl) (by kernel_rfl)).trans ((Le.ren' (d := 37) (e := 10) (by kernel_rfl) (by kernel_rfl) (by kernel_rfl)).trans ((Le.ren' (d := 41) (e := 12) (by kernel_rfl) (by kernel_rfl) (by kernel_rfl)).trans ((Le.ren' (d := 47) (e := 13) (by kernel_rfl) (by kernel_rfl) (by kernel_rfl)).trans (Le.sub0))))
  refine swp_cond (b := j7) (by kernel_rfl) (fun hb => ?_) (fun hb => ?_)
  replace h := cond_t hb h
  refine swp_seq ?_
  refine swp_reg ?_
  refine SRun.ck tbokGB 1 ⟨117, [(8, vb false)], []⟩ ?_
  refine SRun.nil ?_
  refine nx_n ?_
  refine swp_ret ?_
  replace h := Option.some.inj h
  subst h
  exact nx_r (q_fr (fin1 (by kernel_rfl) (finV rfl SV.flat_of (holds_t (by kernel_rfl)))))
  replace h := cond_f hb h
  refine swp_skip ?_
  refine nx_n ?_
  refine swp_seq ?_
  refine swp_seq ?_
  refine swp_reg ?_
  refine SRun.ck tbokGB 2 ⟨117, [(0, vl eOp aALog), (1, vi aAOffice), (2, vs aAKey), (3, vs aAText), (10, .own 10), (11, vi x3.2), (12, .own 12), (13, .own 13), (14, vi x5.2), (59, .own 12), (60, vl eOp aALog)], [(10, .deep 61 5 x3.1.length [.flat, .flat, .flat, .flat, (.sl 2 1 [.flat])] (x3.1.map eOp)), (12, .deep 61 5 x4.length [.flat, .flat, .flat, .flat, (.sl 2 1 [.flat])] (x4.map eOp)), (13, .deep 61 5 x5.1.length [.flat, .flat, .flat, .flat, (.sl 2 1 [.flat])] (x5.1.map eOp))]⟩ ?_
  obtain ⟨x9, hx9, h⟩ := bind_some h
  refine SRun.ls (x_lstep_call (f := 14) (caps := []) (xs := [vl eOp aALog]) (ys := [vl eOp aALog]) (res := ⟨[.deep 61 5 x9.length [.flat, .flat, .flat, .flat, (.sl 2 1 [.flat])] (x9.map eOp)], [], false⟩) (x := .own 61) (y := some (.deep 61 5 x9.length [.flat, .flat, .flat, .flat, (.sl 2 1 [.flat])] (x9.map eOp))) rfl ents14 (laws_toOpS_run aALog _ hx9) rfl (by intro hc; cases hc)) ?_
  obtain ⟨x10, hx10, h⟩ := bind_some h
  refine SRun.ls (x_lstep_call (f := 16) (caps := []) (xs := [.own 12, .own 61]) (ys := [vl eOp x4, vl eOp x9]) (res := ⟨[.v (vb x10)], [], false⟩) (x := vb x10) (y := none) rfl ents16 (laws_eqOpS_run x4 x9 _ hx10) rfl (by intro hc; cases hc)) ?_
  refine SRun.ck tbokGB 1 ⟨117, [(0, vl eOp aALog), (1, vi aAOffice), (2, vs aAKey), (3, vs aAText), (10, .own 10), (11, vi x3.2), (12, .own 12), (13, .own 13), (14, vi x5.2), (63, vb (!x10))], [(10, .deep 61 5 x3.1.length [.flat, .flat, .flat, .flat, (.sl 2 1 [.flat])] (x3.1.map eOp)), (12, .deep 61 5 x4.length [.flat, .flat, .flat, .flat, (.sl 2 1 [.flat])] (x4.map eOp)), (13, .deep 61 5 x5.1.length [.flat, .flat, .flat, .flat, (.sl 2 1 [.flat])] (x5.1.map eOp))]⟩ ?_
  refine SRun.nil ?_
  refine nx_n ?_
  refine swp_cond (b := (!x10)) (by kernel_rfl) (fun hb => ?_) (fun hb => ?_)
  replace h := cond_t hb h
  refine swp_seq ?_
  refine swp_reg ?_
  refine SRun.ck tbokGB 1 ⟨117, [(8, vb false)], []⟩ ?_
  refine SRun.nil ?_
  refine nx_n ?_
  refine swp_ret ?_
  replace h := Option.some.inj h
  subst h
  exact nx_r (q_fr (fin1 (by kernel_rfl) (finV rfl SV.flat_of (holds_t (by kernel_rfl)))))
  replace h := cond_f hb h
  refine swp_skip ?_
  refine nx_n ?_
  refine swp_seq ?_
  refine swp_reg ?_
  refine SRun.ck tbokGB 1 ⟨117, [(0, vl eOp aALog), (1, vi aAOffice), (2, vs aAKey), (3, vs aAText), (10, .own 10), (11, vi x3.2), (12, .own 12), (13, .own 13), (14, vi x5.2), (15, vi 1)], [(10, .deep 61 5 x3.1.length [.flat, .flat, .flat, .flat, (.sl 2 1 [.flat])] (x3.1.map eOp)), (12, .deep 61 5 x4.length [.flat, .flat, .flat, .flat, (.sl 2 1 [.flat])] (x4.map eOp)), (13, .deep 61 5 x5.1.length [.flat, .flat, .flat, .flat, (.sl 2 1 [.flat])] (x5.1.map eOp))]⟩ ?_
  refine SRun.nil ?_
  refine nx_n ?_
  refine swp_seq ?_
  refine swp_reg ?_
  refine SRun.ck tbokGB 2 ⟨117, [(0, vl eOp aALog), (1, vi aAOffice), (2, vs aAKey), (3, vs aAText), (10, .own 10), (11, vi x3.2), (13, .own 13), (14, vi x5.2), (64, .own 12), (65, vi 1)], [(10, .deep 61 5 x3.1.length [.flat, .flat, .flat, .flat, (.sl 2 1 [.flat])] (x3.1.map eOp)), (12, .deep 61 5 x4.length [.flat, .flat, .flat, .flat, (.sl 2 1 [.flat])] (x4.map eOp)), (13, .deep 61 5 x5.1.length [.flat, .flat, .flat, .flat, (.sl 2 1 [.flat])] (x5.1.map eOp))]⟩ ?_
  obtain ⟨x11, hx11, h⟩ := bind_some h
  refine SRun.estep (x_estep_call (f := 22) (caps := []) (xs := [.own 12, vi 1]) (pre := []) (post := [vi 1]) (qs := [vi 1]) (z := .own 12) (d := 12) (pl := 0) (y := .deep 61 5 x4.length [.flat, .flat, .flat, .flat, (.sl 2 1 [.flat])] (x4.map eOp)) (y' := .deep 61 5 x11.2.length [.flat, .flat, .flat, .flat, (.sl 2 1 [.flat])] (x11.2.map eOp)) (res := ⟨[.v (vi x11.1)], [(0, .deep 61 5 x11.2.length [.flat, .flat, .flat, .flat, (.sl 2 1 [.flat])] (x11.2.map eOp))], false⟩) (x := vi x11.1) (yo := none) rfl rfl rfl rfl rfl ents22 (laws_markOpS_run x4 1 _ hx11) rfl rfl false (fun _ => rfl) (by intro hc; cases hc)) ?_
  refine SRun.ck tbokGB 1 ⟨117, [(0, vl eOp aALog), (1, vi aAOffice), (2, vs aAKey), (3, vs aAText), (10, .own 10), (11, vi x3.2), (13, .own 13), (14, vi x5.2), (15, vi x11.1)], [(10, .deep 61 5 x3.1.length [.flat, .flat, .flat, .flat, (.sl 2 1 [.flat])] (x3.1.map eOp)), (13, .deep 61 5 x5.1.length [.flat, .flat, .flat, .flat, (.sl 2 1 [.flat])] (x5.1.map eOp))]⟩ ?_
  refine SRun.nil ?_
  refine nx_n ?_
  refine swp_seq ?_
  refine swp_seq ?_
  refine swp_regJ h (fun j13 => ⟨117, [(0, vl eOp aALog), (1, vi aAOffice), (2, vs aAKey), (3, vs aAText), (10, .own 10), (11, vi x3.2), (13, .own 13), (79, vb j13)], [(10, .deep 61 5 x3.1.length [.flat, .flat, .flat, .flat, (.sl 2 1 [.flat])] (x3.1.map eOp)), (13, .deep 61 5 x5.1.length [.flat, .flat, .flat, .flat, (.sl 2 1 [.flat])] (x5.1.map eOp))]⟩) (fun v14 h => ?_) (fun j13 h => ?_)
  refine SRun.ck tbokGB 3 ⟨117, [(0, vl eOp aALog), (1, vi aAOffice), (2, vs aAKey), (3, vs aAText), (10, .own 10), (11, vi x3.2), (13, .own 13), (14, vi x5.2), (69, vb (decide (x11.1 < 0)))], [(10, .deep 61 5 x3.1.length [.flat, .flat, .flat, .flat, (.sl 2 1 [.flat])] (x3.1.map eOp)), (13, .deep 61 5 x5.1.length [.flat, .flat, .flat, .flat, (.sl 2 1 [.flat])] (x5.1.map eOp))]⟩ ?_
  refine SRun.cut [(69, fun b => b)] (b := (decide (x11.1 < 0))) (by kernel_rfl) (fun hb => ?_) (fun hb => ?_)
  replace h := cond_t hb h
  refine SRun.ck tbokGB 10 ⟨117, [(0, vl eOp aALog), (1, vi aAOffice), (2, vs aAKey), (3, vs aAText), (10, .own 10), (11, vi x3.2), (13, .own 13), (79, vb true)], [(10, .deep 61 5 x3.1.length [.flat, .flat, .flat, .flat, (.sl 2 1 [.flat])] (x3.1.map eOp)), (13, .deep 61 5 x5.1.length [.flat, .flat, .flat, .flat, (.sl 2 1 [.flat])] (x5.1.map eOp))]⟩ ?_
  refine SRun.nil ?_
  replace h := Option.some.inj h
  subst h
  exact Le.sub0
  replace h := cond_f hb h
  refine SRun.ck tbokGB 2 ⟨117, [(0, vl eOp aALog), (1, vi aAOffice), (2, vs aAKey), (3, vs aAText), (10, .own 10), (11, vi x3.2), (13, .own 13), (14, vi x5.2), (69, vb false), (70, .own 13), (71, .own 10)], [(10, .deep 61 5 x3.1.length [.flat, .flat, .flat, .flat, (.sl 2 1 [.flat])] (x3.1.map eOp)), (13, .deep 61 5 x5.1.length [.flat, .flat, .flat, .flat, (.sl 2 1 [.flat])] (x5.1.map eOp))]⟩ ?_
  obtain ⟨x12, hx12, h⟩ := bind_some h
  refine SRun.ls (x_lstep_call (f := 16) (caps := []) (xs := [.own 13, .own 10]) (ys := [vl eOp x5.1, vl eOp x3.1]) (res := ⟨[.v (vb x12)], [], false⟩) (x := vb x12) (y := none) rfl ents16 (laws_eqOpS_run x5.1 x3.1 _ hx12) rfl (by intro hc; cases hc)) ?_
  refine SRun.ck tbokGB 3 ⟨117, [(0, vl eOp aALog), (1, vi aAOffice), (2, vs aAKey), (3, vs aAText), (10, .own 10), (11, vi x3.2), (13, .own 13), (14, vi x5.2), (75, vb (!x12))], [(10, .deep 61 5 x3.1.length [.flat, .flat, .flat, .flat, (.sl 2 1 [.flat])] (x3.1.map eOp)), (13, .deep 61 5 x5.1.length [.flat, .flat, .flat, .flat, (.sl 2 1 [.flat])] (x5.1.map eOp))]⟩ ?_
  refine SRun.cut [(75, fun b => b)] (b := (!x12)) (by kernel_rfl) (fun hb => ?_) (fun hb => ?_)
  replace h := cond_t hb h
  refine SRun.ck tbokGB 4 ⟨117, [(0, vl eOp aALog), (1, vi aAOffice), (2, vs aAKey), (3, vs aAText), (10, .own 10), (11, vi x3.2), (13, .own 13), (79, vb true)], [(10, .deep 61 5 x3.1.length [.flat, .flat, .flat, .flat, (.sl 2 1 [.flat])] (x3.1.map eOp)), (13, .deep 61 5 x5.1.length [.flat, .flat, .flat, .flat, (.sl 2 1 [.flat])] (x5.1.map eOp))]⟩ ?_
  refine SRun.nil ?_
  replace h := Option.some.inj h
  subst h
  exact Le.sub0
  replace h := cond_f hb h
  refine SRun.ck tbokGB 4 ⟨117, [(0, vl eOp aALog), (1, vi aAOffice), (2, vs aAKey), (3, vs aAText), (10, .own 10), (11, vi x3.2), (13, .own 13), (79, vb (x5.2 != x3.2))], [(10, .deep 61 5 x3.1.length [.flat, .flat, .flat, .flat, (.sl 2 1 [.flat])] (x3.1.map eOp)), (13, .deep 61 5 x5.1.length [.flat, .flat, .flat, .flat, (.sl 2 1 [.flat])] (x5.1.map eOp))]⟩ ?_
  refine SRun.nil ?_
  replace h := Option.some.inj h
  subst h
  exact Le.sub0
  refine swp_cond (b := j13) (by kernel_rfl) (fun hb => ?_) (fun hb => ?_)
  replace h := cond_t hb h
  refine swp_seq ?_
  refine swp_reg ?_
  refine SRun.ck tbokGB 1 ⟨117, [(8, vb false)], []⟩ ?_
  refine SRun.nil ?_
  refine nx_n ?_
  refine swp_ret ?_
  replace h := Option.some.inj h
  subst h
  exact nx_r (q_fr (fin1 (by kernel_rfl) (finV rfl SV.flat_of (holds_t (by kernel_rfl)))))
  replace h := cond_f hb h
  refine swp_skip ?_
  refine nx_n ?_
  refine swp_seq ?_
  refine swp_reg ?_
  refine SRun.ck tbokGB 1 ⟨117, [(0, vl eOp aALog), (1, vi aAOffice), (2, vs aAKey), (3, vs aAText), (10, .own 10), (11, vi x3.2), (13, .own 13), (16, vi 1)], [(10, .deep 61 5 x3.1.length [.flat, .flat, .flat, .flat, (.sl 2 1 [.flat])] (x3.1.map eOp)), (13, .deep 61 5 x5.1.length [.flat, .flat, .flat, .flat, (.sl 2 1 [.flat])] (x5.1.map eOp))]⟩ ?_
  refine SRun.nil ?_
  refine nx_n ?_
  refine swp_seq ?_
  refine swp_reg ?_
  refine SRun.ck tbokGB 2 ⟨117, [(0, vl eOp aALog), (1, vi aAOffice), (2, vs aAKey), (3, vs aAText), (10, .own 10), (11, vi x3.2), (13, .own 13), (80, .own 13), (81, vi 1)], [(10, .deep 61 5 x3.1.length [.flat, .flat, .flat, .flat, (.sl 2 1 [.flat])] (x3.1.map eOp)), (13, .deep 61 5 x5.1.length [.flat, .flat, .flat, .flat, (.sl 2 1 [.flat])] (x5.1.map eOp))]⟩ ?_
  obtain ⟨x15, hx15, h⟩ := bind_some h
  refine SRun.estep (x_estep_call (f := 22) (caps := []) (xs := [.own 13, vi 1]) (pre := []) (post := [vi 1]) (qs := [vi 1]) (z := .own 13) (d := 13) (pl := 0) (y := .deep 61 5 x5.1.length [.flat, .flat, .flat, .flat, (.sl 2 1 [.flat])] (x5.1.map eOp)) (y' := .deep 61 5 x15.2.length [.flat, .flat, .flat, .flat, (.sl 2 1 [.flat])] (x15.2.map eOp)) (res := ⟨[.v (vi x15.1)], [(0, .deep 61 5 x15.2.length [.flat, .flat, .flat, .flat, (.sl 2 1 [.flat])] (x15.2.map eOp))], false⟩) (x := vi x15.1) (yo := none) rfl rfl rfl rfl rfl ents22 (laws_markOpS_run x5.1 1 _ hx15) rfl rfl false (fun _ => rfl) (by intro hc; cases hc)) ?_
  refine SRun.ck tbokGB 1 ⟨117, [(0, vl eOp aALog), (1, vi aAOffice), (2, vs aAKey), (3, vs aAText), (10, .own 10), (11, vi x3.2), (13, .own 13), (16, vi x15.1)], [(10, .deep 61 5 x3.1.length [.flat, .flat, .flat, .flat, (.sl 2 1 [.flat])] (x3.1.map eOp)), (13, .deep 61 5 x15.2.length [.flat, .flat, .flat, .flat, (.sl 2 1 [.flat])] (x15.2.map eOp))]⟩ ?_
  refine SRun.nil ?_
  refine nx_n ?_
  refine swp_seq ?_
  refine swp_reg ?_
  refine SRun.ck tbokGB 1 ⟨117, [(0, vl eOp aALog), (1, vi aAOffice), (2, vs aAKey), (3, vs aAText), (10, .own 10), (11, vi x3.2), (13, .own 13), (16, vi x15.1), (17, vi 1)], [(10, .deep 61 5 x3.1.length [.flat, .flat, .flat, .flat, (.sl 2 1 [.flat])] (x3.1.map eOp)), (13, .deep 61 5 x15.2.length [.flat, .flat, .flat, .flat, (.sl 2 1 [.flat])] (x15.2.map eOp))]⟩ ?_
  refine SRun.nil ?_
  refine nx_n ?_
  refine swp_seq ?_
  refine swp_reg ?_
  refine SRun.ck tbokGB 2 ⟨117, [(0, vl eOp aALog), (1, vi aAOffice), (2, vs aAKey), (3, vs aAText), (10, .own 10), (11, vi x3.2), (13, .own 13), (16, vi x15.1), (83, .own 13), (84, vi 1)], [(10, .deep 61 5 x3.1.length [.flat, .flat, .flat, .flat, (.sl 2 1 [.flat])] (x3.1.map eOp)), (13, .deep 61 5 x15.2.length [.flat, .flat, .flat, .flat, (.sl 2 1 [.flat])] (x15.2.map eOp))]⟩ ?_
  obtain ⟨x16, hx16, h⟩ := bind_some h
  refine SRun.ls (x_lstep_call (f := 34) (caps := []) (xs := [.own 13, vi 1]) (ys := [vl eOp x15.2, vi 1]) (res := ⟨[.v (vi x16)], [], false⟩) (x := vi x16) (y := none) rfl ents34 (laws_heldOpS_run x15.2 1 _ hx16) rfl (by intro hc; cases hc)) ?_
  refine SRun.ck tbokGB 1 ⟨117, [(0, vl eOp aALog), (1, vi aAOffice), (2, vs aAKey), (3, vs aAText), (10, .own 10), (11, vi x3.2), (13, .own 13), (16, vi x15.1), (17, vi x16)], [(10, .deep 61 5 x3.1.length [.flat, .flat, .flat, .flat, (.sl 2 1 [.flat])] (x3.1.map eOp)), (13, .deep 61 5 x15.2.length [.flat, .flat, .flat, .flat, (.sl 2 1 [.flat])] (x15.2.map eOp))]⟩ ?_
  refine SRun.nil ?_
  refine nx_n ?_
  refine swp_seq ?_
  refine swp_seq ?_
  refine swp_reg ?_
  refine SRun.ck tbokGB 2 ⟨117, [(0, vl eOp aALog), (1, vi aAOffice), (2, vs aAKey), (3, vs aAText), (10, .own 10), (11, vi x3.2), (13, .own 13), (16, vi x15.1), (17, vi x16), (87, vb (decide (x16 < 0)))], [(10, .deep 61 5 x3.1.length [.flat, .flat, .flat, .flat, (.sl 2 1 [.flat])] (x3.1.map eOp)), (13, .deep 61 5 x15.2.length [.flat, .flat, .flat, .flat, (.sl 2 1 [.flat])] (x15.2.map eOp))]⟩ ?_
  refine SRun.nil ?_
  refine nx_n ?_
  refine swp_cond (b := (decide (x16 < 0))) (by kernel_rfl) (fun hb => ?_) (fun hb => ?_)
  replace h := cond_t hb h
  refine swp_seq ?_
  refine swp_reg ?_
  refine SRun.ck tbokGB 1 ⟨117, [(8, vb false)], []⟩ ?_
  refine SRun.nil ?_
  refine nx_n ?_
  refine swp_ret ?_
  replace h := Option.some.inj h
  subst h
  exact nx_r (q_fr (fin1 (by kernel_rfl) (finV rfl SV.flat_of (holds_t (by kernel_rfl)))))
  replace h := cond_f hb h
  refine swp_skip ?_
  refine nx_n ?_
  refine swp_seq ?_
  refine swp_seq ?_
  refine swp_reg ?_
  refine SRun.ck tbokGB 3 ⟨117, [(0, vl eOp aALog), (1, vi aAOffice), (2, vs aAKey), (3, vs aAText), (10, .own 10), (11, vi x3.2), (13, .own 13), (16, vi x15.1), (90, vb (x16 != x15.1))], [(10, .deep 61 5 x3.1.length [.flat, .flat, .flat, .flat, (.sl 2 1 [.flat])] (x3.1.map eOp)), (13, .deep 61 5 x15.2.length [.flat, .flat, .flat, .flat, (.sl 2 1 [.flat])] (x15.2.map eOp))]⟩ ?_
  refine SRun.nil ?_
  refine nx_n ?_
  refine swp_cond (b := (x16 != x15.1)) (by kernel_rfl) (fun hb => ?_) (fun hb => ?_)
  replace h := cond_t hb h
  refine swp_seq ?_
  refine swp_reg ?_
  refine SRun.ck tbokGB 1 ⟨117, [(8, vb false)], []⟩ ?_
  refine SRun.nil ?_
  refine nx_n ?_
  refine swp_ret ?_
  replace h := Option.some.inj h
  subst h
  exact nx_r (q_fr (fin1 (by kernel_rfl) (finV rfl SV.flat_of (holds_t (by kernel_rfl)))))
  replace h := cond_f hb h
  refine swp_skip ?_
  refine nx_n ?_
  refine swp_seq ?_
  refine swp_reg ?_
  refine SRun.ck tbokGB 1 ⟨117, [(1, vi aAOffice), (2, vs aAKey), (3, vs aAText), (10, .own 10), (11, vi x3.2), (13, .own 13), (16, vi x15.1), (92, vl eOp aALog)], [(10, .deep 61 5 x3.1.length [.flat, .flat, .flat, .flat, (.sl 2 1 [.flat])] (x3.1.map eOp)), (13, .deep 61 5 x15.2.length [.flat, .flat, .flat, .flat, (.sl 2 1 [.flat])] (x15.2.map eOp))]⟩ ?_
  obtain ⟨x17, hx17, h⟩ := bind_some h
  refine SRun.ls (x_lstep_call (f := 14) (caps := []) (xs := [vl eOp aALog]) (ys := [vl eOp aALog]) (res := ⟨[.deep 61 5 x17.length [.flat, .flat, .flat, .flat, (.sl 2 1 [.flat])] (x17.map eOp)], [], false⟩) (x := .own 93) (y := some (.deep 61 5 x17.length [.flat, .flat, .flat, .flat, (.sl 2 1 [.flat])] (x17.map eOp))) rfl ents14 (laws_toOpS_run aALog _ hx17) rfl (by intro hc; cases hc)) ?_
  refine SRun.ck tbokGB 3 ⟨117, [(10, .own 10), (11, vi x3.2), (13, .own 13), (16, vi x15.1), (93, .own 93), (94, vi aAOffice), (95, vs aAKey), (96, vs aAText)], [(10, .deep 61 5 x3.1.length [.flat, .flat, .flat, .flat, (.sl 2 1 [.flat])] (x3.1.map eOp)), (13, .deep 61 5 x15.2.length [.flat, .flat, .flat, .flat, (.sl 2 1 [.flat])] (x15.2.map eOp)), (93, .deep 61 5 x17.length [.flat, .flat, .flat, .flat, (.sl 2 1 [.flat])] (x17.map eOp))]⟩ ?_
  obtain ⟨x18, hx18, h⟩ := bind_some h
  refine SRun.ls (x_lstep_call (f := 33) (caps := []) (xs := [.own 93, vi aAOffice, vs aAKey, vs aAText]) (ys := [vl eOp x17, vi aAOffice, vs aAKey, vs aAText]) (res := ⟨[.deep 61 5 x18.1.length [.flat, .flat, .flat, .flat, (.sl 2 1 [.flat])] (x18.1.map eOp), .v (vi x18.2)], [], false⟩) (x := .tup [.own 97, vi x18.2]) (y := some (.deep 61 5 x18.1.length [.flat, .flat, .flat, .flat, (.sl 2 1 [.flat])] (x18.1.map eOp))) rfl ents33 (impl_MakeOp_run x17 aAOffice aAKey aAText _ hx18) rfl (by intro hc; cases hc)) ?_
  refine SRun.ck tbokGB 5 ⟨117, [(10, .own 10), (11, vi x3.2), (13, .own 13), (16, vi x15.1), (18, .own 97), (19, vi x18.2)], [(10, .deep 61 5 x3.1.length [.flat, .flat, .flat, .flat, (.sl 2 1 [.flat])] (x3.1.map eOp)), (13, .deep 61 5 x15.2.length [.flat, .flat, .flat, .flat, (.sl 2 1 [.flat])] (x15.2.map eOp)), (97, .deep 61 5 x18.1.length [.flat, .flat, .flat, .flat, (.sl 2 1 [.flat])] (x18.1.map eOp))]⟩ ?_
  refine SRun.nil ?_
  refine nx_n ?_
  refine swp_seq ?_
  refine swp_seq ?_
  refine swp_regJ h (fun j20 => ⟨117, [(13, .own 13), (16, vi x15.1), (108, vb j20)], [(13, .deep 61 5 x15.2.length [.flat, .flat, .flat, .flat, (.sl 2 1 [.flat])] (x15.2.map eOp))]⟩) (fun v21 h => ?_) (fun j20 h => ?_)
  refine SRun.ck tbokGB 2 ⟨117, [(11, vi x3.2), (13, .own 13), (16, vi x15.1), (19, vi x18.2), (100, .own 97), (101, .own 10)], [(10, .deep 61 5 x3.1.length [.flat, .flat, .flat, .flat, (.sl 2 1 [.flat])] (x3.1.map eOp)), (13, .deep 61 5 x15.2.length [.flat, .flat, .flat, .flat, (.sl 2 1 [.flat])] (x15.2.map eOp)), (97, .deep 61 5 x18.1.length [.flat, .flat, .flat, .flat, (.sl 2 1 [.flat])] (x18.1.map eOp))]⟩ ?_
  obtain ⟨x19, hx19, h⟩ := bind_some h
  refine SRun.ls (x_lstep_call (f := 16) (caps := []) (xs := [.own 97, .own 10]) (ys := [vl eOp x18.1, vl eOp x3.1]) (res := ⟨[.v (vb x19)], [], false⟩) (x := vb x19) (y := none) rfl ents16 (laws_eqOpS_run x18.1 x3.1 _ hx19) rfl (by intro hc; cases hc)) ?_
  refine SRun.ck tbokGB 2 ⟨117, [(11, vi x3.2), (13, .own 13), (16, vi x15.1), (19, vi x18.2), (104, vb (!x19))], [(13, .deep 61 5 x15.2.length [.flat, .flat, .flat, .flat, (.sl 2 1 [.flat])] (x15.2.map eOp))]⟩ ?_
  refine SRun.cut [(104, fun b => b)] (b := (!x19)) (by kernel_rfl) (fun hb => ?_) (fun hb => ?_)
  replace h := cond_t hb h
  refine SRun.ck tbokGB 4 ⟨117, [(13, .own 13), (16, vi x15.1), (108, vb true)], [(13, .deep 61 5 x15.2.length [.flat, .flat, .flat, .flat, (.sl 2 1 [.flat])] (x15.2.map eOp))]⟩ ?_
  refine SRun.nil ?_
  replace h := Option.some.inj h
  subst h
  exact Le.sub0
  replace h := cond_f hb h
  refine SRun.ck tbokGB 4 ⟨117, [(13, .own 13), (16, vi x15.1), (108, vb (x18.2 != x3.2))], [(13, .deep 61 5 x15.2.length [.flat, .flat, .flat, .flat, (.sl 2 1 [.flat])] (x15.2.map eOp))]⟩ ?_
  refine SRun.nil ?_
  replace h := Option.some.inj h
  subst h
  exact Le.sub0
  refine swp_cond (b := j20) (by kernel_rfl) (fun hb => ?_) (fun hb => ?_)
  replace h := cond_t hb h
  refine swp_seq ?_
  refine swp_reg ?_
  refine SRun.ck tbokGB 1 ⟨117, [(8, vb false)], []⟩ ?_
  refine SRun.nil ?_
  refine nx_n ?_
  refine swp_ret ?_
  replace h := Option.some.inj h
  subst h
  exact nx_r (q_fr (fin1 (by kernel_rfl) (finV rfl SV.flat_of (holds_t (by kernel_rfl)))))
  replace h := cond_f hb h
  refine swp_skip ?_
  refine nx_n ?_
  refine swp_seq ?_
  refine swp_reg ?_
  refine SRun.ck tbokGB 1 ⟨117, [(13, .own 13), (16, vi x15.1), (17, vi 1)], [(13, .deep 61 5 x15.2.length [.flat, .flat, .flat, .flat, (.sl 2 1 [.flat])] (x15.2.map eOp))]⟩ ?_
  refine SRun.nil ?_
  refine nx_n ?_
  refine swp_seq ?_
  refine swp_reg ?_
  refine SRun.ck tbokGB 2 ⟨117, [(16, vi x15.1), (109, .own 13), (110, vi 1)], [(13, .deep 61 5 x15.2.length [.flat, .flat, .flat, .flat, (.sl 2 1 [.flat])] (x15.2.map eOp))]⟩ ?_
  obtain ⟨x22, hx22, h⟩ := bind_some h
  refine SRun.ls (x_lstep_call (f := 34) (caps := []) (xs := [.own 13, vi 1]) (ys := [vl eOp x15.2, vi 1]) (res := ⟨[.v (vi x22)], [], false⟩) (x := vi x22) (y := none) rfl ents34 (laws_heldOpS_run x15.2 1 _ hx22) rfl (by intro hc; cases hc)) ?_
  refine SRun.ck tbokGB 1 ⟨117, [(16, vi x15.1), (17, vi x22)], []⟩ ?_
  refine SRun.nil ?_
  refine nx_n ?_
  refine swp_seq ?_
  refine swp_seq ?_
  refine swp_reg ?_
  refine SRun.ck tbokGB 2 ⟨117, [(16, vi x15.1), (17, vi x22), (113, vb (decide (x22 < 0)))], []⟩ ?_
  refine SRun.nil ?_
  refine nx_n ?_
  refine swp_cond (b := (decide (x22 < 0))) (by kernel_rfl) (fun hb => ?_) (fun hb => ?_)
  replace h := cond_t hb h
  refine swp_seq ?_
  refine swp_reg ?_
  refine SRun.ck tbokGB 1 ⟨117, [(8, vb false)], []⟩ ?_
  refine SRun.nil ?_
  refine nx_n ?_
  refine swp_ret ?_
  replace h := Option.some.inj h
  subst h
  exact nx_r (q_fr (fin1 (by kernel_rfl) (finV rfl SV.flat_of (holds_t (by kernel_rfl)))))
  replace h := cond_f hb h
  refine swp_skip ?_
  refine nx_n ?_
  refine swp_seq ?_
  refine swp_seq ?_
  refine swp_reg ?_
  refine SRun.ck tbokGB 3 ⟨117, [(116, vb (x22 != x15.1))], []⟩ ?_
  refine SRun.nil ?_
  refine nx_n ?_
  refine swp_cond (b := (x22 != x15.1)) (by kernel_rfl) (fun hb => ?_) (fun hb => ?_)
  replace h := cond_t hb h
  refine swp_seq ?_
  refine swp_reg ?_
  refine SRun.ck tbokGB 1 ⟨117, [(8, vb false)], []⟩ ?_
  refine SRun.nil ?_
  refine nx_n ?_
  refine swp_ret ?_
  replace h := Option.some.inj h
  subst h
  exact nx_r (q_fr (fin1 (by kernel_rfl) (finV rfl SV.flat_of (holds_t (by kernel_rfl)))))
  replace h := cond_f hb h
  refine swp_skip ?_
  refine nx_n ?_
  refine swp_seq ?_
  refine swp_reg ?_
  refine SRun.ck tbokGB 1 ⟨117, [(8, vb true)], []⟩ ?_
  refine SRun.nil ?_
  refine nx_n ?_
  refine swp_ret ?_
  replace h := Option.some.inj h
  subst h
  exact q_fr (fin1 (by kernel_rfl) (finV rfl SV.flat_of (holds_t (by kernel_rfl))))
theorem ents9 : Ents Tryd.prog 9 := ents_of Tryd.func9 (by kernel_rfl) rfl
noncomputable def spec_l32Find (aLog : (List Op)) (aOffice : Int) (aNumber : Int) : Option (Int) :=
  (((forN (aLog.length : Int) (fun (i3 : Int) (_ : Unit) => ((((at' aLog i3).bind fun x7 => (bif (x7.Office == aOffice) then ((at' aLog i3).bind fun x8 => some (x8.Number == aNumber)) else some false))).bind fun (j9 : Bool) => (bif j9 then some (.inr (.inr i3)) else some (.inl ())))) (fun (_ : Unit) => .inl ()) 0 ())).bind (Sum.elim (fun (_ : Unit) => some (-1)) some))
set_option maxRecDepth 100000 in
set_option maxHeartbeats 4000000 in
theorem spec_l32Find_run (aLog : (List Op)) (aOffice : Int) (aNumber : Int) (r : Int) (h : spec_l32Find aLog aOffice aNumber = some r) : SCall Tryd.prog 66 [.v (vl eOp aLog), .v (vi aOffice), .v (vi aNumber)] ⟨[.v (vi r)], [], false⟩ := by
  refine scall_in Tryd.func66 rfl [(.tmp 6)] rfl (fun r => ⟨[.v (vi r)], [], false⟩) (r := r) ?_
  unfold spec_l32Find at h
  refine swp_seq ?_
  refine swp_reg ?_
  refine SRun.ck tbokGB 1 ⟨31, [(0, vl eOp aLog), (1, vi aOffice), (2, vi aNumber)], []⟩ ?_
  refine SRun.nil ?_
  refine nx_n ?_
  refine swp_seq ?_
  refine swp_seq ?_
  refine swp_reg ?_
  refine SRun.ck tbokGB 1 ⟨31, [(0, vl eOp aLog), (1, vi aOffice), (2, vi aNumber), (7, vi 0)], []⟩ ?_
  refine SRun.nil ?_
  refine nx_n ?_
  refine swp_seqE (r := r) h (fun j1 => ⟨31, [], []⟩) (fun v2 h => ?_) (fun j1 h => ?_)
  refine swp_blk (a := v2) ?_
  refine swp_lpL (r := v2) (s := (0, ())) _ (fun s3 => ⟨31, [(0, vl eOp aLog), (1, vi aOffice), (2, vi aNumber), (7, vi s3.1)], []⟩) _ (Le.sub0) h (fun s3 v4 h => ?_)
  refine swp_seq ?_
  refine swp_seq ?_
  refine swp_reg ?_
  refine SRun.ck tbokGB 4 ⟨31, [(0, vl eOp aLog), (1, vi aOffice), (2, vi aNumber), (7, vi s3.1), (11, vb (decide (s3.1 < (aLog.length : Int))))], []⟩ ?_
  refine SRun.nil ?_
  refine nx_n ?_
  refine swp_cond (b := (decide (s3.1 < (aLog.length : Int)))) (by kernel_rfl) (fun hb => ?_) (fun hb => ?_)
  replace h := cond_t hb h
  refine swp_skip ?_
  refine nx_n ?_
  refine swp_seq ?_
  refine swp_seqL (r := v4) h (fun j5 => ⟨31, [(0, vl eOp aLog), (1, vi aOffice), (2, vi aNumber), (7, vi s3.1)], []⟩) (fun v6 h => ?_) (fun j5 h => ?_)
  refine swp_blk (a := v6) ?_
  refine swp_seq ?_
  refine swp_regJ h (fun j9 => ⟨31, [(0, vl eOp aLog), (1, vi aOffice), (2, vi aNumber), (7, vi s3.1), (29, vb j9)], []⟩) (fun v10 h => ?_) (fun j9 h => ?_)
  refine SRun.ck tbokGB 2 ⟨31, [(0, vl eOp aLog), (1, vi aOffice), (2, vi aNumber), (7, vi s3.1), (14, vl eOp aLog), (15, vi s3.1)], []⟩ ?_
  obtain ⟨x7, hx7, h⟩ := bind_some h
  refine SRun.ls (x_index (L := aLog) (f := eOp) (ti := ti25) (tj := ti61) (e := 61) (k := .i64) tbokGB rfl hx7) ?_
  refine SRun.ck tbokGB 5 ⟨31, [(0, vl eOp aLog), (1, vi aOffice), (2, vi aNumber), (7, vi s3.1), (21, vb (x7.Office == aOffice))], []⟩ ?_
  refine SRun.cut [(21, fun b => b)] (b := (x7.Office == aOffice)) (by kernel_rfl) (fun hb => ?_) (fun hb => ?_)
  replace h := cond_t hb h
  refine SRun.ck tbokGB 2 ⟨31, [(0, vl eOp aLog), (1, vi aOffice), (2, vi aNumber), (7, vi s3.1), (21, vb true), (22, vl eOp aLog), (23, vi s3.1)], []⟩ ?_
  obtain ⟨x8, hx8, h⟩ := bind_some h
  refine SRun.ls (x_index (L := aLog) (f := eOp) (ti := ti25) (tj := ti61) (e := 61) (k := .i64) tbokGB rfl hx8) ?_
  refine SRun.ck tbokGB 5 ⟨31, [(0, vl eOp aLog), (1, vi aOffice), (2, vi aNumber), (7, vi s3.1), (29, vb (x8.Number == aNumber))], []⟩ ?_
  refine SRun.nil ?_
  replace h := Option.some.inj h
  subst h
  exact Le.sub0
  replace h := cond_f hb h
  refine SRun.ck tbokGB 8 ⟨31, [(0, vl eOp aLog), (1, vi aOffice), (2, vi aNumber), (7, vi s3.1), (29, vb false)], []⟩ ?_
  refine SRun.nil ?_
  replace h := Option.some.inj h
  subst h
  exact Le.sub0
  refine swp_cond (b := j9) (by kernel_rfl) (fun hb => ?_) (fun hb => ?_)
  replace h := cond_t hb h
  refine swp_seq ?_
  refine swp_reg ?_
  refine SRun.ck tbokGB 2 ⟨31, [(6, vi s3.1)], []⟩ ?_
  refine SRun.nil ?_
  refine nx_n ?_
  refine swp_ret ?_
  replace h := Option.some.inj h
  subst h
  exact q_br (q_rr (q_rr (q_br (q_rr (q_fr (fin1 (by kernel_rfl) (finV rfl SV.flat_of (holds_t (by kernel_rfl)))))))))
  replace h := cond_f hb h
  refine swp_skip ?_
  replace h := Option.some.inj h
  subst h
  exact q_bn (q_l (Le.sub0))
  refine swp_reg ?_
  refine SRun.ck tbokGB 3 ⟨31, [(0, vl eOp aLog), (1, vi aOffice), (2, vi aNumber), (7, vi (w64 (s3.1 + 1)))], []⟩ ?_
  refine SRun.nil ?_
  replace h := Option.some.inj h
  subst h
  exact q_l (Le.sub0)
  replace h := cond_f hb h
  refine swp_exit ?_
  replace h := Option.some.inj h
  subst h
  exact nx_e (q_re (q_bh (q_l (Le.sub0))))
  refine swp_seq ?_
  refine swp_reg ?_
  refine SRun.ck tbokGB 1 ⟨31, [(6, vi (-1))], []⟩ ?_
  refine SRun.nil ?_
  refine nx_n ?_
  refine swp_ret ?_
  replace h := Option.some.inj h
  subst h
  exact q_fr (fin1 (by kernel_rfl) (finV rfl SV.flat_of (holds_t (by kernel_rfl))))
theorem ents66 : Ents Tryd.prog 66 := ents_of Tryd.func66 (by kernel_rfl) rfl
noncomputable def spec_l01Same (aA : (List Int)) (aB : (List Int)) : Option (Bool) :=
  (bif ((aA.length : Int) != (aB.length : Int)) then some false else (((forN (aA.length : Int) (fun (i3 : Int) (_ : Unit) => ((at' aA i3).bind fun x7 => ((at' aB i3).bind fun x8 => (bif (x7 != x8) then some (.inr (.inr false)) else some (.inl ()))))) (fun (_ : Unit) => .inl ()) 0 ())).bind (Sum.elim (fun (_ : Unit) => some true) some)))
set_option maxRecDepth 100000 in
set_option maxHeartbeats 4000000 in
theorem spec_l01Same_run (aA : (List Int)) (aB : (List Int)) (r : Bool) (h : spec_l01Same aA aB = some r) : SCall Tryd.prog 87 [.v (vl (eI .i64) aA), .v (vl (eI .i64) aB)] ⟨[.v (vb r)], [], false⟩ := by
  refine scall_in Tryd.func87 rfl [(.tmp 4)] rfl (fun r => ⟨[.v (vb r)], [], false⟩) (r := r) ?_
  unfold spec_l01Same at h
  refine swp_seq ?_
  refine swp_reg ?_
  refine SRun.ck tbokGB 1 ⟨26, [(0, vl (eI .i64) aA), (1, vl (eI .i64) aB)], []⟩ ?_
  refine SRun.nil ?_
  refine nx_n ?_
  refine swp_seq ?_
  refine swp_seq ?_
  refine swp_reg ?_
  refine SRun.ck tbokGB 5 ⟨26, [(0, vl (eI .i64) aA), (1, vl (eI .i64) aB), (10, vb ((aA.length : Int) != (aB.length : Int)))], []⟩ ?_
  refine SRun.nil ?_
  refine nx_n ?_
  refine swp_cond (b := ((aA.length : Int) != (aB.length : Int))) (by kernel_rfl) (fun hb => ?_) (fun hb => ?_)
  replace h := cond_t hb h
  refine swp_seq ?_
  refine swp_reg ?_
  refine SRun.ck tbokGB 1 ⟨26, [(4, vb false)], []⟩ ?_
  refine SRun.nil ?_
  refine nx_n ?_
  refine swp_ret ?_
  replace h := Option.some.inj h
  subst h
  exact nx_r (q_fr (fin1 (by kernel_rfl) (finV rfl SV.flat_of (holds_t (by kernel_rfl)))))
  replace h := cond_f hb h
  refine swp_skip ?_
  refine nx_n ?_
  refine swp_seq ?_
  refine swp_seq ?_
  refine swp_reg ?_
  refine SRun.ck tbokGB 1 ⟨26, [(0, vl (eI .i64) aA), (1, vl (eI .i64) aB), (5, vi 0)], []⟩ ?_
  refine SRun.nil ?_
  refine nx_n ?_
  refine swp_seqE (r := r) h (fun j1 => ⟨26, [], []⟩) (fun v2 h => ?_) (fun j1 h => ?_)
  refine swp_blk (a := v2) ?_
  refine swp_lpL (r := v2) (s := (0, ())) _ (fun s3 => ⟨26, [(0, vl (eI .i64) aA), (1, vl (eI .i64) aB), (5, vi s3.1)], []⟩) _ (Le.sub0) h (fun s3 v4 h => ?_)
  refine swp_seq ?_
  refine swp_seq ?_
  refine swp_reg ?_
  refine SRun.ck tbokGB 4 ⟨26, [(0, vl (eI .i64) aA), (1, vl (eI .i64) aB), (5, vi s3.1), (14, vb (decide (s3.1 < (aA.length : Int))))], []⟩ ?_
  refine SRun.nil ?_
  refine nx_n ?_
  refine swp_cond (b := (decide (s3.1 < (aA.length : Int)))) (by kernel_rfl) (fun hb => ?_) (fun hb => ?_)
  replace h := cond_t hb h
  refine swp_skip ?_
  refine nx_n ?_
  refine swp_seq ?_
  refine swp_seqL (r := v4) h (fun j5 => ⟨26, [(0, vl (eI .i64) aA), (1, vl (eI .i64) aB), (5, vi s3.1)], []⟩) (fun v6 h => ?_) (fun j5 h => ?_)
  refine swp_blk (a := v6) ?_
  refine swp_seq ?_
  refine swp_dr mixed ?_
  refine DGo.chunk' tbokGB 2 (σ' := ⟨26, [(18, vi s3.1), (17, vl (eI .i64) aA), (0, vl (eI .i64) aA), (1, vl (eI .i64) aB), (5, vi s3.1), (14, vb (decide (s3.1 < (aA.length : Int))))], []⟩) (by kernel_rfl) ?_
  obtain ⟨x7, hx7, h⟩ := bind_some h
  refine DGo.step (x_index (L := aA) (f := (eI .i64)) (ti := ti32) (tj := ti2) (e := 2) (k := .i64) tbokGB rfl hx7) ?_
  refine DGo.chunk' tbokGB 3 (σ' := ⟨26, [(22, vi s3.1), (21, vl (eI .i64) aB), (20, vi x7), (19, .ptr (((eI .i64) x7).map .tr) 0), (18, vi s3.1), (17, vl (eI .i64) aA), (0, vl (eI .i64) aA), (1, vl (eI .i64) aB), (5, vi s3.1), (14, vb (decide (s3.1 < (aA.length : Int))))], []⟩) (by kernel_rfl) ?_
  obtain ⟨x8, hx8, h⟩ := bind_some h
  refine DGo.step (x_index (L := aB) (f := (eI .i64)) (ti := ti32) (tj := ti2) (e := 2) (k := .i64) tbokGB rfl hx8) ?_
  refine DGo.chunk' tbokGB 2 (σ' := ⟨26, [(25, vb (x7 != x8)), (24, vi x8), (23, .ptr (((eI .i64) x8).map .tr) 0), (22, vi s3.1), (21, vl (eI .i64) aB), (20, vi x7), (19, .ptr (((eI .i64) x7).map .tr) 0), (18, vi s3.1), (17, vl (eI .i64) aA), (0, vl (eI .i64) aA), (1, vl (eI .i64) aB), (5, vi s3.1), (14, vb (decide (s3.1 < (aA.length : Int))))], []⟩) (by kernel_rfl) ?_
  refine DGo.nil (by kernel_rfl) ?_
  refine nx_n ?_
  refine swp_cond (b := (x7 != x8)) (by kernel_rfl) (fun hb => ?_) (fun hb => ?_)
  replace h := cond_t hb h
  refine swp_seq ?_
  refine swp_reg ?_
  refine SRun.ck tbokGB 1 ⟨26, [(4, vb false)], []⟩ ?_
  refine SRun.nil ?_
  refine nx_n ?_
  refine swp_ret ?_
  replace h := Option.some.inj h
  subst h
  exact q_br (q_rr (q_rr (q_br (q_rr (q_fr (fin1 (by kernel_rfl) (finV rfl SV.flat_of (holds_t (by kernel_rfl)))))))))
  replace h := cond_f hb h
  refine swp_skip ?_
  replace h := Option.some.inj h
  subst h
  exact q_bn (q_l (Le.sub0))
  refine swp_reg ?_
  refine SRun.ck tbokGB 3 ⟨26, [(0, vl (eI .i64) aA), (1, vl (eI .i64) aB), (5, vi (w64 (s3.1 + 1)))], []⟩ ?_
  refine SRun.nil ?_
  replace h := Option.some.inj h
  subst h
  exact q_l (Le.sub0)
  replace h := cond_f hb h
  refine swp_exit ?_
  replace h := Option.some.inj h
  subst h
  exact nx_e (q_re (q_bh (q_l (Le.sub0))))
  refine swp_seq ?_
  refine swp_reg ?_
  refine SRun.ck tbokGB 1 ⟨26, [(4, vb true)], []⟩ ?_
  refine SRun.nil ?_
  refine nx_n ?_
  refine swp_ret ?_
  replace h := Option.some.inj h
  subst h
  exact q_fr (fin1 (by kernel_rfl) (finV rfl SV.flat_of (holds_t (by kernel_rfl))))
theorem ents87 : Ents Tryd.prog 87 := ents_of Tryd.func87 (by kernel_rfl) rfl
noncomputable def spec_l32Same (aA : Op) (aB : Op) : Option (Bool) :=
  (((bif (aA.Office == aB.Office) then (bif (aA.Number == aB.Number) then (bif (aA.Key.toList == aB.Key.toList) then (bif (aA.Text.toList == aB.Text.toList) then ((spec_l01Same aA.Seen aB.Seen).bind fun x1 => some x1) else some false) else some false) else some false) else some false)).bind fun (j2 : Bool) => some j2)
set_option maxRecDepth 100000 in
set_option maxHeartbeats 4000000 in
theorem spec_l32Same_run (aA : Op) (aB : Op) (r : Bool) (h : spec_l32Same aA aB = some r) : SCall Tryd.prog 67 [.v (.agg [vi aA.Office, vi aA.Number, vs aA.Key, vs aA.Text, vl (eI .i64) aA.Seen]), .v (.agg [vi aB.Office, vi aB.Number, vs aB.Key, vs aB.Text, vl (eI .i64) aB.Seen])] ⟨[.v (vb r)], [], false⟩ := by
  refine scall_in Tryd.func67 rfl [(.tmp 4)] rfl (fun r => ⟨[.v (vb r)], [], false⟩) (r := r) ?_
  unfold spec_l32Same at h
  refine swp_seq ?_
  refine swp_reg ?_
  refine SRun.ck tbokGB 3 ⟨38, [(2, .ref 2 0), (3, .ref 3 0)], [(2, .box [vi aA.Office, vi aA.Number, vs aA.Key, vs aA.Text, vl (eI .i64) aA.Seen]), (3, .box [vi aB.Office, vi aB.Number, vs aB.Key, vs aB.Text, vl (eI .i64) aB.Seen])]⟩ ?_
  refine SRun.nil ?_
  refine nx_n ?_
  refine swp_seq ?_
  refine swp_regJ h (fun j2 => ⟨38, [(4, vb j2)], []⟩) (fun v3 h => ?_) (fun j2 h => ?_)
  refine SRun.ck tbokGB 6 ⟨38, [(2, .ref 2 0), (3, .ref 3 0), (10, vb (aA.Office == aB.Office))], [(2, .box [vi aA.Office, vi aA.Number, vs aA.Key, vs aA.Text, vl (eI .i64) aA.Seen]), (3, .box [vi aB.Office, vi aB.Number, vs aB.Key, vs aB.Text, vl (eI .i64) aB.Seen])]⟩ ?_
  refine SRun.cut [(10, fun b => b)] (b := (aA.Office == aB.Office)) (by kernel_rfl) (fun hb => ?_) (fun hb => ?_)
  replace h := cond_t hb h
  refine SRun.ck tbokGB 7 ⟨38, [(2, .ref 2 0), (3, .ref 3 0), (17, vb (aA.Number == aB.Number))], [(2, .box [vi aA.Office, vi aA.Number, vs aA.Key, vs aA.Text, vl (eI .i64) aA.Seen]), (3, .box [vi aB.Office, vi aB.Number, vs aB.Key, vs aB.Text, vl (eI .i64) aB.Seen])]⟩ ?_
  refine SRun.cut [(17, fun b => b)] (b := (aA.Number == aB.Number)) (by kernel_rfl) (fun hb => ?_) (fun hb => ?_)
  replace h := cond_t hb h
  refine SRun.ck tbokGB 7 ⟨38, [(2, .ref 2 0), (3, .ref 3 0), (24, vb (aA.Key.toList == aB.Key.toList))], [(2, .box [vi aA.Office, vi aA.Number, vs aA.Key, vs aA.Text, vl (eI .i64) aA.Seen]), (3, .box [vi aB.Office, vi aB.Number, vs aB.Key, vs aB.Text, vl (eI .i64) aB.Seen])]⟩ ?_
  refine SRun.cut [(24, fun b => b)] (b := (aA.Key.toList == aB.Key.toList)) (by kernel_rfl) (fun hb => ?_) (fun hb => ?_)
  replace h := cond_t hb h
  refine SRun.ck tbokGB 7 ⟨38, [(2, .ref 2 0), (3, .ref 3 0), (31, vb (aA.Text.toList == aB.Text.toList))], [(2, .box [vi aA.Office, vi aA.Number, vs aA.Key, vs aA.Text, vl (eI .i64) aA.Seen]), (3, .box [vi aB.Office, vi aB.Number, vs aB.Key, vs aB.Text, vl (eI .i64) aB.Seen])]⟩ ?_
  refine SRun.cut [(31, fun b => b)] (b := (aA.Text.toList == aB.Text.toList)) (by kernel_rfl) (fun hb => ?_) (fun hb => ?_)
  replace h := cond_t hb h
  refine SRun.ck tbokGB 4 ⟨38, [(31, vb true), (33, vl (eI .i64) aA.Seen), (35, vl (eI .i64) aB.Seen)], []⟩ ?_
  obtain ⟨x1, hx1, h⟩ := bind_some h
  refine SRun.ls (x_lstep_call (f := 87) (caps := []) (xs := [vl (eI .i64) aA.Seen, vl (eI .i64) aB.Seen]) (ys := [vl (eI .i64) aA.Seen, vl (eI .i64) aB.Seen]) (res := ⟨[.v (vb x1)], [], false⟩) (x := vb x1) (y := none) rfl ents87 (spec_l01Same_run aA.Seen aB.Seen _ hx1) rfl (by intro hc; cases hc)) ?_
  refine SRun.ck tbokGB 2 ⟨38, [(4, vb x1)], []⟩ ?_
  refine SRun.nil ?_
  replace h := Option.some.inj h
  subst h
  exact Le.sub0
  replace h := cond_f hb h
  refine SRun.ck tbokGB 7 ⟨38, [(4, vb false)], []⟩ ?_
  refine SRun.nil ?_
  replace h := Option.some.inj h
  subst h
  exact Le.sub0
  replace h := cond_f hb h
  refine SRun.ck tbokGB 14 ⟨38, [(4, vb false)], []⟩ ?_
  refine SRun.nil ?_
  replace h := Option.some.inj h
  subst h
  exact Le.sub0
  replace h := cond_f hb h
  refine SRun.ck tbokGB 21 ⟨38, [(4, vb false)], []⟩ ?_
  refine SRun.nil ?_
  replace h := Option.some.inj h
  subst h
  exact Le.sub0
  replace h := cond_f hb h
  refine SRun.ck tbokGB 28 ⟨38, [(4, vb false)], []⟩ ?_
  refine SRun.nil ?_
  replace h := Option.some.inj h
  subst h
  exact Le.sub0
  refine swp_ret ?_
  replace h := Option.some.inj h
  subst h
  exact q_fr (fin1 (by kernel_rfl) (finV rfl SV.flat_of (holds_t (by kernel_rfl))))
theorem ents67 : Ents Tryd.prog 67 := ents_of Tryd.func67 (by kernel_rfl) rfl
noncomputable def spec_MergeLogs (aA : (List Op)) (aB : (List Op)) : Option ((List Op) × Int) :=
  ((((spec_IsLog aA).bind fun x1 => (bif (!x1) then some true else ((spec_IsLog aB).bind fun x2 => some (!x2))))).bind fun (j3 : Bool) => (bif j3 then some (([] : List Op), 1) else ((app' ([] : List Op) aA).bind fun x5 => (((forN (aB.length : Int) (fun (i8 : Int) (s8 : (List Op)) => ((at' aB i8).bind fun x12 => ((at' aB i8).bind fun x13 => ((spec_l32Find aA x12.Office x13.Number).bind fun x14 => (bif (decide (x14 < 0)) then ((at' aB i8).bind fun x15 => ((app' s8 ([x15] : List Op)).bind fun x16 => some (.inl x16))) else ((at' aA x14).bind fun x17 => ((at' aB i8).bind fun x18 => ((spec_l32Same x17 x18).bind fun x19 => (bif (!x19) then some (.inr (.inr (([] : List Op), 5))) else some (.inl s8)))))))))) (fun (s8 : (List Op)) => .inl s8) 0 x5)).bind (Sum.elim (fun (j6 : (List Op)) => (bif (decide ((j6.length : Int) > 16)) then some (([] : List Op), 3) else ((spec_l32Own j6).bind fun x20 => some (x20, 0)))) some)))))
set_option maxRecDepth 100000 in
set_option maxHeartbeats 4000000 in
theorem spec_MergeLogs_run (aA : (List Op)) (aB : (List Op)) (r : (List Op) × Int) (h : spec_MergeLogs aA aB = some r) : SCall Tryd.prog 35 [.v (vl eOp aA), .v (vl eOp aB)] ⟨[.deep 61 5 r.1.length [.flat, .flat, .flat, .flat, (.sl 2 1 [.flat])] (r.1.map eOp), .v (vi r.2)], [], false⟩ := by
  refine scall_in Tryd.func35 rfl [(.tmp 4), (.tmp 5)] rfl (fun r => ⟨[.deep 61 5 r.1.length [.flat, .flat, .flat, .flat, (.sl 2 1 [.flat])] (r.1.map eOp), .v (vi r.2)], [], false⟩) (r := r) ?_
  unfold spec_MergeLogs at h
  refine swp_seq ?_
  refine swp_reg ?_
  refine SRun.ck tbokGB 2 ⟨62, [(0, vl eOp aA), (1, vl eOp aB)], []⟩ ?_
  refine SRun.nil ?_
  refine nx_n ?_
  refine swp_seq ?_
  refine swp_seq ?_
  refine swp_regJ h (fun j3 => ⟨62, [(0, vl eOp aA), (1, vl eOp aB), (16, vb j3)], []⟩) (fun v4 h => ?_) (fun j3 h => ?_)
  refine SRun.ck tbokGB 1 ⟨62, [(0, vl eOp aA), (1, vl eOp aB), (9, vl eOp aA)], []⟩ ?_
  obtain ⟨x1, hx1, h⟩ := bind_some h
  refine SRun.ls (x_lstep_call (f := 13) (caps := []) (xs := [vl eOp aA]) (ys := [vl eOp aA]) (res := ⟨[.v (vb x1)], [], false⟩) (x := vb x1) (y := none) rfl ents13 (spec_IsLog_run aA _ hx1) rfl (by intro hc; cases hc)) ?_
  refine SRun.ck tbokGB 2 ⟨62, [(0, vl eOp aA), (1, vl eOp aB), (12, vb (!x1))], []⟩ ?_
  refine SRun.cut [(12, fun b => b)] (b := (!x1)) (by kernel_rfl) (fun hb => ?_) (fun hb => ?_)
  replace h := cond_t hb h
  refine SRun.ck tbokGB 4 ⟨62, [(0, vl eOp aA), (1, vl eOp aB), (16, vb true)], []⟩ ?_
  refine SRun.nil ?_
  replace h := Option.some.inj h
  subst h
  exact Le.sub0
  replace h := cond_f hb h
  refine SRun.ck tbokGB 1 ⟨62, [(0, vl eOp aA), (1, vl eOp aB), (12, vb false), (13, vl eOp aB)], []⟩ ?_
  obtain ⟨x2, hx2, h⟩ := bind_some h
  refine SRun.ls (x_lstep_call (f := 13) (caps := []) (xs := [vl eOp aB]) (ys := [vl eOp aB]) (res := ⟨[.v (vb x2)], [], false⟩) (x := vb x2) (y := none) rfl ents13 (spec_IsLog_run aB _ hx2) rfl (by intro hc; cases hc)) ?_
  refine SRun.ck tbokGB 2 ⟨62, [(0, vl eOp aA), (1, vl eOp aB), (16, vb (!x2))], []⟩ ?_
  refine SRun.nil ?_
  replace h := Option.some.inj h
  subst h
  exact Le.sub0
  refine swp_cond (b := j3) (by kernel_rfl) (fun hb => ?_) (fun hb => ?_)
  replace h := cond_t hb h
  refine swp_seq ?_
  refine swp_reg ?_
  refine SRun.ck tbokGB 2 ⟨62, [(4, .own 4), (5, vi 1)], [(4, .arr 61 5 ([] : List Op).length (([] : List Op).map eOp))]⟩ ?_
  refine SRun.nil ?_
  refine nx_n ?_
  refine swp_le (Le.deep0 (d := 4) (e := 61) (m := 5) (ss := [.flat, .flat, .flat, .flat, (.sl 2 1 [.flat])]) (by kernel_rfl) (by kernel_rfl)) ?_
  refine swp_ret ?_
  replace h := Option.some.inj h
  subst h
  exact nx_r (q_fr (fin2 (by kernel_rfl) (finD (d := 4) (holds_t (by kernel_rfl)) (by kernel_rfl) (by kernel_rfl)) (finV rfl SV.flat_of (holds_t (by kernel_rfl)))))
  replace h := cond_f hb h
  refine swp_skip ?_
  refine nx_n ?_
  refine swp_seq ?_
  refine swp_reg ?_
  refine SRun.ck tbokGB 2 ⟨62, [(0, vl eOp aA), (1, vl eOp aB), (17, .own 17), (18, vl eOp aA)], [(17, .arr 61 5 ([] : List Op).length (([] : List Op).map eOp))]⟩ ?_
  obtain ⟨x5, hx5, h⟩ := bind_some h
  refine SRun.estep (x_append (f := eOp) (t := 25) (ti := ti25) (tj := ti61) (zs := [.int .i64 0, .int .i64 0, .string (ByteArray.mk #[]), .string (ByteArray.mk #[]), .slice none 0 0]) (e := 61) (m := 5) (d := 17) (xv := vl eOp aA) hx5 tbokGB rfl rfl rfl rfl (src_e (fun _ => rfl))) ?_
  refine SRun.ck tbokGB 1 ⟨62, [(0, vl eOp aA), (1, vl eOp aB), (6, .own 19)], [(19, .arr 61 5 x5.length (x5.map eOp))]⟩ ?_
  refine SRun.nil ?_
  refine nx_n ?_
  refine swp_seq ?_
  refine swp_seq ?_
  refine swp_reg ?_
  refine SRun.ck tbokGB 1 ⟨62, [(0, vl eOp aA), (1, vl eOp aB), (6, .own 19), (7, vi 0)], [(19, .arr 61 5 x5.length (x5.map eOp))]⟩ ?_
  refine SRun.nil ?_
  refine nx_n ?_
  refine swp_seqE (r := r) h (fun j6 => ⟨62, [(6, .own 6)], [(6, .arr 61 5 j6.length (j6.map eOp))]⟩) (fun v7 h => ?_) (fun j6 h => ?_)
  refine swp_blk (a := v7) ?_
  refine swp_lpL (r := v7) (s := (0, x5)) _ (fun s8 => ⟨62, [(0, vl eOp aA), (1, vl eOp aB), (6, .own 6), (7, vi s8.1)], [(6, .arr 61 5 s8.2.length (s8.2.map eOp))]⟩) _ ((Le.sub' ([(0, vl eOp aA), (1, vl eOp aB), (6, .own 19), (7, vi 0)] : List (Nat × SV)) ([(19, .arr 61 5 x5.length (x5.map eOp))] : List (Nat × SO)) (by kernel_rfl) (by kernel_rfl)).trans ((Le.ren' (d := 19) (e := 6) (by kernel_rfl) (by kernel_rfl) (by kernel_rfl)).trans (Le.sub0))) h (fun s8 v9 h => ?_)
  refine swp_seq ?_
  refine swp_seq ?_
  refine swp_reg ?_
  refine SRun.ck tbokGB 4 ⟨62, [(0, vl eOp aA), (1, vl eOp aB), (6, .own 6), (7, vi s8.1), (23, vb (decide (s8.1 < (aB.length : Int))))], [(6, .arr 61 5 s8.2.length (s8.2.map eOp))]⟩ ?_
  refine SRun.nil ?_
  refine nx_n ?_
  refine swp_cond (b := (decide (s8.1 < (aB.length : Int)))) (by kernel_rfl) (fun hb => ?_) (fun hb => ?_)
  replace h := cond_t hb h
  refine swp_skip ?_
  refine nx_n ?_
  refine swp_seq ?_
  refine swp_seqL (r := v9) h (fun j10 => ⟨62, [(0, vl eOp aA), (1, vl eOp aB), (6, .own 6), (7, vi s8.1)], [(6, .arr 61 5 j10.length (j10.map eOp))]⟩) (fun v11 h => ?_) (fun j10 h => ?_)
  refine swp_blk (a := v11) ?_
  refine swp_seq ?_
  refine swp_dr mixed ?_
  refine DGo.chunk' tbokGB 3 (σ' := ⟨62, [(28, vi s8.1), (27, vl eOp aB), (26, vl eOp aA), (0, vl eOp aA), (1, vl eOp aB), (6, .own 6), (7, vi s8.1), (23, vb (decide (s8.1 < (aB.length : Int))))], [(6, .arr 61 5 s8.2.length (s8.2.map eOp))]⟩) (by kernel_rfl) ?_
  obtain ⟨x12, hx12, h⟩ := bind_some h
  refine DGo.step (x_index (L := aB) (f := eOp) (ti := ti25) (tj := ti61) (e := 61) (k := .i64) tbokGB rfl hx12) ?_
  refine DGo.chunk' tbokGB 4 (σ' := ⟨62, [(33, vi s8.1), (32, vl eOp aB), (31, vi x12.Office), (30, .ptr ((eOp x12).map .tr) 0), (29, .ptr ((eOp x12).map .tr) 0), (28, vi s8.1), (27, vl eOp aB), (26, vl eOp aA), (0, vl eOp aA), (1, vl eOp aB), (6, .own 6), (7, vi s8.1), (23, vb (decide (s8.1 < (aB.length : Int))))], [(6, .arr 61 5 s8.2.length (s8.2.map eOp))]⟩) (by kernel_rfl) ?_
  obtain ⟨x13, hx13, h⟩ := bind_some h
  refine DGo.step (x_index (L := aB) (f := eOp) (ti := ti25) (tj := ti61) (e := 61) (k := .i64) tbokGB rfl hx13) ?_
  refine DGo.chunk' tbokGB 2 (σ' := ⟨62, [(36, vi x13.Number), (35, .ptr ((eOp x13).map .tr) 1), (34, .ptr ((eOp x13).map .tr) 0), (33, vi s8.1), (32, vl eOp aB), (31, vi x12.Office), (30, .ptr ((eOp x12).map .tr) 0), (29, .ptr ((eOp x12).map .tr) 0), (28, vi s8.1), (27, vl eOp aB), (26, vl eOp aA), (0, vl eOp aA), (1, vl eOp aB), (6, .own 6), (7, vi s8.1), (23, vb (decide (s8.1 < (aB.length : Int))))], [(6, .arr 61 5 s8.2.length (s8.2.map eOp))]⟩) (by kernel_rfl) ?_
  obtain ⟨x14, hx14, h⟩ := bind_some h
  refine DGo.step (x_lstep_call (f := 66) (caps := []) (xs := [vl eOp aA, vi x12.Office, vi x13.Number]) (ys := [vl eOp aA, vi x12.Office, vi x13.Number]) (res := ⟨[.v (vi x14)], [], false⟩) (x := vi x14) (y := none) rfl ents66 (spec_l32Find_run aA x12.Office x13.Number _ hx14) rfl (by intro hc; cases hc)) ?_
  refine DGo.chunk' tbokGB 1 (σ' := ⟨62, [(8, vi x14), (37, vi x14), (36, vi x13.Number), (35, .ptr ((eOp x13).map .tr) 1), (34, .ptr ((eOp x13).map .tr) 0), (33, vi s8.1), (32, vl eOp aB), (31, vi x12.Office), (30, .ptr ((eOp x12).map .tr) 0), (29, .ptr ((eOp x12).map .tr) 0), (28, vi s8.1), (27, vl eOp aB), (26, vl eOp aA), (0, vl eOp aA), (1, vl eOp aB), (6, .own 6), (7, vi s8.1), (23, vb (decide (s8.1 < (aB.length : Int))))], [(6, .arr 61 5 s8.2.length (s8.2.map eOp))]⟩) (by kernel_rfl) ?_
  refine DGo.nil (by kernel_rfl) ?_
  refine nx_n ?_
  refine swp_seq ?_
  refine swp_reg ?_
  refine SRun.ck tbokGB 2 ⟨62, [(0, vl eOp aA), (1, vl eOp aB), (6, .own 6), (7, vi s8.1), (8, vi x14), (39, vb (decide (x14 < 0)))], [(6, .arr 61 5 s8.2.length (s8.2.map eOp))]⟩ ?_
  refine SRun.nil ?_
  refine nx_n ?_
  refine swp_cond (b := (decide (x14 < 0))) (by kernel_rfl) (fun hb => ?_) (fun hb => ?_)
  replace h := cond_t hb h
  refine swp_reg ?_
  refine SRun.ck tbokGB 3 ⟨62, [(0, vl eOp aA), (1, vl eOp aB), (7, vi s8.1), (40, .own 6), (41, vl eOp aB), (42, vi s8.1)], [(6, .arr 61 5 s8.2.length (s8.2.map eOp))]⟩ ?_
  obtain ⟨x15, hx15, h⟩ := bind_some h
  refine SRun.ls (x_index (L := aB) (f := eOp) (ti := ti25) (tj := ti61) (e := 61) (k := .i64) tbokGB rfl hx15) ?_
  refine SRun.ck tbokGB 2 ⟨62, [(0, vl eOp aA), (1, vl eOp aB), (7, vi s8.1), (40, .own 6), (45, .own 45)], [(6, .arr 61 5 s8.2.length (s8.2.map eOp)), (45, .arr 61 5 ([x15] : List Op).length (([x15] : List Op).map eOp))]⟩ ?_
  obtain ⟨x16, hx16, h⟩ := bind_some h
  refine SRun.estep (x_append (f := eOp) (t := 25) (ti := ti25) (tj := ti61) (zs := [.int .i64 0, .int .i64 0, .string (ByteArray.mk #[]), .string (ByteArray.mk #[]), .slice none 0 0]) (e := 61) (m := 5) (d := 6) (xv := .own 45) hx16 tbokGB rfl rfl rfl rfl (x_src_o (e := 61))) ?_
  refine SRun.ck tbokGB 1 ⟨62, [(0, vl eOp aA), (1, vl eOp aB), (6, .own 46), (7, vi s8.1)], [(46, .arr 61 5 x16.length (x16.map eOp))]⟩ ?_
  refine SRun.nil ?_
  replace h := Option.some.inj h
  subst h
  exact q_bn (q_l ((Le.sub' ([(0, vl eOp aA), (1, vl eOp aB), (6, .own 46), (7, vi s8.1)] : List (Nat × SV)) ([(46, .arr 61 5 x16.length (x16.map eOp))] : List (Nat × SO)) (by kernel_rfl) (by kernel_rfl)).trans ((Le.ren' (d := 46) (e := 6) (by kernel_rfl) (by kernel_rfl) (by kernel_rfl)).trans (Le.sub0))))
  replace h := cond_f hb h
  refine swp_seq ?_
  refine swp_dr mixed ?_
  refine DGo.chunk' tbokGB 2 (σ' := ⟨62, [(48, vi x14), (47, vl eOp aA), (0, vl eOp aA), (1, vl eOp aB), (6, .own 6), (7, vi s8.1), (8, vi x14), (39, vb (decide (x14 < 0)))], [(6, .arr 61 5 s8.2.length (s8.2.map eOp))]⟩) (by kernel_rfl) ?_
  obtain ⟨x17, hx17, h⟩ := bind_some h
  refine DGo.step (x_index (L := aA) (f := eOp) (ti := ti25) (tj := ti61) (e := 61) (k := .i64) tbokGB rfl hx17) ?_
  refine DGo.chunk' tbokGB 3 (σ' := ⟨62, [(52, vi s8.1), (51, vl eOp aB), (50, .agg [vi x17.Office, vi x17.Number, vs x17.Key, vs x17.Text, vl (eI .i64) x17.Seen]), (49, .ptr ((eOp x17).map .tr) 0), (48, vi x14), (47, vl eOp aA), (0, vl eOp aA), (1, vl eOp aB), (6, .own 6), (7, vi s8.1), (8, vi x14), (39, vb (decide (x14 < 0)))], [(6, .arr 61 5 s8.2.length (s8.2.map eOp))]⟩) (by kernel_rfl) ?_
  obtain ⟨x18, hx18, h⟩ := bind_some h
  refine DGo.step (x_index (L := aB) (f := eOp) (ti := ti25) (tj := ti61) (e := 61) (k := .i64) tbokGB rfl hx18) ?_
  refine DGo.chunk' tbokGB 1 (σ' := ⟨62, [(54, .agg [vi x18.Office, vi x18.Number, vs x18.Key, vs x18.Text, vl (eI .i64) x18.Seen]), (53, .ptr ((eOp x18).map .tr) 0), (52, vi s8.1), (51, vl eOp aB), (50, .agg [vi x17.Office, vi x17.Number, vs x17.Key, vs x17.Text, vl (eI .i64) x17.Seen]), (49, .ptr ((eOp x17).map .tr) 0), (48, vi x14), (47, vl eOp aA), (0, vl eOp aA), (1, vl eOp aB), (6, .own 6), (7, vi s8.1), (8, vi x14), (39, vb (decide (x14 < 0)))], [(6, .arr 61 5 s8.2.length (s8.2.map eOp))]⟩) (by kernel_rfl) ?_
  obtain ⟨x19, hx19, h⟩ := bind_some h
  refine DGo.step (x_lstep_call (f := 67) (caps := []) (xs := [.agg [vi x17.Office, vi x17.Number, vs x17.Key, vs x17.Text, vl (eI .i64) x17.Seen], .agg [vi x18.Office, vi x18.Number, vs x18.Key, vs x18.Text, vl (eI .i64) x18.Seen]]) (ys := [.agg [vi x17.Office, vi x17.Number, vs x17.Key, vs x17.Text, vl (eI .i64) x17.Seen], .agg [vi x18.Office, vi x18.Number, vs x18.Key, vs x18.Text, vl (eI .i64) x18.Seen]]) (res := ⟨[.v (vb x19)], [], false⟩) (x := vb x19) (y := none) rfl ents67 (spec_l32Same_run x17 x18 _ hx19) rfl (by intro hc; cases hc)) ?_
  refine DGo.chunk' tbokGB 1 (σ' := ⟨62, [(56, vb (!x19)), (55, vb x19), (54, .agg [vi x18.Office, vi x18.Number, vs x18.Key, vs x18.Text, vl (eI .i64) x18.Seen]), (53, .ptr ((eOp x18).map .tr) 0), (52, vi s8.1), (51, vl eOp aB), (50, .agg [vi x17.Office, vi x17.Number, vs x17.Key, vs x17.Text, vl (eI .i64) x17.Seen]), (49, .ptr ((eOp x17).map .tr) 0), (48, vi x14), (47, vl eOp aA), (0, vl eOp aA), (1, vl eOp aB), (6, .own 6), (7, vi s8.1), (8, vi x14), (39, vb (decide (x14 < 0)))], [(6, .arr 61 5 s8.2.length (s8.2.map eOp))]⟩) (by kernel_rfl) ?_
  refine DGo.nil (by kernel_rfl) ?_
  refine nx_n ?_
  refine swp_cond (b := (!x19)) (by kernel_rfl) (fun hb => ?_) (fun hb => ?_)
  replace h := cond_t hb h
  refine swp_seq ?_
  refine swp_reg ?_
  refine SRun.ck tbokGB 2 ⟨62, [(4, .own 4), (5, vi 5)], [(4, .arr 61 5 ([] : List Op).length (([] : List Op).map eOp))]⟩ ?_
  refine SRun.nil ?_
  refine nx_n ?_
  refine swp_le (Le.deep0 (d := 4) (e := 61) (m := 5) (ss := [.flat, .flat, .flat, .flat, (.sl 2 1 [.flat])]) (by kernel_rfl) (by kernel_rfl)) ?_
  refine swp_ret ?_
  replace h := Option.some.inj h
  subst h
  exact q_br (q_rr (q_rr (q_br (q_rr (q_fr (fin2 (by kernel_rfl) (finD (d := 4) (holds_t (by kernel_rfl)) (by kernel_rfl) (by kernel_rfl)) (finV rfl SV.flat_of (holds_t (by kernel_rfl)))))))))
  replace h := cond_f hb h
  refine swp_skip ?_
  replace h := Option.some.inj h
  subst h
  exact q_bn (q_l (Le.sub0))
  refine swp_reg ?_
  refine SRun.ck tbokGB 3 ⟨62, [(0, vl eOp aA), (1, vl eOp aB), (6, .own 6), (7, vi (w64 (s8.1 + 1)))], [(6, .arr 61 5 j10.length (j10.map eOp))]⟩ ?_
  refine SRun.nil ?_
  replace h := Option.some.inj h
  subst h
  exact q_l (Le.sub0)
  replace h := cond_f hb h
  refine swp_exit ?_
  replace h := Option.some.inj h
  subst h
  exact nx_e (q_re (q_bh (q_l (Le.sub0))))
  refine swp_seq ?_
  refine swp_seq ?_
  refine swp_reg ?_
  refine SRun.ck tbokGB 3 ⟨62, [(6, .own 6), (59, vb (decide ((j6.length : Int) > 16)))], [(6, .arr 61 5 j6.length (j6.map eOp))]⟩ ?_
  refine SRun.nil ?_
  refine nx_n ?_
  refine swp_cond (b := (decide ((j6.length : Int) > 16))) (by kernel_rfl) (fun hb => ?_) (fun hb => ?_)
  replace h := cond_t hb h
  refine swp_seq ?_
  refine swp_reg ?_
  refine SRun.ck tbokGB 2 ⟨62, [(4, .own 4), (5, vi 3)], [(4, .arr 61 5 ([] : List Op).length (([] : List Op).map eOp))]⟩ ?_
  refine SRun.nil ?_
  refine nx_n ?_
  refine swp_le (Le.deep0 (d := 4) (e := 61) (m := 5) (ss := [.flat, .flat, .flat, .flat, (.sl 2 1 [.flat])]) (by kernel_rfl) (by kernel_rfl)) ?_
  refine swp_ret ?_
  replace h := Option.some.inj h
  subst h
  exact nx_r (q_fr (fin2 (by kernel_rfl) (finD (d := 4) (holds_t (by kernel_rfl)) (by kernel_rfl) (by kernel_rfl)) (finV rfl SV.flat_of (holds_t (by kernel_rfl)))))
  replace h := cond_f hb h
  refine swp_skip ?_
  refine nx_n ?_
  refine swp_seq ?_
  refine swp_reg ?_
  refine SRun.ck tbokGB 1 ⟨62, [(60, .own 6)], [(6, .arr 61 5 j6.length (j6.map eOp))]⟩ ?_
  obtain ⟨x20, hx20, h⟩ := bind_some h
  refine SRun.ls (x_lstep_call (f := 63) (caps := []) (xs := [.own 6]) (ys := [vl eOp j6]) (res := ⟨[.deep 61 5 x20.length [.flat, .flat, .flat, .flat, (.sl 2 1 [.flat])] (x20.map eOp)], [], false⟩) (x := .own 61) (y := some (.deep 61 5 x20.length [.flat, .flat, .flat, .flat, (.sl 2 1 [.flat])] (x20.map eOp))) rfl ents63 (spec_l32Own_run j6 _ hx20) rfl (by intro hc; cases hc)) ?_
  refine SRun.ck tbokGB 2 ⟨62, [(4, .own 61), (5, vi 0)], [(61, .deep 61 5 x20.length [.flat, .flat, .flat, .flat, (.sl 2 1 [.flat])] (x20.map eOp))]⟩ ?_
  refine SRun.nil ?_
  refine nx_n ?_
  refine swp_ret ?_
  replace h := Option.some.inj h
  subst h
  exact q_fr (fin2 (by kernel_rfl) (finD (d := 61) (holds_t (by kernel_rfl)) (by kernel_rfl) (by kernel_rfl)) (finV rfl SV.flat_of (holds_t (by kernel_rfl))))
theorem ents35 : Ents Tryd.prog 35 := ents_of Tryd.func35 (by kernel_rfl) rfl
noncomputable def impl_findOp_1 (aY : Op) (c0 : Op) : Option (Bool) :=
  some ((aY.Office == c0.Office) && (aY.Number == c0.Number))
set_option maxRecDepth 100000 in
set_option maxHeartbeats 4000000 in
theorem impl_findOp_1_run (aY : Op) (c0 : Op) (r : Bool) (h : impl_findOp_1 aY c0 = some r) : SCall Tryd.prog 89 [.v (.agg [vi aY.Office, vi aY.Number, vs aY.Key, vs aY.Text, vl (eI .i64) aY.Seen]), .v (.ptr [vi c0.Office, vi c0.Number, vs c0.Key, vs c0.Text, vl (eI .i64) c0.Seen] 0)] ⟨[.v (vb r)], [], false⟩ := by
  refine scall_in Tryd.func89 rfl [(.tmp 3)] rfl (fun r => ⟨[.v (vb r)], [], false⟩) (r := r) ?_
  unfold impl_findOp_1 at h
  refine swp_seq ?_
  refine swp_reg ?_
  refine SRun.ck tbokGB 2 ⟨16, [(1, .ptr [vi c0.Office, vi c0.Number, vs c0.Key, vs c0.Text, vl (eI .i64) c0.Seen] 0), (2, .ref 2 0)], [(2, .box [vi aY.Office, vi aY.Number, vs aY.Key, vs aY.Text, vl (eI .i64) aY.Seen])]⟩ ?_
  refine SRun.nil ?_
  refine nx_n ?_
  refine swp_seq ?_
  refine swp_regP ⟨16, [(3, vb ((aY.Office == c0.Office) && (aY.Number == c0.Number)))], []⟩ ?_ ?_
  refine SRun.ck tbokGB 6 ⟨16, [(1, .ptr [vi c0.Office, vi c0.Number, vs c0.Key, vs c0.Text, vl (eI .i64) c0.Seen] 0), (2, .ref 2 0), (9, vb (aY.Office == c0.Office))], [(2, .box [vi aY.Office, vi aY.Number, vs aY.Key, vs aY.Text, vl (eI .i64) aY.Seen])]⟩ ?_
  generalize (aY.Office == c0.Office) = bb
  cases bb
  refine SRun.ck tbokGB 7 ⟨16, [(3, vb false)], []⟩ ?_
  exact SRun.nil (Le.sub0)
  refine SRun.ck tbokGB 7 ⟨16, [(3, vb (aY.Number == c0.Number))], []⟩ ?_
  exact SRun.nil (Le.sub0)
  refine swp_ret ?_
  replace h := Option.some.inj h
  subst h
  exact q_fr (fin1 (by kernel_rfl) (finV rfl SV.flat_of (holds_t (by kernel_rfl))))
theorem ents89 : Ents Tryd.prog 89 := ents_of Tryd.func89 (by kernel_rfl) rfl
noncomputable def slices_IndexFunc_Op_impl_findOp_1 (aS : (List Op)) (aF0 : Op) : Option (Int) :=
  (((forN (aS.length : Int) (fun (i3 : Int) (_ : Unit) => ((at' aS i3).bind fun x7 => ((impl_findOp_1 x7 aF0).bind fun x8 => (bif x8 then some (.inr (.inr i3)) else some (.inl ()))))) (fun (_ : Unit) => .inl ()) 0 ())).bind (Sum.elim (fun (_ : Unit) => some (-1)) some))
set_option maxRecDepth 100000 in
set_option maxHeartbeats 4000000 in
theorem slices_IndexFunc_Op_impl_findOp_1_run (aS : (List Op)) (aF0 : Op) (r : Int) (h : slices_IndexFunc_Op_impl_findOp_1 aS aF0 = some r) : SCall Tryd.prog 88 [.v (vl eOp aS), .v (.clo 89 [.ptr [vi aF0.Office, vi aF0.Number, vs aF0.Key, vs aF0.Text, vl (eI .i64) aF0.Seen] 0])] ⟨[.v (vi r)], [], false⟩ := by
  refine scall_in Tryd.func88 rfl [(.tmp 4)] rfl (fun r => ⟨[.v (vi r)], [], false⟩) (r := r) ?_
  unfold slices_IndexFunc_Op_impl_findOp_1 at h
  refine swp_seq ?_
  refine swp_reg ?_
  refine SRun.ck tbokGB 1 ⟨19, [(0, vl eOp aS), (1, .clo 89 [.ptr [vi aF0.Office, vi aF0.Number, vs aF0.Key, vs aF0.Text, vl (eI .i64) aF0.Seen] 0])], []⟩ ?_
  refine SRun.nil ?_
  refine nx_n ?_
  refine swp_seq ?_
  refine swp_seq ?_
  refine swp_reg ?_
  refine SRun.ck tbokGB 3 ⟨19, [(0, vl eOp aS), (1, .clo 89 [.ptr [vi aF0.Office, vi aF0.Number, vs aF0.Key, vs aF0.Text, vl (eI .i64) aF0.Seen] 0]), (7, vi (aS.length : Int)), (8, vi 0)], []⟩ ?_
  refine SRun.nil ?_
  refine nx_n ?_
  refine swp_seqE (r := r) h (fun j1 => ⟨19, [], []⟩) (fun v2 h => ?_) (fun j1 h => ?_)
  refine swp_blk (a := v2) ?_
  refine swp_lpL (r := v2) (s := (0, ())) _ (fun s3 => ⟨19, [(0, vl eOp aS), (1, .clo 89 [.ptr [vi aF0.Office, vi aF0.Number, vs aF0.Key, vs aF0.Text, vl (eI .i64) aF0.Seen] 0]), (7, vi (aS.length : Int)), (8, vi s3.1)], []⟩) _ (Le.sub0) h (fun s3 v4 h => ?_)
  refine swp_seq ?_
  refine swp_reg ?_
  refine SRun.ck tbokGB 1 ⟨19, [(0, vl eOp aS), (1, .clo 89 [.ptr [vi aF0.Office, vi aF0.Number, vs aF0.Key, vs aF0.Text, vl (eI .i64) aF0.Seen] 0]), (7, vi (aS.length : Int)), (8, vi s3.1), (9, vb (decide (s3.1 < (aS.length : Int))))], []⟩ ?_
  refine SRun.nil ?_
  refine nx_n ?_
  refine swp_seq ?_
  refine swp_cond (b := (decide (s3.1 < (aS.length : Int)))) (by kernel_rfl) (fun hb => ?_) (fun hb => ?_)
  replace h := cond_t hb h
  refine swp_skip ?_
  refine nx_n ?_
  refine swp_seq ?_
  refine swp_seqL (r := v4) h (fun j5 => ⟨19, [(0, vl eOp aS), (1, .clo 89 [.ptr [vi aF0.Office, vi aF0.Number, vs aF0.Key, vs aF0.Text, vl (eI .i64) aF0.Seen] 0]), (7, vi (aS.length : Int)), (8, vi s3.1)], []⟩) (fun v6 h => ?_) (fun j5 h => ?_)
  refine swp_blk (a := v6) ?_
  refine swp_seq ?_
  refine swp_reg ?_
  refine SRun.ck tbokGB 2 ⟨19, [(0, vl eOp aS), (1, .clo 89 [.ptr [vi aF0.Office, vi aF0.Number, vs aF0.Key, vs aF0.Text, vl (eI .i64) aF0.Seen] 0]), (5, vi s3.1), (7, vi (aS.length : Int)), (8, vi s3.1)], []⟩ ?_
  refine SRun.nil ?_
  refine nx_n ?_
  refine swp_seq ?_
  refine swp_reg ?_
  refine SRun.ck tbokGB 3 ⟨19, [(0, vl eOp aS), (1, .clo 89 [.ptr [vi aF0.Office, vi aF0.Number, vs aF0.Key, vs aF0.Text, vl (eI .i64) aF0.Seen] 0]), (5, vi s3.1), (7, vi (aS.length : Int)), (8, vi s3.1), (11, .clo 89 [.ptr [vi aF0.Office, vi aF0.Number, vs aF0.Key, vs aF0.Text, vl (eI .i64) aF0.Seen] 0]), (12, vl eOp aS), (13, vi s3.1)], []⟩ ?_
  obtain ⟨x7, hx7, h⟩ := bind_some h
  refine SRun.ls (x_index (L := aS) (f := eOp) (ti := ti25) (tj := ti61) (e := 61) (k := .i64) tbokGB rfl hx7) ?_
  refine SRun.ck tbokGB 1 ⟨19, [(0, vl eOp aS), (1, .clo 89 [.ptr [vi aF0.Office, vi aF0.Number, vs aF0.Key, vs aF0.Text, vl (eI .i64) aF0.Seen] 0]), (5, vi s3.1), (7, vi (aS.length : Int)), (8, vi s3.1), (11, .clo 89 [.ptr [vi aF0.Office, vi aF0.Number, vs aF0.Key, vs aF0.Text, vl (eI .i64) aF0.Seen] 0]), (15, .agg [vi x7.Office, vi x7.Number, vs x7.Key, vs x7.Text, vl (eI .i64) x7.Seen])], []⟩ ?_
  obtain ⟨x8, hx8, h⟩ := bind_some h
  refine SRun.ls (x_lstep_call (f := 89) (caps := [.ptr [vi aF0.Office, vi aF0.Number, vs aF0.Key, vs aF0.Text, vl (eI .i64) aF0.Seen] 0]) (xs := [.agg [vi x7.Office, vi x7.Number, vs x7.Key, vs x7.Text, vl (eI .i64) x7.Seen]]) (ys := [.agg [vi x7.Office, vi x7.Number, vs x7.Key, vs x7.Text, vl (eI .i64) x7.Seen], .ptr [vi aF0.Office, vi aF0.Number, vs aF0.Key, vs aF0.Text, vl (eI .i64) aF0.Seen] 0]) (res := ⟨[.v (vb x8)], [], false⟩) (x := vb x8) (y := none) rfl ents89 (impl_findOp_1_run x7 aF0 _ hx8) rfl (by intro hc; cases hc)) ?_
  refine SRun.nil ?_
  refine nx_n ?_
  refine swp_cond (b := x8) (by kernel_rfl) (fun hb => ?_) (fun hb => ?_)
  replace h := cond_t hb h
  refine swp_seq ?_
  refine swp_reg ?_
  refine SRun.ck tbokGB 2 ⟨19, [(4, vi s3.1)], []⟩ ?_
  refine SRun.nil ?_
  refine nx_n ?_
  refine swp_ret ?_
  replace h := Option.some.inj h
  subst h
  exact q_br (q_rr (q_rr (q_br (q_rr (q_fr (fin1 (by kernel_rfl) (finV rfl SV.flat_of (holds_t (by kernel_rfl)))))))))
  replace h := cond_f hb h
  refine swp_skip ?_
  replace h := Option.some.inj h
  subst h
  exact q_bn (q_l (Le.sub0))
  refine swp_reg ?_
  refine SRun.ck tbokGB 2 ⟨19, [(0, vl eOp aS), (1, .clo 89 [.ptr [vi aF0.Office, vi aF0.Number, vs aF0.Key, vs aF0.Text, vl (eI .i64) aF0.Seen] 0]), (7, vi (aS.length : Int)), (8, vi (w64 (s3.1 + 1)))], []⟩ ?_
  refine SRun.nil ?_
  replace h := Option.some.inj h
  subst h
  exact q_l (Le.sub0)
  replace h := cond_f hb h
  refine swp_exit ?_
  replace h := Option.some.inj h
  subst h
  exact nx_e (q_re (q_bh (q_l (Le.sub0))))
  refine swp_seq ?_
  refine swp_reg ?_
  refine SRun.ck tbokGB 1 ⟨19, [(4, vi (-1))], []⟩ ?_
  refine SRun.nil ?_
  refine nx_n ?_
  refine swp_ret ?_
  replace h := Option.some.inj h
  subst h
  exact q_fr (fin1 (by kernel_rfl) (finV rfl SV.flat_of (holds_t (by kernel_rfl))))
noncomputable def impl_findOp (aLog : (List Op)) (aX : Op) : Option (Int) :=
  ((slices_IndexFunc_Op_impl_findOp_1 aLog aX).bind fun x1 => some x1)
set_option maxRecDepth 100000 in
set_option maxHeartbeats 4000000 in
theorem impl_findOp_run (aLog : (List Op)) (aX : Op) (r : Int) (h : impl_findOp aLog aX = some r) : SCall Tryd.prog 68 [.v (vl eOp aLog), .v (.agg [vi aX.Office, vi aX.Number, vs aX.Key, vs aX.Text, vl (eI .i64) aX.Seen])] ⟨[.v (vi r)], [], false⟩ := by
  refine scall_in Tryd.func68 rfl [(.tmp 4)] rfl (fun r => ⟨[.v (vi r)], [], false⟩) (r := r) ?_
  unfold impl_findOp at h
  refine swp_seq ?_
  refine swp_reg ?_
  refine SRun.ck tbokGB 2 ⟨8, [(0, vl eOp aLog), (3, .ref 3 0)], [(3, .box [vi aX.Office, vi aX.Number, vs aX.Key, vs aX.Text, vl (eI .i64) aX.Seen])]⟩ ?_
  refine SRun.nil ?_
  refine nx_n ?_
  refine swp_seq ?_
  refine swp_reg ?_
  refine SRun.ck tbokGB 2 ⟨8, [(5, vl eOp aLog), (6, .clo 89 [.ref 3 0])], [(3, .box [vi aX.Office, vi aX.Number, vs aX.Key, vs aX.Text, vl (eI .i64) aX.Seen])]⟩ ?_
  obtain ⟨x1, hx1, h⟩ := bind_some h
  refine SRun.ls (x_lstep_call (f := 88) (caps := []) (xs := [vl eOp aLog, .clo 89 [.ref 3 0]]) (ys := [vl eOp aLog, .clo 89 [.ptr [vi aX.Office, vi aX.Number, vs aX.Key, vs aX.Text, vl (eI .i64) aX.Seen] 0]]) (res := ⟨[.v (vi x1)], [], false⟩) (x := vi x1) (y := none) rfl ents88 (slices_IndexFunc_Op_impl_findOp_1_run aLog aX _ hx1) rfl (by intro hc; cases hc)) ?_
  refine SRun.ck tbokGB 1 ⟨8, [(4, vi x1)], []⟩ ?_
  refine SRun.nil ?_
  refine nx_n ?_
  refine swp_ret ?_
  replace h := Option.some.inj h
  subst h
  exact q_fr (fin1 (by kernel_rfl) (finV rfl SV.flat_of (holds_t (by kernel_rfl))))
theorem ents68 : Ents Tryd.prog 68 := ents_of Tryd.func68 (by kernel_rfl) rfl
noncomputable def slices_Equal_int64 (aS1 : (List Int)) (aS2 : (List Int)) : Option (Bool) :=
  (bif ((aS1.length : Int) != (aS2.length : Int)) then some false else (((forN (aS1.length : Int) (fun (i3 : Int) (_ : Unit) => ((at' aS1 i3).bind fun x7 => ((at' aS2 i3).bind fun x8 => (bif (x7 != x8) then some (.inr (.inr false)) else some (.inl ()))))) (fun (_ : Unit) => .inl ()) 0 ())).bind (Sum.elim (fun (_ : Unit) => some true) some)))
set_option maxRecDepth 100000 in
set_option maxHeartbeats 4000000 in
theorem slices_Equal_int64_run (aS1 : (List Int)) (aS2 : (List Int)) (r : Bool) (h : slices_Equal_int64 aS1 aS2 = some r) : SCall Tryd.prog 91 [.v (vl (eI .i64) aS1), .v (vl (eI .i64) aS2)] ⟨[.v (vb r)], [], false⟩ := by
  refine scall_in Tryd.func91 rfl [(.tmp 4)] rfl (fun r => ⟨[.v (vb r)], [], false⟩) (r := r) ?_
  unfold slices_Equal_int64 at h
  refine swp_seq ?_
  refine swp_reg ?_
  refine SRun.ck tbokGB 1 ⟨26, [(0, vl (eI .i64) aS1), (1, vl (eI .i64) aS2)], []⟩ ?_
  refine SRun.nil ?_
  refine nx_n ?_
  refine swp_seq ?_
  refine swp_seq ?_
  refine swp_reg ?_
  refine SRun.ck tbokGB 5 ⟨26, [(0, vl (eI .i64) aS1), (1, vl (eI .i64) aS2), (10, vb ((aS1.length : Int) != (aS2.length : Int)))], []⟩ ?_
  refine SRun.nil ?_
  refine nx_n ?_
  refine swp_cond (b := ((aS1.length : Int) != (aS2.length : Int))) (by kernel_rfl) (fun hb => ?_) (fun hb => ?_)
  replace h := cond_t hb h
  refine swp_seq ?_
  refine swp_reg ?_
  refine SRun.ck tbokGB 1 ⟨26, [(4, vb false)], []⟩ ?_
  refine SRun.nil ?_
  refine nx_n ?_
  refine swp_ret ?_
  replace h := Option.some.inj h
  subst h
  exact nx_r (q_fr (fin1 (by kernel_rfl) (finV rfl SV.flat_of (holds_t (by kernel_rfl)))))
  replace h := cond_f hb h
  refine swp_skip ?_
  refine nx_n ?_
  refine swp_seq ?_
  refine swp_seq ?_
  refine swp_reg ?_
  refine SRun.ck tbokGB 3 ⟨26, [(0, vl (eI .i64) aS1), (1, vl (eI .i64) aS2), (12, vi (aS1.length : Int)), (13, vi 0)], []⟩ ?_
  refine SRun.nil ?_
  refine nx_n ?_
  refine swp_seqE (r := r) h (fun j1 => ⟨26, [], []⟩) (fun v2 h => ?_) (fun j1 h => ?_)
  refine swp_blk (a := v2) ?_
  refine swp_lpL (r := v2) (s := (0, ())) _ (fun s3 => ⟨26, [(0, vl (eI .i64) aS1), (1, vl (eI .i64) aS2), (12, vi (aS1.length : Int)), (13, vi s3.1)], []⟩) _ (Le.sub0) h (fun s3 v4 h => ?_)
  refine swp_seq ?_
  refine swp_reg ?_
  refine SRun.ck tbokGB 1 ⟨26, [(0, vl (eI .i64) aS1), (1, vl (eI .i64) aS2), (12, vi (aS1.length : Int)), (13, vi s3.1), (14, vb (decide (s3.1 < (aS1.length : Int))))], []⟩ ?_
  refine SRun.nil ?_
  refine nx_n ?_
  refine swp_seq ?_
  refine swp_cond (b := (decide (s3.1 < (aS1.length : Int)))) (by kernel_rfl) (fun hb => ?_) (fun hb => ?_)
  replace h := cond_t hb h
  refine swp_skip ?_
  refine nx_n ?_
  refine swp_seq ?_
  refine swp_seqL (r := v4) h (fun j5 => ⟨26, [(0, vl (eI .i64) aS1), (1, vl (eI .i64) aS2), (12, vi (aS1.length : Int)), (13, vi s3.1)], []⟩) (fun v6 h => ?_) (fun j5 h => ?_)
  refine swp_blk (a := v6) ?_
  refine swp_seq ?_
  refine swp_reg ?_
  refine SRun.ck tbokGB 2 ⟨26, [(0, vl (eI .i64) aS1), (1, vl (eI .i64) aS2), (5, vi s3.1), (12, vi (aS1.length : Int)), (13, vi s3.1)], []⟩ ?_
  refine SRun.nil ?_
  refine nx_n ?_
  refine swp_seq ?_
  refine swp_dr mixed ?_
  refine DGo.chunk' tbokGB 2 (σ' := ⟨26, [(17, vi s3.1), (16, vl (eI .i64) aS1), (0, vl (eI .i64) aS1), (1, vl (eI .i64) aS2), (5, vi s3.1), (12, vi (aS1.length : Int)), (13, vi s3.1)], []⟩) (by kernel_rfl) ?_
  obtain ⟨x7, hx7, h⟩ := bind_some h
  refine DGo.step (x_index (L := aS1) (f := (eI .i64)) (ti := ti32) (tj := ti2) (e := 2) (k := .i64) tbokGB rfl hx7) ?_
  refine DGo.chunk' tbokGB 3 (σ' := ⟨26, [(21, vi s3.1), (20, vl (eI .i64) aS2), (19, vi x7), (18, .ptr (((eI .i64) x7).map .tr) 0), (17, vi s3.1), (16, vl (eI .i64) aS1), (0, vl (eI .i64) aS1), (1, vl (eI .i64) aS2), (5, vi s3.1), (12, vi (aS1.length : Int)), (13, vi s3.1)], []⟩) (by kernel_rfl) ?_
  obtain ⟨x8, hx8, h⟩ := bind_some h
  refine DGo.step (x_index (L := aS2) (f := (eI .i64)) (ti := ti32) (tj := ti2) (e := 2) (k := .i64) tbokGB rfl hx8) ?_
  refine DGo.chunk' tbokGB 2 (σ' := ⟨26, [(24, vb (x7 != x8)), (23, vi x8), (22, .ptr (((eI .i64) x8).map .tr) 0), (21, vi s3.1), (20, vl (eI .i64) aS2), (19, vi x7), (18, .ptr (((eI .i64) x7).map .tr) 0), (17, vi s3.1), (16, vl (eI .i64) aS1), (0, vl (eI .i64) aS1), (1, vl (eI .i64) aS2), (5, vi s3.1), (12, vi (aS1.length : Int)), (13, vi s3.1)], []⟩) (by kernel_rfl) ?_
  refine DGo.nil (by kernel_rfl) ?_
  refine nx_n ?_
  refine swp_cond (b := (x7 != x8)) (by kernel_rfl) (fun hb => ?_) (fun hb => ?_)
  replace h := cond_t hb h
  refine swp_seq ?_
  refine swp_reg ?_
  refine SRun.ck tbokGB 1 ⟨26, [(4, vb false)], []⟩ ?_
  refine SRun.nil ?_
  refine nx_n ?_
  refine swp_ret ?_
  replace h := Option.some.inj h
  subst h
  exact q_br (q_rr (q_rr (q_br (q_rr (q_fr (fin1 (by kernel_rfl) (finV rfl SV.flat_of (holds_t (by kernel_rfl)))))))))
  replace h := cond_f hb h
  refine swp_skip ?_
  replace h := Option.some.inj h
  subst h
  exact q_bn (q_l (Le.sub0))
  refine swp_reg ?_
  refine SRun.ck tbokGB 2 ⟨26, [(0, vl (eI .i64) aS1), (1, vl (eI .i64) aS2), (12, vi (aS1.length : Int)), (13, vi (w64 (s3.1 + 1)))], []⟩ ?_
  refine SRun.nil ?_
  replace h := Option.some.inj h
  subst h
  exact q_l (Le.sub0)
  replace h := cond_f hb h
  refine swp_exit ?_
  replace h := Option.some.inj h
  subst h
  exact nx_e (q_re (q_bh (q_l (Le.sub0))))
  refine swp_seq ?_
  refine swp_reg ?_
  refine SRun.ck tbokGB 1 ⟨26, [(4, vb true)], []⟩ ?_
  refine SRun.nil ?_
  refine nx_n ?_
  refine swp_ret ?_
  replace h := Option.some.inj h
  subst h
  exact q_fr (fin1 (by kernel_rfl) (finV rfl SV.flat_of (holds_t (by kernel_rfl))))
theorem ents91 : Ents Tryd.prog 91 := ents_of Tryd.func91 (by kernel_rfl) rfl
noncomputable def impl_Op_isSame (aX : Op) (aY : Op) : Option (Bool) :=
  (((bif (aX.Office == aY.Office) then (bif (aX.Number == aY.Number) then (bif (aX.Key.toList == aY.Key.toList) then (bif (aX.Text.toList == aY.Text.toList) then ((slices_Equal_int64 aX.Seen aY.Seen).bind fun x1 => some x1) else some false) else some false) else some false) else some false)).bind fun (j2 : Bool) => some j2)
set_option maxRecDepth 100000 in
set_option maxHeartbeats 4000000 in
theorem impl_Op_isSame_run (aX : Op) (aY : Op) (r : Bool) (h : impl_Op_isSame aX aY = some r) : SCall Tryd.prog 70 [.v (.agg [vi aX.Office, vi aX.Number, vs aX.Key, vs aX.Text, vl (eI .i64) aX.Seen]), .v (.agg [vi aY.Office, vi aY.Number, vs aY.Key, vs aY.Text, vl (eI .i64) aY.Seen])] ⟨[.v (vb r)], [], false⟩ := by
  refine scall_in Tryd.func70 rfl [(.tmp 4)] rfl (fun r => ⟨[.v (vb r)], [], false⟩) (r := r) ?_
  unfold impl_Op_isSame at h
  refine swp_seq ?_
  refine swp_reg ?_
  refine SRun.ck tbokGB 3 ⟨38, [(2, .ref 2 0), (3, .ref 3 0)], [(2, .box [vi aX.Office, vi aX.Number, vs aX.Key, vs aX.Text, vl (eI .i64) aX.Seen]), (3, .box [vi aY.Office, vi aY.Number, vs aY.Key, vs aY.Text, vl (eI .i64) aY.Seen])]⟩ ?_
  refine SRun.nil ?_
  refine nx_n ?_
  refine swp_seq ?_
  refine swp_regJ h (fun j2 => ⟨38, [(4, vb j2)], []⟩) (fun v3 h => ?_) (fun j2 h => ?_)
  refine SRun.ck tbokGB 6 ⟨38, [(2, .ref 2 0), (3, .ref 3 0), (10, vb (aX.Office == aY.Office))], [(2, .box [vi aX.Office, vi aX.Number, vs aX.Key, vs aX.Text, vl (eI .i64) aX.Seen]), (3, .box [vi aY.Office, vi aY.Number, vs aY.Key, vs aY.Text, vl (eI .i64) aY.Seen])]⟩ ?_
  refine SRun.cut [(10, fun b => b)] (b := (aX.Office == aY.Office)) (by kernel_rfl) (fun hb => ?_) (fun hb => ?_)
  replace h := cond_t hb h
  refine SRun.ck tbokGB 7 ⟨38, [(2, .ref 2 0), (3, .ref 3 0), (17, vb (aX.Number == aY.Number))], [(2, .box [vi aX.Office, vi aX.Number, vs aX.Key, vs aX.Text, vl (eI .i64) aX.Seen]), (3, .box [vi aY.Office, vi aY.Number, vs aY.Key, vs aY.Text, vl (eI .i64) aY.Seen])]⟩ ?_
  refine SRun.cut [(17, fun b => b)] (b := (aX.Number == aY.Number)) (by kernel_rfl) (fun hb => ?_) (fun hb => ?_)
  replace h := cond_t hb h
  refine SRun.ck tbokGB 7 ⟨38, [(2, .ref 2 0), (3, .ref 3 0), (24, vb (aX.Key.toList == aY.Key.toList))], [(2, .box [vi aX.Office, vi aX.Number, vs aX.Key, vs aX.Text, vl (eI .i64) aX.Seen]), (3, .box [vi aY.Office, vi aY.Number, vs aY.Key, vs aY.Text, vl (eI .i64) aY.Seen])]⟩ ?_
  refine SRun.cut [(24, fun b => b)] (b := (aX.Key.toList == aY.Key.toList)) (by kernel_rfl) (fun hb => ?_) (fun hb => ?_)
  replace h := cond_t hb h
  refine SRun.ck tbokGB 7 ⟨38, [(2, .ref 2 0), (3, .ref 3 0), (31, vb (aX.Text.toList == aY.Text.toList))], [(2, .box [vi aX.Office, vi aX.Number, vs aX.Key, vs aX.Text, vl (eI .i64) aX.Seen]), (3, .box [vi aY.Office, vi aY.Number, vs aY.Key, vs aY.Text, vl (eI .i64) aY.Seen])]⟩ ?_
  refine SRun.cut [(31, fun b => b)] (b := (aX.Text.toList == aY.Text.toList)) (by kernel_rfl) (fun hb => ?_) (fun hb => ?_)
  replace h := cond_t hb h
  refine SRun.ck tbokGB 4 ⟨38, [(31, vb true), (33, vl (eI .i64) aX.Seen), (35, vl (eI .i64) aY.Seen)], []⟩ ?_
  obtain ⟨x1, hx1, h⟩ := bind_some h
  refine SRun.ls (x_lstep_call (f := 91) (caps := []) (xs := [vl (eI .i64) aX.Seen, vl (eI .i64) aY.Seen]) (ys := [vl (eI .i64) aX.Seen, vl (eI .i64) aY.Seen]) (res := ⟨[.v (vb x1)], [], false⟩) (x := vb x1) (y := none) rfl ents91 (slices_Equal_int64_run aX.Seen aY.Seen _ hx1) rfl (by intro hc; cases hc)) ?_
  refine SRun.ck tbokGB 2 ⟨38, [(4, vb x1)], []⟩ ?_
  refine SRun.nil ?_
  replace h := Option.some.inj h
  subst h
  exact Le.sub0
  replace h := cond_f hb h
  refine SRun.ck tbokGB 7 ⟨38, [(4, vb false)], []⟩ ?_
  refine SRun.nil ?_
  replace h := Option.some.inj h
  subst h
  exact Le.sub0
  replace h := cond_f hb h
  refine SRun.ck tbokGB 14 ⟨38, [(4, vb false)], []⟩ ?_
  refine SRun.nil ?_
  replace h := Option.some.inj h
  subst h
  exact Le.sub0
  replace h := cond_f hb h
  refine SRun.ck tbokGB 21 ⟨38, [(4, vb false)], []⟩ ?_
  refine SRun.nil ?_
  replace h := Option.some.inj h
  subst h
  exact Le.sub0
  replace h := cond_f hb h
  refine SRun.ck tbokGB 28 ⟨38, [(4, vb false)], []⟩ ?_
  refine SRun.nil ?_
  replace h := Option.some.inj h
  subst h
  exact Le.sub0
  refine swp_ret ?_
  replace h := Option.some.inj h
  subst h
  exact q_fr (fin1 (by kernel_rfl) (finV rfl SV.flat_of (holds_t (by kernel_rfl))))
theorem ents70 : Ents Tryd.prog 70 := ents_of Tryd.func70 (by kernel_rfl) rfl
noncomputable def impl_MergeLogs (aA : (List Op)) (aB : (List Op)) : Option ((List Op) × Int) :=
  ((((impl_IsLog aA).bind fun x1 => (bif (!x1) then some true else ((impl_IsLog aB).bind fun x2 => some (!x2))))).bind fun (j3 : Bool) => (bif j3 then some (([] : List Op), 1) else ((impl_cloneLog aA).bind fun x5 => (((forN (aB.length : Int) (fun (i8 : Int) (s8 : (List Op)) => ((at' aB i8).bind fun x12 => ((impl_findOp aA x12).bind fun x13 => (bif (decide (x13 < 0)) then ((impl_Op_clone x12).bind fun x14 => ((app' s8 ([x14] : List Op)).bind fun x15 => some (.inl x15))) else ((at' aA x13).bind fun x16 => ((impl_Op_isSame x16 x12).bind fun x17 => (bif (!x17) then some (.inr (.inr (([] : List Op), 5))) else some (.inl s8)))))))) (fun (s8 : (List Op)) => .inl s8) 0 x5)).bind (Sum.elim (fun (j6 : (List Op)) => (bif (decide ((j6.length : Int) > 16)) then some (([] : List Op), 3) else some (j6, 0))) some)))))
set_option maxRecDepth 100000 in
set_option maxHeartbeats 4000000 in
theorem impl_MergeLogs_run (aA : (List Op)) (aB : (List Op)) (r : (List Op) × Int) (h : impl_MergeLogs aA aB = some r) : SCall Tryd.prog 36 [.v (vl eOp aA), .v (vl eOp aB)] ⟨[.deep 61 5 r.1.length [.flat, .flat, .flat, .flat, (.sl 2 1 [.flat])] (r.1.map eOp), .v (vi r.2)], [], false⟩ := by
  refine scall_in Tryd.func36 rfl [(.tmp 4), (.tmp 5)] rfl (fun r => ⟨[.deep 61 5 r.1.length [.flat, .flat, .flat, .flat, (.sl 2 1 [.flat])] (r.1.map eOp), .v (vi r.2)], [], false⟩) (r := r) ?_
  unfold impl_MergeLogs at h
  refine swp_seq ?_
  refine swp_reg ?_
  refine SRun.chunk tbokGB 1 (σ' := ⟨50, [(4, .own 4), (0, vl eOp aA), (1, vl eOp aB)], [(4, .arr 61 5 ([] : List Op).length (([] : List Op).map eOp))]⟩) (by kernel_rfl) ?_
  refine SRun.le (Le.deep0 (d := 4) (e := 61) (m := 5) (ss := [.flat, .flat, .flat, .flat, (.sl 2 1 [.flat])]) (by kernel_rfl) (by kernel_rfl)) ?_
  refine SRun.ck tbokGB 1 ⟨50, [(0, vl eOp aA), (1, vl eOp aB)], []⟩ ?_
  refine SRun.nil ?_
  refine nx_n ?_
  refine swp_seq ?_
  refine swp_seq ?_
  refine swp_regJ h (fun j3 => ⟨50, [(0, vl eOp aA), (1, vl eOp aB), (17, vb j3)], []⟩) (fun v4 h => ?_) (fun j3 h => ?_)
  refine SRun.ck tbokGB 1 ⟨50, [(0, vl eOp aA), (1, vl eOp aB), (10, vl eOp aA)], []⟩ ?_
  obtain ⟨x1, hx1, h⟩ := bind_some h
  refine SRun.ls (x_lstep_call (f := 15) (caps := []) (xs := [vl eOp aA]) (ys := [vl eOp aA]) (res := ⟨[.v (vb x1)], [], false⟩) (x := vb x1) (y := none) rfl ents15 (impl_IsLog_run aA _ hx1) rfl (by intro hc; cases hc)) ?_
  refine SRun.ck tbokGB 2 ⟨50, [(0, vl eOp aA), (1, vl eOp aB), (13, vb (!x1))], []⟩ ?_
  refine SRun.cut [(13, fun b => b)] (b := (!x1)) (by kernel_rfl) (fun hb => ?_) (fun hb => ?_)
  replace h := cond_t hb h
  refine SRun.ck tbokGB 4 ⟨50, [(0, vl eOp aA), (1, vl eOp aB), (17, vb true)], []⟩ ?_
  refine SRun.nil ?_
  replace h := Option.some.inj h
  subst h
  exact Le.sub0
  replace h := cond_f hb h
  refine SRun.ck tbokGB 1 ⟨50, [(0, vl eOp aA), (1, vl eOp aB), (13, vb false), (14, vl eOp aB)], []⟩ ?_
  obtain ⟨x2, hx2, h⟩ := bind_some h
  refine SRun.ls (x_lstep_call (f := 15) (caps := []) (xs := [vl eOp aB]) (ys := [vl eOp aB]) (res := ⟨[.v (vb x2)], [], false⟩) (x := vb x2) (y := none) rfl ents15 (impl_IsLog_run aB _ hx2) rfl (by intro hc; cases hc)) ?_
  refine SRun.ck tbokGB 2 ⟨50, [(0, vl eOp aA), (1, vl eOp aB), (17, vb (!x2))], []⟩ ?_
  refine SRun.nil ?_
  replace h := Option.some.inj h
  subst h
  exact Le.sub0
  refine swp_cond (b := j3) (by kernel_rfl) (fun hb => ?_) (fun hb => ?_)
  replace h := cond_t hb h
  refine swp_seq ?_
  refine swp_reg ?_
  refine SRun.chunk tbokGB 1 (σ' := ⟨50, [(4, .own 4), (0, vl eOp aA), (1, vl eOp aB), (17, vb j3)], [(4, .arr 61 5 ([] : List Op).length (([] : List Op).map eOp))]⟩) (by kernel_rfl) ?_
  refine SRun.le (Le.deep0 (d := 4) (e := 61) (m := 5) (ss := [.flat, .flat, .flat, .flat, (.sl 2 1 [.flat])]) (by kernel_rfl) (by kernel_rfl)) ?_
  refine SRun.ck tbokGB 1 ⟨50, [(4, .own 4), (5, vi 1)], [(4, .deep 61 5 ([] : List Op).length [.flat, .flat, .flat, .flat, (.sl 2 1 [.flat])] (([] : List Op).map eOp))]⟩ ?_
  refine SRun.nil ?_
  refine nx_n ?_
  refine swp_ret ?_
  replace h := Option.some.inj h
  subst h
  exact nx_r (q_fr (fin2 (by kernel_rfl) (finD (d := 4) (holds_t (by kernel_rfl)) (by kernel_rfl) (by kernel_rfl)) (finV rfl SV.flat_of (holds_t (by kernel_rfl)))))
  replace h := cond_f hb h
  refine swp_skip ?_
  refine nx_n ?_
  refine swp_seq ?_
  refine swp_reg ?_
  refine SRun.ck tbokGB 1 ⟨50, [(0, vl eOp aA), (1, vl eOp aB), (18, vl eOp aA)], []⟩ ?_
  obtain ⟨x5, hx5, h⟩ := bind_some h
  refine SRun.ls (x_lstep_call (f := 65) (caps := []) (xs := [vl eOp aA]) (ys := [vl eOp aA]) (res := ⟨[.deep 61 5 x5.length [.flat, .flat, .flat, .flat, (.sl 2 1 [.flat])] (x5.map eOp)], [], false⟩) (x := .own 19) (y := some (.deep 61 5 x5.length [.flat, .flat, .flat, .flat, (.sl 2 1 [.flat])] (x5.map eOp))) rfl ents65 (impl_cloneLog_run aA _ hx5) rfl (by intro hc; cases hc)) ?_
  refine SRun.ck tbokGB 1 ⟨50, [(0, vl eOp aA), (1, vl eOp aB), (6, .own 19)], [(19, .deep 61 5 x5.length [.flat, .flat, .flat, .flat, (.sl 2 1 [.flat])] (x5.map eOp))]⟩ ?_
  refine SRun.nil ?_
  refine nx_n ?_
  refine swp_seq ?_
  refine swp_seq ?_
  refine swp_reg ?_
  refine SRun.ck tbokGB 3 ⟨50, [(0, vl eOp aA), (6, .own 19), (20, vl eOp aB), (21, vi (aB.length : Int)), (22, vi 0)], [(19, .deep 61 5 x5.length [.flat, .flat, .flat, .flat, (.sl 2 1 [.flat])] (x5.map eOp))]⟩ ?_
  refine SRun.nil ?_
  refine nx_n ?_
  refine swp_seqE (r := r) h (fun j6 => ⟨50, [(6, .own 6)], [(6, .deep 61 5 j6.length [.flat, .flat, .flat, .flat, (.sl 2 1 [.flat])] (j6.map eOp))]⟩) (fun v7 h => ?_) (fun j6 h => ?_)
  refine swp_blk (a := v7) ?_
  refine swp_lpL (r := v7) (s := (0, x5)) _ (fun s8 => ⟨50, [(0, vl eOp aA), (6, .own 6), (20, vl eOp aB), (21, vi (aB.length : Int)), (22, vi s8.1)], [(6, .deep 61 5 s8.2.length [.flat, .flat, .flat, .flat, (.sl 2 1 [.flat])] (s8.2.map eOp))]⟩) _ ((Le.sub' ([(0, vl eOp aA), (6, .own 19), (20, vl eOp aB), (21, vi (aB.length : Int)), (22, vi 0)] : List (Nat × SV)) ([(19, .deep 61 5 x5.length [.flat, .flat, .flat, .flat, (.sl 2 1 [.flat])] (x5.map eOp))] : List (Nat × SO)) (by kernel_rfl) (by kernel_rfl)).trans ((Le.ren' (d := 19) (e := 6) (by kernel_rfl) (by kernel_rfl) (by kernel_rfl)).trans (Le.sub0))) h (fun s8 v9 h => ?_)
  refine swp_seq ?_
  refine swp_reg ?_
  refine SRun.ck tbokGB 1 ⟨50, [(0, vl eOp aA), (6, .own 6), (20, vl eOp aB), (21, vi (aB.length : Int)), (22, vi s8.1), (23, vb (decide (s8.1 < (aB.length : Int))))], [(6, .deep 61 5 s8.2.length [.flat, .flat, .flat, .flat, (.sl 2 1 [.flat])] (s8.2.map eOp))]⟩ ?_
  refine SRun.nil ?_
  refine nx_n ?_
  refine swp_seq ?_
  refine swp_cond (b := (decide (s8.1 < (aB.length : Int)))) (by kernel_rfl) (fun hb => ?_) (fun hb => ?_)
  replace h := cond_t hb h
  refine swp_skip ?_
  refine nx_n ?_
  refine swp_seq ?_
  refine swp_seqL (r := v9) h (fun j10 => ⟨50, [(0, vl eOp aA), (6, .own 6), (20, vl eOp aB), (21, vi (aB.length : Int)), (22, vi s8.1)], [(6, .deep 61 5 j10.length [.flat, .flat, .flat, .flat, (.sl 2 1 [.flat])] (j10.map eOp))]⟩) (fun v11 h => ?_) (fun j10 h => ?_)
  refine swp_blk (a := v11) ?_
  refine swp_seq ?_
  refine swp_reg ?_
  obtain ⟨x12, hx12, h⟩ := bind_some h
  refine SRun.ls (x_index (L := aB) (f := eOp) (ti := ti25) (tj := ti61) (e := 61) (k := .i64) tbokGB rfl hx12) ?_
  refine SRun.ck tbokGB 2 ⟨50, [(0, vl eOp aA), (6, .own 6), (8, .ref 8 0), (20, vl eOp aB), (21, vi (aB.length : Int)), (22, vi s8.1), (25, .agg [vi x12.Office, vi x12.Number, vs x12.Key, vs x12.Text, vl (eI .i64) x12.Seen])], [(6, .deep 61 5 s8.2.length [.flat, .flat, .flat, .flat, (.sl 2 1 [.flat])] (s8.2.map eOp)), (8, .box [vi 0, vi 0, vs (ByteArray.mk #[]), vs (ByteArray.mk #[]), vl (eI .i64) ([] : List Int)])]⟩ ?_
  refine SRun.estep (x_estep_store (d := 8) (k := 0) (ti := ti61) (cs := [vi 0, vi 0, vs (ByteArray.mk #[]), vs (ByteArray.mk #[]), vl (eI .i64) ([] : List Int)]) (vs := [vi x12.Office, vi x12.Number, vs x12.Key, vs x12.Text, vl (eI .i64) x12.Seen]) (v := .agg [vi x12.Office, vi x12.Number, vs x12.Key, vs x12.Text, vl (eI .i64) x12.Seen]) tbokGB rfl rfl) ?_
  refine SRun.nil ?_
  refine nx_n ?_
  refine swp_seq ?_
  refine swp_reg ?_
  refine SRun.ck tbokGB 2 ⟨50, [(0, vl eOp aA), (6, .own 6), (8, .ref 8 0), (20, vl eOp aB), (21, vi (aB.length : Int)), (22, vi s8.1), (26, vl eOp aA), (27, .agg [vi x12.Office, vi x12.Number, vs x12.Key, vs x12.Text, vl (eI .i64) x12.Seen])], [(6, .deep 61 5 s8.2.length [.flat, .flat, .flat, .flat, (.sl 2 1 [.flat])] (s8.2.map eOp)), (8, .box [vi x12.Office, vi x12.Number, vs x12.Key, vs x12.Text, vl (eI .i64) x12.Seen])]⟩ ?_
  obtain ⟨x13, hx13, h⟩ := bind_some h
  refine SRun.ls (x_lstep_call (f := 68) (caps := []) (xs := [vl eOp aA, .agg [vi x12.Office, vi x12.Number, vs x12.Key, vs x12.Text, vl (eI .i64) x12.Seen]]) (ys := [vl eOp aA, .agg [vi x12.Office, vi x12.Number, vs x12.Key, vs x12.Text, vl (eI .i64) x12.Seen]]) (res := ⟨[.v (vi x13)], [], false⟩) (x := vi x13) (y := none) rfl ents68 (impl_findOp_run aA x12 _ hx13) rfl (by intro hc; cases hc)) ?_
  refine SRun.ck tbokGB 1 ⟨50, [(0, vl eOp aA), (6, .own 6), (8, .ref 8 0), (9, vi x13), (20, vl eOp aB), (21, vi (aB.length : Int)), (22, vi s8.1)], [(6, .deep 61 5 s8.2.length [.flat, .flat, .flat, .flat, (.sl 2 1 [.flat])] (s8.2.map eOp)), (8, .box [vi x12.Office, vi x12.Number, vs x12.Key, vs x12.Text, vl (eI .i64) x12.Seen])]⟩ ?_
  refine SRun.nil ?_
  refine nx_n ?_
  refine swp_blk (a := v11) ?_
  refine swp_seq ?_
  refine swp_reg ?_
  refine SRun.ck tbokGB 3 ⟨50, [(0, vl eOp aA), (6, .own 6), (8, .ref 8 0), (9, vi x13), (20, vl eOp aB), (21, vi (aB.length : Int)), (22, vi s8.1), (29, vb (decide (x13 < 0)))], [(6, .deep 61 5 s8.2.length [.flat, .flat, .flat, .flat, (.sl 2 1 [.flat])] (s8.2.map eOp)), (8, .box [vi x12.Office, vi x12.Number, vs x12.Key, vs x12.Text, vl (eI .i64) x12.Seen])]⟩ ?_
  refine SRun.nil ?_
  refine nx_n ?_
  refine swp_cond (b := (decide (x13 < 0))) (by kernel_rfl) (fun hb => ?_) (fun hb => ?_)
  replace h := cond_t hb h
  refine swp_reg ?_
  refine SRun.ck tbokGB 2 ⟨50, [(0, vl eOp aA), (20, vl eOp aB), (21, vi (aB.length : Int)), (22, vi s8.1), (32, .own 6), (33, .agg [vi x12.Office, vi x12.Number, vs x12.Key, vs x12.Text, vl (eI .i64) x12.Seen])], [(6, .deep 61 5 s8.2.length [.flat, .flat, .flat, .flat, (.sl 2 1 [.flat])] (s8.2.map eOp))]⟩ ?_
  obtain ⟨x14, hx14, h⟩ := bind_some h
  refine SRun.ls (x_lstep_call (f := 69) (caps := []) (xs := [.agg [vi x12.Office, vi x12.Number, vs x12.Key, vs x12.Text, vl (eI .i64) x12.Seen]]) (ys := [.agg [vi x12.Office, vi x12.Number, vs x12.Key, vs x12.Text, vl (eI .i64) x12.Seen]]) (res := ⟨[.part [vi x14.Office, vi x14.Number, vs x14.Key, vs x14.Text] [] (.arr 2 1 x14.Seen.length (x14.Seen.map (eI .i64)))], [], false⟩) (x := .agg [vi x14.Office, vi x14.Number, vs x14.Key, vs x14.Text, .own 34]) (y := some (.arr 2 1 x14.Seen.length (x14.Seen.map (eI .i64)))) rfl ents69 (impl_Op_clone_run x12 _ hx14) rfl (by intro hc; cases hc)) ?_
  refine SRun.estep (x_build_deep (ti := ti25) (tj := ti61) (e := 61) (m := 5) (zs := [.int .i64 0, .int .i64 0, .string (ByteArray.mk #[]), .string (ByteArray.mk #[]), .slice none 0 0]) (v := .agg [vi x14.Office, vi x14.Number, vs x14.Key, vs x14.Text, .own 34]) (cs := [vi x14.Office, vi x14.Number, vs x14.Key, vs x14.Text, .own 34]) (ss := [.flat, .flat, .flat, .flat, (.sl 2 1 [.flat])]) (ts := [.int .i64 x14.Office, .int .i64 x14.Number, .str x14.Key, .str x14.Text, .sl x14.Seen.length (x14.Seen.map (eI .i64))]) (ds := [34]) tbokGB rfl rfl rfl (.cons _ _ _ [] _ _ _ _ (.flat (.int .i64 x14.Office) rfl) (.cons _ _ _ [] _ _ _ _ (.flat (.int .i64 x14.Number) rfl) (.cons _ _ _ [] _ _ _ _ (.flat (.str x14.Key) rfl) (.cons _ _ _ [] _ _ _ _ (.flat (.str x14.Text) rfl) (.cons _ _ _ [34] _ _ _ _ (cD_arr (d := 34) (e := 2) (m := 1) (n := x14.Seen.length) (es := x14.Seen.map (eI .i64)) (ss := [.flat]) (flat_map (eI_flat .i64) _)) .nil (by decide)) (by decide)) (by decide)) (by decide)) (by decide))) ?_
  obtain ⟨x15, hx15, h⟩ := bind_some h
  refine SRun.estep (x_append_deep (f := eOp) (L := s8.2) (M := ([x14] : List Op)) (t := 25) (ti := ti25) (tj := ti61) (zs := [.int .i64 0, .int .i64 0, .string (ByteArray.mk #[]), .string (ByteArray.mk #[]), .slice none 0 0]) (e := 61) (m := 5) (d := 6) (dx := 35) (ss := [.flat, .flat, .flat, .flat, (.sl 2 1 [.flat])]) hx15 tbokGB rfl rfl rfl rfl) ?_
  refine SRun.ck tbokGB 1 ⟨50, [(0, vl eOp aA), (6, .own 36), (20, vl eOp aB), (21, vi (aB.length : Int)), (22, vi s8.1)], [(36, .deep 61 5 x15.length [.flat, .flat, .flat, .flat, (.sl 2 1 [.flat])] (x15.map eOp))]⟩ ?_
  refine SRun.nil ?_
  replace h := Option.some.inj h
  subst h
  exact q_bn (q_bn (q_l ((Le.sub' ([(0, vl eOp aA), (6, .own 36), (20, vl eOp aB), (21, vi (aB.length : Int)), (22, vi s8.1)] : List (Nat × SV)) ([(36, .deep 61 5 x15.length [.flat, .flat, .flat, .flat, (.sl 2 1 [.flat])] (x15.map eOp))] : List (Nat × SO)) (by kernel_rfl) (by kernel_rfl)).trans ((Le.ren' (d := 36) (e := 6) (by kernel_rfl) (by kernel_rfl) (by kernel_rfl)).trans (Le.sub0)))))
  replace h := cond_f hb h
  refine swp_seq ?_
  refine swp_dr mixed ?_
  refine DGo.chunk' tbokGB 2 (σ' := ⟨50, [(39, vi x13), (38, vl eOp aA), (0, vl eOp aA), (6, .own 6), (8, .ref 8 0), (9, vi x13), (20, vl eOp aB), (21, vi (aB.length : Int)), (22, vi s8.1), (29, vb (decide (x13 < 0)))], [(6, .deep 61 5 s8.2.length [.flat, .flat, .flat, .flat, (.sl 2 1 [.flat])] (s8.2.map eOp)), (8, .box [vi x12.Office, vi x12.Number, vs x12.Key, vs x12.Text, vl (eI .i64) x12.Seen])]⟩) (by kernel_rfl) ?_
  obtain ⟨x16, hx16, h⟩ := bind_some h
  refine DGo.step (x_index (L := aA) (f := eOp) (ti := ti25) (tj := ti61) (e := 61) (k := .i64) tbokGB rfl hx16) ?_
  refine DGo.chunk' tbokGB 2 (σ' := ⟨50, [(42, .agg [vi x12.Office, vi x12.Number, vs x12.Key, vs x12.Text, vl (eI .i64) x12.Seen]), (41, .agg [vi x16.Office, vi x16.Number, vs x16.Key, vs x16.Text, vl (eI .i64) x16.Seen]), (40, .ptr ((eOp x16).map .tr) 0), (39, vi x13), (38, vl eOp aA), (0, vl eOp aA), (6, .own 6), (8, .ref 8 0), (9, vi x13), (20, vl eOp aB), (21, vi (aB.length : Int)), (22, vi s8.1), (29, vb (decide (x13 < 0)))], [(6, .deep 61 5 s8.2.length [.flat, .flat, .flat, .flat, (.sl 2 1 [.flat])] (s8.2.map eOp)), (8, .box [vi x12.Office, vi x12.Number, vs x12.Key, vs x12.Text, vl (eI .i64) x12.Seen])]⟩) (by kernel_rfl) ?_
  obtain ⟨x17, hx17, h⟩ := bind_some h
  refine DGo.step (x_lstep_call (f := 70) (caps := []) (xs := [.agg [vi x16.Office, vi x16.Number, vs x16.Key, vs x16.Text, vl (eI .i64) x16.Seen], .agg [vi x12.Office, vi x12.Number, vs x12.Key, vs x12.Text, vl (eI .i64) x12.Seen]]) (ys := [.agg [vi x16.Office, vi x16.Number, vs x16.Key, vs x16.Text, vl (eI .i64) x16.Seen], .agg [vi x12.Office, vi x12.Number, vs x12.Key, vs x12.Text, vl (eI .i64) x12.Seen]]) (res := ⟨[.v (vb x17)], [], false⟩) (x := vb x17) (y := none) rfl ents70 (impl_Op_isSame_run x16 x12 _ hx17) rfl (by intro hc; cases hc)) ?_
  refine DGo.chunk' tbokGB 2 (σ' := ⟨50, [(37, vb (!x17)), (44, vb (!x17)), (43, vb x17), (42, .agg [vi x12.Office, vi x12.Number, vs x12.Key, vs x12.Text, vl (eI .i64) x12.Seen]), (41, .agg [vi x16.Office, vi x16.Number, vs x16.Key, vs x16.Text, vl (eI .i64) x16.Seen]), (40, .ptr ((eOp x16).map .tr) 0), (39, vi x13), (38, vl eOp aA), (0, vl eOp aA), (6, .own 6), (8, .ref 8 0), (9, vi x13), (20, vl eOp aB), (21, vi (aB.length : Int)), (22, vi s8.1), (29, vb (decide (x13 < 0)))], [(6, .deep 61 5 s8.2.length [.flat, .flat, .flat, .flat, (.sl 2 1 [.flat])] (s8.2.map eOp)), (8, .box [vi x12.Office, vi x12.Number, vs x12.Key, vs x12.Text, vl (eI .i64) x12.Seen])]⟩) (by kernel_rfl) ?_
  refine DGo.nil (by kernel_rfl) ?_
  refine nx_n ?_
  refine swp_cond (b := (!x17)) (by kernel_rfl) (fun hb => ?_) (fun hb => ?_)
  replace h := cond_t hb h
  refine swp_seq ?_
  refine swp_reg ?_
  refine SRun.chunk tbokGB 1 (σ' := ⟨50, [(4, .own 4), (37, vb (!x17)), (44, vb (!x17)), (43, vb x17), (42, .agg [vi x12.Office, vi x12.Number, vs x12.Key, vs x12.Text, vl (eI .i64) x12.Seen]), (41, .agg [vi x16.Office, vi x16.Number, vs x16.Key, vs x16.Text, vl (eI .i64) x16.Seen]), (40, .ptr ((eOp x16).map .tr) 0), (39, vi x13), (38, vl eOp aA), (0, vl eOp aA), (6, .own 6), (8, .ref 8 0), (9, vi x13), (20, vl eOp aB), (21, vi (aB.length : Int)), (22, vi s8.1), (29, vb (decide (x13 < 0)))], [(4, .arr 61 5 ([] : List Op).length (([] : List Op).map eOp)), (6, .deep 61 5 s8.2.length [.flat, .flat, .flat, .flat, (.sl 2 1 [.flat])] (s8.2.map eOp)), (8, .box [vi x12.Office, vi x12.Number, vs x12.Key, vs x12.Text, vl (eI .i64) x12.Seen])]⟩) (by kernel_rfl) ?_
  refine SRun.le (Le.deep0 (d := 4) (e := 61) (m := 5) (ss := [.flat, .flat, .flat, .flat, (.sl 2 1 [.flat])]) (by kernel_rfl) (by kernel_rfl)) ?_
  refine SRun.ck tbokGB 1 ⟨50, [(4, .own 4), (5, vi 5)], [(4, .deep 61 5 ([] : List Op).length [.flat, .flat, .flat, .flat, (.sl 2 1 [.flat])] (([] : List Op).map eOp))]⟩ ?_
  refine SRun.nil ?_
  refine nx_n ?_
  refine swp_ret ?_
  replace h := Option.some.inj h
  subst h
  exact q_br (q_br (q_rr (q_rr (q_br (q_rr (q_fr (fin2 (by kernel_rfl) (finD (d := 4) (holds_t (by kernel_rfl)) (by kernel_rfl) (by kernel_rfl)) (finV rfl SV.flat_of (holds_t (by kernel_rfl))))))))))
  replace h := cond_f hb h
  refine swp_skip ?_
  replace h := Option.some.inj h
  subst h
  exact q_bn (q_bn (q_l (Le.sub0)))
  refine swp_reg ?_
  refine SRun.ck tbokGB 2 ⟨50, [(0, vl eOp aA), (6, .own 6), (20, vl eOp aB), (21, vi (aB.length : Int)), (22, vi (w64 (s8.1 + 1)))], [(6, .deep 61 5 j10.length [.flat, .flat, .flat, .flat, (.sl 2 1 [.flat])] (j10.map eOp))]⟩ ?_
  refine SRun.nil ?_
  replace h := Option.some.inj h
  subst h
  exact q_l (Le.sub0)
  replace h := cond_f hb h
  refine swp_exit ?_
  replace h := Option.some.inj h
  subst h
  exact nx_e (q_re (q_bh (q_l (Le.sub0))))
  refine swp_seq ?_
  refine swp_seq ?_
  refine swp_reg ?_
  refine SRun.ck tbokGB 1 ⟨50, [(6, .own 6), (46, .own 6)], [(6, .deep 61 5 j6.length [.flat, .flat, .flat, .flat, (.sl 2 1 [.flat])] (j6.map eOp))]⟩ ?_
  refine SRun.ls (x_len_deep (d := 6) (e := 61) (e' := 61) (m := 5) (n := j6.length) (ss := [.flat, .flat, .flat, .flat, (.sl 2 1 [.flat])]) (es := j6.map eOp) (ti := ti25) tbokGB rfl rfl rfl) ?_
  refine SRun.ck tbokGB 1 ⟨50, [(6, .own 6), (48, vb (decide ((j6.length : Int) > 16)))], [(6, .deep 61 5 j6.length [.flat, .flat, .flat, .flat, (.sl 2 1 [.flat])] (j6.map eOp))]⟩ ?_
  refine SRun.nil ?_
  refine nx_n ?_
  refine swp_cond (b := (decide ((j6.length : Int) > 16))) (by kernel_rfl) (fun hb => ?_) (fun hb => ?_)
  replace h := cond_t hb h
  refine swp_seq ?_
  refine swp_reg ?_
  refine SRun.chunk tbokGB 1 (σ' := ⟨50, [(4, .own 4), (6, .own 6), (48, vb (decide ((j6.length : Int) > 16)))], [(4, .arr 61 5 ([] : List Op).length (([] : List Op).map eOp)), (6, .deep 61 5 j6.length [.flat, .flat, .flat, .flat, (.sl 2 1 [.flat])] (j6.map eOp))]⟩) (by kernel_rfl) ?_
  refine SRun.le (Le.deep0 (d := 4) (e := 61) (m := 5) (ss := [.flat, .flat, .flat, .flat, (.sl 2 1 [.flat])]) (by kernel_rfl) (by kernel_rfl)) ?_
  refine SRun.ck tbokGB 1 ⟨50, [(4, .own 4), (5, vi 3)], [(4, .deep 61 5 ([] : List Op).length [.flat, .flat, .flat, .flat, (.sl 2 1 [.flat])] (([] : List Op).map eOp))]⟩ ?_
  refine SRun.nil ?_
  refine nx_n ?_
  refine swp_ret ?_
  replace h := Option.some.inj h
  subst h
  exact nx_r (q_fr (fin2 (by kernel_rfl) (finD (d := 4) (holds_t (by kernel_rfl)) (by kernel_rfl) (by kernel_rfl)) (finV rfl SV.flat_of (holds_t (by kernel_rfl)))))
  replace h := cond_f hb h
  refine swp_skip ?_
  refine nx_n ?_
  refine swp_seq ?_
  refine swp_reg ?_
  refine SRun.ck tbokGB 3 ⟨50, [(4, .own 6), (5, vi 0)], [(6, .deep 61 5 j6.length [.flat, .flat, .flat, .flat, (.sl 2 1 [.flat])] (j6.map eOp))]⟩ ?_
  refine SRun.nil ?_
  refine nx_n ?_
  refine swp_ret ?_
  replace h := Option.some.inj h
  subst h
  exact q_fr (fin2 (by kernel_rfl) (finD (d := 6) (holds_t (by kernel_rfl)) (by kernel_rfl) (by kernel_rfl)) (finV rfl SV.flat_of (holds_t (by kernel_rfl))))
theorem ents36 : Ents Tryd.prog 36 := ents_of Tryd.func36 (by kernel_rfl) rfl
noncomputable def laws_FnExactMergeLogs (aAA : (List Op)) (aAB : (List Op)) : Option (Bool) :=
  ((laws_szOpS aAA 1048576).bind fun x1 => (bif (decide (x1 < 0)) then some true else ((laws_szOpS aAB x1).bind fun x2 => (bif (decide (x2 < 0)) then some true else ((laws_toOpS aAA).bind fun x3 => ((laws_toOpS aAB).bind fun x4 => ((spec_MergeLogs x3 x4).bind fun x5 => ((laws_toOpS aAA).bind fun x6 => ((laws_toOpS aAB).bind fun x7 => ((impl_MergeLogs x6 x7).bind fun x8 => ((((laws_eqOpS x8.1 x5.1).bind fun x9 => (bif (!x9) then some true else some (x8.2 != x5.2)))).bind fun (j10 : Bool) => (bif j10 then some false else ((laws_toOpS aAA).bind fun x12 => ((laws_eqOpS x6 x12).bind fun x13 => (bif (!x13) then some false else ((laws_toOpS aAB).bind fun x14 => ((laws_eqOpS x7 x14).bind fun x15 => (bif (!x15) then some false else ((laws_markOpS x6 1).bind fun x16 => ((laws_markOpS x7 x16.1).bind fun x17 => (((bif (decide (x17.1 < 0)) then some true else ((laws_eqOpS x8.1 x5.1).bind fun x18 => (bif (!x18) then some true else some (x8.2 != x5.2))))).bind fun (j19 : Bool) => (bif j19 then some false else ((laws_markOpS x8.1 1).bind fun x21 => ((laws_heldOpS x21.2 1).bind fun x22 => (bif (decide (x22 < 0)) then some false else (bif (x22 != x21.1) then some false else ((laws_toOpS aAA).bind fun x23 => ((laws_toOpS aAB).bind fun x24 => ((impl_MergeLogs x23 x24).bind fun x25 => ((((laws_eqOpS x25.1 x5.1).bind fun x26 => (bif (!x26) then some true else some (x25.2 != x5.2)))).bind fun (j27 : Bool) => (bif j27 then some false else ((laws_heldOpS x21.2 1).bind fun x29 => (bif (decide (x29 < 0)) then some false else (bif (x29 != x21.1) then some false else some true))))))))))))))))))))))))))))))))))
set_option maxRecDepth 100000 in
set_option maxHeartbeats 4000000 in
theorem laws_FnExactMergeLogs_run (aAA : (List Op)) (aAB : (List Op)) (r : Bool) (h : laws_FnExactMergeLogs aAA aAB = some r) : SCall Tryd.prog 10 [.v (vl eOp aAA), .v (vl eOp aAB)] ⟨[.v (vb r)], [], false⟩ := by
  refine scall_in Tryd.func10 rfl [(.tmp 4)] rfl (fun r => ⟨[.v (vb r)], [], false⟩) (r := r) ?_
  unfold laws_FnExactMergeLogs at h
  refine swp_seq ?_
  refine swp_reg ?_
  refine SRun.ck tbokGB 1 ⟨119, [(0, vl eOp aAA), (1, vl eOp aAB)], []⟩ ?_
  refine SRun.nil ?_
  refine nx_n ?_
  refine swp_seq ?_
  refine swp_reg ?_
  refine SRun.ck tbokGB 1 ⟨119, [(0, vl eOp aAA), (1, vl eOp aAB), (5, vi 1048576)], []⟩ ?_
  refine SRun.nil ?_
  refine nx_n ?_
  refine swp_seq ?_
  refine swp_reg ?_
  refine SRun.ck tbokGB 2 ⟨119, [(0, vl eOp aAA), (1, vl eOp aAB), (17, vl eOp aAA), (18, vi 1048576)], []⟩ ?_
  obtain ⟨x1, hx1, h⟩ := bind_some h
  refine SRun.ls (x_lstep_call (f := 12) (caps := []) (xs := [vl eOp aAA, vi 1048576]) (ys := [vl eOp aAA, vi 1048576]) (res := ⟨[.v (vi x1)], [], false⟩) (x := vi x1) (y := none) rfl ents12 (laws_szOpS_run aAA 1048576 _ hx1) rfl (by intro hc; cases hc)) ?_
  refine SRun.ck tbokGB 1 ⟨119, [(0, vl eOp aAA), (1, vl eOp aAB), (5, vi x1)], []⟩ ?_
  refine SRun.nil ?_
  refine nx_n ?_
  refine swp_seq ?_
  refine swp_seq ?_
  refine swp_reg ?_
  refine SRun.ck tbokGB 2 ⟨119, [(0, vl eOp aAA), (1, vl eOp aAB), (5, vi x1), (21, vb (decide (x1 < 0)))], []⟩ ?_
  refine SRun.nil ?_
  refine nx_n ?_
  refine swp_cond (b := (decide (x1 < 0))) (by kernel_rfl) (fun hb => ?_) (fun hb => ?_)
  replace h := cond_t hb h
  refine swp_seq ?_
  refine swp_reg ?_
  refine SRun.ck tbokGB 1 ⟨119, [(4, vb true)], []⟩ ?_
  refine SRun.nil ?_
  refine nx_n ?_
  refine swp_ret ?_
  replace h := Option.some.inj h
  subst h
  exact nx_r (q_fr (fin1 (by kernel_rfl) (finV rfl SV.flat_of (holds_t (by kernel_rfl)))))
  replace h := cond_f hb h
  refine swp_skip ?_
  refine nx_n ?_
  refine swp_seq ?_
  refine swp_reg ?_
  refine SRun.ck tbokGB 2 ⟨119, [(0, vl eOp aAA), (1, vl eOp aAB), (22, vl eOp aAB), (23, vi x1)], []⟩ ?_
  obtain ⟨x2, hx2, h⟩ := bind_some h
  refine SRun.ls (x_lstep_call (f := 12) (caps := []) (xs := [vl eOp aAB, vi x1]) (ys := [vl eOp aAB, vi x1]) (res := ⟨[.v (vi x2)], [], false⟩) (x := vi x2) (y := none) rfl ents12 (laws_szOpS_run aAB x1 _ hx2) rfl (by intro hc; cases hc)) ?_
  refine SRun.ck tbokGB 1 ⟨119, [(0, vl eOp aAA), (1, vl eOp aAB), (5, vi x2)], []⟩ ?_
  refine SRun.nil ?_
  refine nx_n ?_
  refine swp_seq ?_
  refine swp_seq ?_
  refine swp_reg ?_
  refine SRun.ck tbokGB 2 ⟨119, [(0, vl eOp aAA), (1, vl eOp aAB), (26, vb (decide (x2 < 0)))], []⟩ ?_
  refine SRun.nil ?_
  refine nx_n ?_
  refine swp_cond (b := (decide (x2 < 0))) (by kernel_rfl) (fun hb => ?_) (fun hb => ?_)
  replace h := cond_t hb h
  refine swp_seq ?_
  refine swp_reg ?_
  refine SRun.ck tbokGB 1 ⟨119, [(4, vb true)], []⟩ ?_
  refine SRun.nil ?_
  refine nx_n ?_
  refine swp_ret ?_
  replace h := Option.some.inj h
  subst h
  exact nx_r (q_fr (fin1 (by kernel_rfl) (finV rfl SV.flat_of (holds_t (by kernel_rfl)))))
  replace h := cond_f hb h
  refine swp_skip ?_
  refine nx_n ?_
  refine swp_seq ?_
  refine swp_reg ?_
  refine SRun.ck tbokGB 1 ⟨119, [(0, vl eOp aAA), (1, vl eOp aAB), (28, vl eOp aAA)], []⟩ ?_
  obtain ⟨x3, hx3, h⟩ := bind_some h
  refine SRun.ls (x_lstep_call (f := 14) (caps := []) (xs := [vl eOp aAA]) (ys := [vl eOp aAA]) (res := ⟨[.deep 61 5 x3.length [.flat, .flat, .flat, .flat, (.sl 2 1 [.flat])] (x3.map eOp)], [], false⟩) (x := .own 29) (y := some (.deep 61 5 x3.length [.flat, .flat, .flat, .flat, (.sl 2 1 [.flat])] (x3.map eOp))) rfl ents14 (laws_toOpS_run aAA _ hx3) rfl (by intro hc; cases hc)) ?_
  refine SRun.ck tbokGB 1 ⟨119, [(0, vl eOp aAA), (1, vl eOp aAB), (29, .own 29), (30, vl eOp aAB)], [(29, .deep 61 5 x3.length [.flat, .flat, .flat, .flat, (.sl 2 1 [.flat])] (x3.map eOp))]⟩ ?_
  obtain ⟨x4, hx4, h⟩ := bind_some h
  refine SRun.ls (x_lstep_call (f := 14) (caps := []) (xs := [vl eOp aAB]) (ys := [vl eOp aAB]) (res := ⟨[.deep 61 5 x4.length [.flat, .flat, .flat, .flat, (.sl 2 1 [.flat])] (x4.map eOp)], [], false⟩) (x := .own 31) (y := some (.deep 61 5 x4.length [.flat, .flat, .flat, .flat, (.sl 2 1 [.flat])] (x4.map eOp))) rfl ents14 (laws_toOpS_run aAB _ hx4) rfl (by intro hc; cases hc)) ?_
  obtain ⟨x5, hx5, h⟩ := bind_some h
  refine SRun.ls (x_lstep_call (f := 35) (caps := []) (xs := [.own 29, .own 31]) (ys := [vl eOp x3, vl eOp x4]) (res := ⟨[.deep 61 5 x5.1.length [.flat, .flat, .flat, .flat, (.sl 2 1 [.flat])] (x5.1.map eOp), .v (vi x5.2)], [], false⟩) (x := .tup [.own 32, vi x5.2]) (y := some (.deep 61 5 x5.1.length [.flat, .flat, .flat, .flat, (.sl 2 1 [.flat])] (x5.1.map eOp))) rfl ents35 (spec_MergeLogs_run x3 x4 _ hx5) rfl (by intro hc; cases hc)) ?_
  refine SRun.ck tbokGB 5 ⟨119, [(0, vl eOp aAA), (1, vl eOp aAB), (6, .own 32), (7, vi x5.2)], [(32, .deep 61 5 x5.1.length [.flat, .flat, .flat, .flat, (.sl 2 1 [.flat])] (x5.1.map eOp))]⟩ ?_
  refine SRun.nil ?_
  refine nx_n ?_
  refine swp_seq ?_
  refine swp_reg ?_
  refine SRun.ck tbokGB 1 ⟨119, [(0, vl eOp aAA), (1, vl eOp aAB), (6, .own 32), (7, vi x5.2), (35, vl eOp aAA)], [(32, .deep 61 5 x5.1.length [.flat, .flat, .flat, .flat, (.sl 2 1 [.flat])] (x5.1.map eOp))]⟩ ?_
  obtain ⟨x6, hx6, h⟩ := bind_some h
  refine SRun.ls (x_lstep_call (f := 14) (caps := []) (xs := [vl eOp aAA]) (ys := [vl eOp aAA]) (res := ⟨[.deep 61 5 x6.length [.flat, .flat, .flat, .flat, (.sl 2 1 [.flat])] (x6.map eOp)], [], false⟩) (x := .own 36) (y := some (.deep 61 5 x6.length [.flat, .flat, .flat, .flat, (.sl 2 1 [.flat])] (x6.map eOp))) rfl ents14 (laws_toOpS_run aAA _ hx6) rfl (by intro hc; cases hc)) ?_
  refine SRun.ck tbokGB 1 ⟨119, [(0, vl eOp aAA), (1, vl eOp aAB), (6, .own 32), (7, vi x5.2), (8, .own 36)], [(32, .deep 61 5 x5.1.length [.flat, .flat, .flat, .flat, (.sl 2 1 [.flat])] (x5.1.map eOp)), (36, .deep 61 5 x6.length [.flat, .flat, .flat, .flat, (.sl 2 1 [.flat])] (x6.map eOp))]⟩ ?_
  refine SRun.nil ?_
  refine nx_n ?_
  refine swp_seq ?_
  refine swp_reg ?_
  refine SRun.ck tbokGB 1 ⟨119, [(0, vl eOp aAA), (1, vl eOp aAB), (6, .own 32), (7, vi x5.2), (8, .own 36), (37, vl eOp aAB)], [(32, .deep 61 5 x5.1.length [.flat, .flat, .flat, .flat, (.sl 2 1 [.flat])] (x5.1.map eOp)), (36, .deep 61 5 x6.length [.flat, .flat, .flat, .flat, (.sl 2 1 [.flat])] (x6.map eOp))]⟩ ?_
  obtain ⟨x7, hx7, h⟩ := bind_some h
  refine SRun.ls (x_lstep_call (f := 14) (caps := []) (xs := [vl eOp aAB]) (ys := [vl eOp aAB]) (res := ⟨[.deep 61 5 x7.length [.flat, .flat, .flat, .flat, (.sl 2 1 [.flat])] (x7.map eOp)], [], false⟩) (x := .own 38) (y := some (.deep 61 5 x7.length [.flat, .flat, .flat, .flat, (.sl 2 1 [.flat])] (x7.map eOp))) rfl ents14 (laws_toOpS_run aAB _ hx7) rfl (by intro hc; cases hc)) ?_
  refine SRun.ck tbokGB 1 ⟨119, [(0, vl eOp aAA), (1, vl eOp aAB), (6, .own 32), (7, vi x5.2), (8, .own 36), (9, .own 38)], [(32, .deep 61 5 x5.1.length [.flat, .flat, .flat, .flat, (.sl 2 1 [.flat])] (x5.1.map eOp)), (36, .deep 61 5 x6.length [.flat, .flat, .flat, .flat, (.sl 2 1 [.flat])] (x6.map eOp)), (38, .deep 61 5 x7.length [.flat, .flat, .flat, .flat, (.sl 2 1 [.flat])] (x7.map eOp))]⟩ ?_
  refine SRun.nil ?_
  refine nx_n ?_
  refine swp_seq ?_
  refine swp_reg ?_
  refine SRun.ck tbokGB 2 ⟨119, [(0, vl eOp aAA), (1, vl eOp aAB), (6, .own 32), (7, vi x5.2), (8, .own 36), (9, .own 38), (40, .own 36), (41, .own 38)], [(32, .deep 61 5 x5.1.length [.flat, .flat, .flat, .flat, (.sl 2 1 [.flat])] (x5.1.map eOp)), (36, .deep 61 5 x6.length [.flat, .flat, .flat, .flat, (.sl 2 1 [.flat])] (x6.map eOp)), (38, .deep 61 5 x7.length [.flat, .flat, .flat, .flat, (.sl 2 1 [.flat])] (x7.map eOp))]⟩ ?_
  obtain ⟨x8, hx8, h⟩ := bind_some h
  refine SRun.ls (x_lstep_call (f := 36) (caps := []) (xs := [.own 36, .own 38]) (ys := [vl eOp x6, vl eOp x7]) (res := ⟨[.deep 61 5 x8.1.length [.flat, .flat, .flat, .flat, (.sl 2 1 [.flat])] (x8.1.map eOp), .v (vi x8.2)], [], false⟩) (x := .tup [.own 42, vi x8.2]) (y := some (.deep 61 5 x8.1.length [.flat, .flat, .flat, .flat, (.sl 2 1 [.flat])] (x8.1.map eOp))) rfl ents36 (impl_MergeLogs_run x6 x7 _ hx8) rfl (by intro hc; cases hc)) ?_
  refine SRun.ck tbokGB 5 ⟨119, [(0, vl eOp aAA), (1, vl eOp aAB), (6, .own 32), (7, vi x5.2), (8, .own 36), (9, .own 38), (10, .own 42), (11, vi x8.2)], [(32, .deep 61 5 x5.1.length [.flat, .flat, .flat, .flat, (.sl 2 1 [.flat])] (x5.1.map eOp)), (36, .deep 61 5 x6.length [.flat, .flat, .flat, .flat, (.sl 2 1 [.flat])] (x6.map eOp)), (38, .deep 61 5 x7.length [.flat, .flat, .flat, .flat, (.sl 2 1 [.flat])] (x7.map eOp)), (42, .deep 61 5 x8.1.length [.flat, .flat, .flat, .flat, (.sl 2 1 [.flat])] (x8.1.map eOp))]⟩ ?_
  refine SRun.nil ?_
  refine nx_n ?_
  refine swp_seq ?_
  refine swp_seq ?_
  refine swp_regJ h (fun j10 => ⟨119, [(0, vl eOp aAA), (1, vl eOp aAB), (6, .own 6), (7, vi x5.2), (8, .own 8), (9, .own 9), (10, .own 10), (11, vi x8.2), (53, vb j10)], [(6, .deep 61 5 x5.1.length [.flat, .flat, .flat, .flat, (.sl 2 1 [.flat])] (x5.1.map eOp)), (8, .deep 61 5 x6.length [.flat, .flat, .flat, .flat, (.sl 2 1 [.flat])] (x6.map eOp)), (9, .deep 61 5 x7.length [.flat, .flat, .flat, .flat, (.sl 2 1 [.flat])] (x7.map eOp)), (10, .deep 61 5 x8.1.length [.flat, .flat, .flat, .flat, (.sl 2 1 [.flat])] (x8.1.map eOp))]⟩) (fun v11 h => ?_) (fun j10 h => ?_)
  refine SRun.ck tbokGB 2 ⟨119, [(0, vl eOp aAA), (1, vl eOp aAB), (6, .own 32), (7, vi x5.2), (8, .own 36), (9, .own 38), (10, .own 42), (11, vi x8.2), (45, .own 42), (46, .own 32)], [(32, .deep 61 5 x5.1.length [.flat, .flat, .flat, .flat, (.sl 2 1 [.flat])] (x5.1.map eOp)), (36, .deep 61 5 x6.length [.flat, .flat, .flat, .flat, (.sl 2 1 [.flat])] (x6.map eOp)), (38, .deep 61 5 x7.length [.flat, .flat, .flat, .flat, (.sl 2 1 [.flat])] (x7.map eOp)), (42, .deep 61 5 x8.1.length [.flat, .flat, .flat, .flat, (.sl 2 1 [.flat])] (x8.1.map eOp))]⟩ ?_
  obtain ⟨x9, hx9, h⟩ := bind_some h
  refine SRun.ls (x_lstep_call (f := 16) (caps := []) (xs := [.own 42, .own 32]) (ys := [vl eOp x8.1, vl eOp x5.1]) (res := ⟨[.v (vb x9)], [], false⟩) (x := vb x9) (y := none) rfl ents16 (laws_eqOpS_run x8.1 x5.1 _ hx9) rfl (by intro hc; cases hc)) ?_
  refine SRun.ck tbokGB 2 ⟨119, [(0, vl eOp aAA), (1, vl eOp aAB), (6, .own 32), (7, vi x5.2), (8, .own 36), (9, .own 38), (10, .own 42), (11, vi x8.2), (49, vb (!x9))], [(32, .deep 61 5 x5.1.length [.flat, .flat, .flat, .flat, (.sl 2 1 [.flat])] (x5.1.map eOp)), (36, .deep 61 5 x6.length [.flat, .flat, .flat, .flat, (.sl 2 1 [.flat])] (x6.map eOp)), (38, .deep 61 5 x7.length [.flat, .flat, .flat, .flat, (.sl 2 1 [.flat])] (x7.map eOp)), (42, .deep 61 5 x8.1.length [.flat, .flat, .flat, .flat, (.sl 2 1 [.flat])] (x8.1.map eOp))]⟩ ?_
  refine SRun.cut [(49, fun b => b)] (b := (!x9)) (by kernel_rfl) (fun hb => ?_) (fun hb => ?_)
  replace h := cond_t hb h
  refine SRun.ck tbokGB 4 ⟨119, [(0, vl eOp aAA), (1, vl eOp aAB), (6, .own 32), (7, vi x5.2), (8, .own 36), (9, .own 38), (10, .own 42), (11, vi x8.2), (53, vb true)], [(32, .deep 61 5 x5.1.length [.flat, .flat, .flat, .flat, (.sl 2 1 [.flat])] (x5.1.map eOp)), (36, .deep 61 5 x6.length [.flat, .flat, .flat, .flat, (.sl 2 1 [.flat])] (x6.map eOp)), (38, .deep 61 5 x7.length [.flat, .flat, .flat, .flat, (.sl 2 1 [.flat])] (x7.map eOp)), (42, .deep 61 5 x8.1.length [.flat, .flat, .flat, .flat, (.sl 2 1 [.flat])] (x8.1.map eOp))]⟩ ?_
  refine SRun.nil ?_
  replace h := Option.some.inj h
  subst h
  exact (Le.sub' ([(0, vl eOp aAA), (1, vl eOp aAB), (6, .own 32), (7, vi x5.2), (8, .own 36), (9, .own 38), (10, .own 42), (11, vi x8.2), (53, vb true)] : List (Nat × SV)) ([(32, .deep 61 5 x5.1.length [.flat, .flat, .flat, .flat, (.sl 2 1 [.flat])] (x5.1.map eOp)), (36, .deep 61 5 x6.length [.flat, .flat, .flat, .flat, (.sl 2 1 [.flat])] (x6.map eOp)), (38, .deep 61 5 x7.length [.flat, .flat, .flat, .flat, (.sl 2 1 [.flat])] (x7.map eOp)), (42, .deep 61 5 x8.1.length [.flat, .flat, .flat, .flat, (.sl 2 1 [.flat])] (x8.1.map eOp))] : List (Nat × SO)) (by kernel_rfl) (by kernel_rfl)).trans ((Le.ren' (d := 32) (e := 6) (by kernel_rfl) (by kernel_rfl) (by kernel_rfl)).trans ((Le.ren' (d := 36) (e := 8) (by kernel_rfl) (by kernel_rfl) (by kernel_rfl)).trans ((Le.ren' (d := 38) (e := 9) (by kernel_rfl) (by kernel_rfl) (by kernel_rfl)).trans ((Le.ren' (d := 42) (e := 10) (by kernel_rfl) (by kernel_rfl) (by kernel_rfl)).trans (Le.sub0)))))
  replace h := cond_f hb h
  refine SRun.ck tbokGB 4 ⟨119, [(0, vl eOp aAA), (1, vl eOp aAB), (6, .own 32), (7, vi x5.2), (8, .own 36), (9, .own 38), (10, .own 42), (11, vi x8.2), (53, vb (x8.2 != x5.2))], [(32, .deep 61 5 x5.1.length [.flat, .flat, .flat, .flat, (.sl 2 1 [.flat])] (x5.1.map eOp)), (36, .deep 61 5 x6.length [.flat, .flat, .flat, .flat, (.sl 2 1 [.flat])] (x6.map eOp)), (38, .deep 61 5 x7.length [.flat, .flat, .flat, .flat, (.sl 2 1 [.flat])] (x7.map eOp)), (42, .deep 61 5 x8.1.length [.flat, .flat, .flat, .flat, (.sl 2 1 [.flat])] (x8.1.map eOp))]⟩ ?_
  refine SRun.nil ?_
  replace h := Option.some.inj h
  subst h
  exact (Le.sub' ([(0, vl eOp aAA), (1, vl eOp aAB), (6, .own 32), (7, vi x5.2), (8, .own 36), (9, .own 38), (10, .own 42), (11, vi x8.2), (53, vb (x8.2 != x5.2))] : List (Nat × SV)) ([(32, .deep 61 5 x5.1.length [.flat, .flat, .flat, .flat, (.sl 2 1 [.flat])] (x5.1.map eOp)), (36, .deep 61 5 x6.length [.flat, .flat, .flat, .flat, (.sl 2 1 [.flat])] (x6.map eOp)), (38, .deep 61 5 x7.length [.flat, .flat, .flat, .flat, (.sl 2 1 [.flat])] (x7.map eOp)), (42, .deep 61 5 x8.1.length [.flat, .flat, .flat, .flat, (.sl 2 1 [.flat])] (x8.1.map eOp))] : List (Nat × SO)) (by kernel_rfl) (by kernel_rfl)).trans ((Le.ren' (d := 32) (e := 6) (by kernel_rfl) (by kernel_rfl) (by kernel_rfl)).trans ((Le.ren' (d := 36) (e := 8) (by kernel_rfl) (by kernel_rfl) (by kernel_rfl)).trans ((Le.ren' (d := 38) (e := 9) (by kernel_rfl) (by kernel_rfl) (by kernel_rfl)).trans ((Le.ren' (d := 42) (e := 10) (by kernel_rfl) (by kernel_rfl) (by kernel_rfl)).trans (Le.sub0)))))
  refine swp_cond (b := j10) (by kernel_rfl) (fun hb => ?_) (fun hb => ?_)
  replace h := cond_t hb h
  refine swp_seq ?_
  refine swp_reg ?_
  refine SRun.ck tbokGB 1 ⟨119, [(4, vb false)], []⟩ ?_
  refine SRun.nil ?_
  refine nx_n ?_
  refine swp_ret ?_
  replace h := Option.some.inj h
  subst h
  exact nx_r (q_fr (fin1 (by kernel_rfl) (finV rfl SV.flat_of (holds_t (by kernel_rfl)))))
  replace h := cond_f hb h
  refine swp_skip ?_
  refine nx_n ?_
  refine swp_seq ?_
  refine swp_seq ?_
  refine swp_reg ?_
  refine SRun.ck tbokGB 2 ⟨119, [(0, vl eOp aAA), (1, vl eOp aAB), (6, .own 6), (7, vi x5.2), (8, .own 8), (9, .own 9), (10, .own 10), (11, vi x8.2), (54, .own 8), (55, vl eOp aAA)], [(6, .deep 61 5 x5.1.length [.flat, .flat, .flat, .flat, (.sl 2 1 [.flat])] (x5.1.map eOp)), (8, .deep 61 5 x6.length [.flat, .flat, .flat, .flat, (.sl 2 1 [.flat])] (x6.map eOp)), (9, .deep 61 5 x7.length [.flat, .flat, .flat, .flat, (.sl 2 1 [.flat])] (x7.map eOp)), (10, .deep 61 5 x8.1.length [.flat, .flat, .flat, .flat, (.sl 2 1 [.flat])] (x8.1.map eOp))]⟩ ?_
  obtain ⟨x12, hx12, h⟩ := bind_some h
  refine SRun.ls (x_lstep_call (f := 14) (caps := []) (xs := [vl eOp aAA]) (ys := [vl eOp aAA]) (res := ⟨[.deep 61 5 x12.length [.flat, .flat, .flat, .flat, (.sl 2 1 [.flat])] (x12.map eOp)], [], false⟩) (x := .own 56) (y := some (.deep 61 5 x12.length [.flat, .flat, .flat, .flat, (.sl 2 1 [.flat])] (x12.map eOp))) rfl ents14 (laws_toOpS_run aAA _ hx12) rfl (by intro hc; cases hc)) ?_
  obtain ⟨x13, hx13, h⟩ := bind_some h
  refine SRun.ls (x_lstep_call (f := 16) (caps := []) (xs := [.own 8, .own 56]) (ys := [vl eOp x6, vl eOp x12]) (res := ⟨[.v (vb x13)], [], false⟩) (x := vb x13) (y := none) rfl ents16 (laws_eqOpS_run x6 x12 _ hx13) rfl (by intro hc; cases hc)) ?_
  refine SRun.ck tbokGB 1 ⟨119, [(0, vl eOp aAA), (1, vl eOp aAB), (6, .own 6), (7, vi x5.2), (8, .own 8), (9, .own 9), (10, .own 10), (11, vi x8.2), (58, vb (!x13))], [(6, .deep 61 5 x5.1.length [.flat, .flat, .flat, .flat, (.sl 2 1 [.flat])] (x5.1.map eOp)), (8, .deep 61 5 x6.length [.flat, .flat, .flat, .flat, (.sl 2 1 [.flat])] (x6.map eOp)), (9, .deep 61 5 x7.length [.flat, .flat, .flat, .flat, (.sl 2 1 [.flat])] (x7.map eOp)), (10, .deep 61 5 x8.1.length [.flat, .flat, .flat, .flat, (.sl 2 1 [.flat])] (x8.1.map eOp))]⟩ ?_
  refine SRun.nil ?_
  refine nx_n ?_
  refine swp_cond (b := (!x13)) (by kernel_rfl) (fun hb => ?_) (fun hb => ?_)
  replace h := cond_t hb h
  refine swp_seq ?_
  refine swp_reg ?_
  refine SRun.ck tbokGB 1 ⟨119, [(4, vb false)], []⟩ ?_
  refine SRun.nil ?_
  refine nx_n ?_
  refine swp_ret ?_
  replace h := Option.some.inj h
  subst h
  exact nx_r (q_fr (fin1 (by kernel_rfl) (finV rfl SV.flat_of (holds_t (by kernel_rfl)))))
  replace h := cond_f hb h
  refine swp_skip ?_
  refine nx_n ?_
  refine swp_seq ?_
  refine swp_seq ?_
  refine swp_reg ?_
  refine SRun.ck tbokGB 2 ⟨119, [(0, vl eOp aAA), (1, vl eOp aAB), (6, .own 6), (7, vi x5.2), (8, .own 8), (9, .own 9), (10, .own 10), (11, vi x8.2), (59, .own 9), (60, vl eOp aAB)], [(6, .deep 61 5 x5.1.length [.flat, .flat, .flat, .flat, (.sl 2 1 [.flat])] (x5.1.map eOp)), (8, .deep 61 5 x6.length [.flat, .flat, .flat, .flat, (.sl 2 1 [.flat])] (x6.map eOp)), (9, .deep 61 5 x7.length [.flat, .flat, .flat, .flat, (.sl 2 1 [.flat])] (x7.map eOp)), (10, .deep 61 5 x8.1.length [.flat, .flat, .flat, .flat, (.sl 2 1 [.flat])] (x8.1.map eOp))]⟩ ?_
  obtain ⟨x14, hx14, h⟩ := bind_some h
  refine SRun.ls (x_lstep_call (f := 14) (caps := []) (xs := [vl eOp aAB]) (ys := [vl eOp aAB]) (res := ⟨[.deep 61 5 x14.length [.flat, .flat, .flat, .flat, (.sl 2 1 [.flat])] (x14.map eOp)], [], false⟩) (x := .own 61) (y := some (.deep 61 5 x14.length [.flat, .flat, .flat, .flat, (.sl 2 1 [.flat])] (x14.map eOp))) rfl ents14 (laws_toOpS_run aAB _ hx14) rfl (by intro hc; cases hc)) ?_
  obtain ⟨x15, hx15, h⟩ := bind_some h
  refine SRun.ls (x_lstep_call (f := 16) (caps := []) (xs := [.own 9, .own 61]) (ys := [vl eOp x7, vl eOp x14]) (res := ⟨[.v (vb x15)], [], false⟩) (x := vb x15) (y := none) rfl ents16 (laws_eqOpS_run x7 x14 _ hx15) rfl (by intro hc; cases hc)) ?_
  refine SRun.ck tbokGB 1 ⟨119, [(0, vl eOp aAA), (1, vl eOp aAB), (6, .own 6), (7, vi x5.2), (8, .own 8), (9, .own 9), (10, .own 10), (11, vi x8.2), (63, vb (!x15))], [(6, .deep 61 5 x5.1.length [.flat, .flat, .flat, .flat, (.sl 2 1 [.flat])] (x5.1.map eOp)), (8, .deep 61 5 x6.length [.flat, .flat, .flat, .flat, (.sl 2 1 [.flat])] (x6.map eOp)), (9, .deep 61 5 x7.length [.flat, .flat, .flat, .flat, (.sl 2 1 [.flat])] (x7.map eOp)), (10, .deep 61 5 x8.1.length [.flat, .flat, .flat, .flat, (.sl 2 1 [.flat])] (x8.1.map eOp))]⟩ ?_
  refine SRun.nil ?_
  refine nx_n ?_
  refine swp_cond (b := (!x15)) (by kernel_rfl) (fun hb => ?_) (fun hb => ?_)
  replace h := cond_t hb h
  refine swp_seq ?_
  refine swp_reg ?_
  refine SRun.ck tbokGB 1 ⟨119, [(4, vb false)], []⟩ ?_
  refine SRun.nil ?_
  refine nx_n ?_
  refine swp_ret ?_
  replace h := Option.some.inj h
  subst h
  exact nx_r (q_fr (fin1 (by kernel_rfl) (finV rfl SV.flat_of (holds_t (by kernel_rfl)))))
  replace h := cond_f hb h
  refine swp_skip ?_
  refine nx_n ?_
  refine swp_seq ?_
  refine swp_reg ?_
  refine SRun.ck tbokGB 1 ⟨119, [(0, vl eOp aAA), (1, vl eOp aAB), (6, .own 6), (7, vi x5.2), (8, .own 8), (9, .own 9), (10, .own 10), (11, vi x8.2), (12, vi 1)], [(6, .deep 61 5 x5.1.length [.flat, .flat, .flat, .flat, (.sl 2 1 [.flat])] (x5.1.map eOp)), (8, .deep 61 5 x6.length [.flat, .flat, .flat, .flat, (.sl 2 1 [.flat])] (x6.map eOp)), (9, .deep 61 5 x7.length [.flat, .flat, .flat, .flat, (.sl 2 1 [.flat])] (x7.map eOp)), (10, .deep 61 5 x8.1.length [.flat, .flat, .flat, .flat, (.sl 2 1 [.flat])] (x8.1.map eOp))]⟩ ?_
  refine SRun.nil ?_
  refine nx_n ?_
  refine swp_seq ?_
  refine swp_reg ?_
  refine SRun.ck tbokGB 2 ⟨119, [(0, vl eOp aAA), (1, vl eOp aAB), (6, .own 6), (7, vi x5.2), (9, .own 9), (10, .own 10), (11, vi x8.2), (64, .own 8), (65, vi 1)], [(6, .deep 61 5 x5.1.length [.flat, .flat, .flat, .flat, (.sl 2 1 [.flat])] (x5.1.map eOp)), (8, .deep 61 5 x6.length [.flat, .flat, .flat, .flat, (.sl 2 1 [.flat])] (x6.map eOp)), (9, .deep 61 5 x7.length [.flat, .flat, .flat, .flat, (.sl 2 1 [.flat])] (x7.map eOp)), (10, .deep 61 5 x8.1.length [.flat, .flat, .flat, .flat, (.sl 2 1 [.flat])] (x8.1.map eOp))]⟩ ?_
  obtain ⟨x16, hx16, h⟩ := bind_some h
  refine SRun.estep (x_estep_call (f := 22) (caps := []) (xs := [.own 8, vi 1]) (pre := []) (post := [vi 1]) (qs := [vi 1]) (z := .own 8) (d := 8) (pl := 0) (y := .deep 61 5 x6.length [.flat, .flat, .flat, .flat, (.sl 2 1 [.flat])] (x6.map eOp)) (y' := .deep 61 5 x16.2.length [.flat, .flat, .flat, .flat, (.sl 2 1 [.flat])] (x16.2.map eOp)) (res := ⟨[.v (vi x16.1)], [(0, .deep 61 5 x16.2.length [.flat, .flat, .flat, .flat, (.sl 2 1 [.flat])] (x16.2.map eOp))], false⟩) (x := vi x16.1) (yo := none) rfl rfl rfl rfl rfl ents22 (laws_markOpS_run x6 1 _ hx16) rfl rfl false (fun _ => rfl) (by intro hc; cases hc)) ?_
  refine SRun.ck tbokGB 1 ⟨119, [(0, vl eOp aAA), (1, vl eOp aAB), (6, .own 6), (7, vi x5.2), (9, .own 9), (10, .own 10), (11, vi x8.2), (12, vi x16.1)], [(6, .deep 61 5 x5.1.length [.flat, .flat, .flat, .flat, (.sl 2 1 [.flat])] (x5.1.map eOp)), (9, .deep 61 5 x7.length [.flat, .flat, .flat, .flat, (.sl 2 1 [.flat])] (x7.map eOp)), (10, .deep 61 5 x8.1.length [.flat, .flat, .flat, .flat, (.sl 2 1 [.flat])] (x8.1.map eOp))]⟩ ?_
  refine SRun.nil ?_
  refine nx_n ?_
  refine swp_seq ?_
  refine swp_reg ?_
  refine SRun.ck tbokGB 2 ⟨119, [(0, vl eOp aAA), (1, vl eOp aAB), (6, .own 6), (7, vi x5.2), (10, .own 10), (11, vi x8.2), (67, .own 9), (68, vi x16.1)], [(6, .deep 61 5 x5.1.length [.flat, .flat, .flat, .flat, (.sl 2 1 [.flat])] (x5.1.map eOp)), (9, .deep 61 5 x7.length [.flat, .flat, .flat, .flat, (.sl 2 1 [.flat])] (x7.map eOp)), (10, .deep 61 5 x8.1.length [.flat, .flat, .flat, .flat, (.sl 2 1 [.flat])] (x8.1.map eOp))]⟩ ?_
  obtain ⟨x17, hx17, h⟩ := bind_some h
  refine SRun.estep (x_estep_call (f := 22) (caps := []) (xs := [.own 9, vi x16.1]) (pre := []) (post := [vi x16.1]) (qs := [vi x16.1]) (z := .own 9) (d := 9) (pl := 0) (y := .deep 61 5 x7.length [.flat, .flat, .flat, .flat, (.sl 2 1 [.flat])] (x7.map eOp)) (y' := .deep 61 5 x17.2.length [.flat, .flat, .flat, .flat, (.sl 2 1 [.flat])] (x17.2.map eOp)) (res := ⟨[.v (vi x17.1)], [(0, .deep 61 5 x17.2.length [.flat, .flat, .flat, .flat, (.sl 2 1 [.flat])] (x17.2.map eOp))], false⟩) (x := vi x17.1) (yo := none) rfl rfl rfl rfl rfl ents22 (laws_markOpS_run x7 x16.1 _ hx17) rfl rfl false (fun _ => rfl) (by intro hc; cases hc)) ?_
  refine SRun.ck tbokGB 1 ⟨119, [(0, vl eOp aAA), (1, vl eOp aAB), (6, .own 6), (7, vi x5.2), (10, .own 10), (11, vi x8.2), (12, vi x17.1)], [(6, .deep 61 5 x5.1.length [.flat, .flat, .flat, .flat, (.sl 2 1 [.flat])] (x5.1.map eOp)), (10, .deep 61 5 x8.1.length [.flat, .flat, .flat, .flat, (.sl 2 1 [.flat])] (x8.1.map eOp))]⟩ ?_
  refine SRun.nil ?_
  refine nx_n ?_
  refine swp_seq ?_
  refine swp_seq ?_
  refine swp_regJ h (fun j19 => ⟨119, [(0, vl eOp aAA), (1, vl eOp aAB), (6, .own 6), (7, vi x5.2), (10, .own 10), (82, vb j19)], [(6, .deep 61 5 x5.1.length [.flat, .flat, .flat, .flat, (.sl 2 1 [.flat])] (x5.1.map eOp)), (10, .deep 61 5 x8.1.length [.flat, .flat, .flat, .flat, (.sl 2 1 [.flat])] (x8.1.map eOp))]⟩) (fun v20 h => ?_) (fun j19 h => ?_)
  refine SRun.ck tbokGB 3 ⟨119, [(0, vl eOp aAA), (1, vl eOp aAB), (6, .own 6), (7, vi x5.2), (10, .own 10), (11, vi x8.2), (72, vb (decide (x17.1 < 0)))], [(6, .deep 61 5 x5.1.length [.flat, .flat, .flat, .flat, (.sl 2 1 [.flat])] (x5.1.map eOp)), (10, .deep 61 5 x8.1.length [.flat, .flat, .flat, .flat, (.sl 2 1 [.flat])] (x8.1.map eOp))]⟩ ?_
  refine SRun.cut [(72, fun b => b)] (b := (decide (x17.1 < 0))) (by kernel_rfl) (fun hb => ?_) (fun hb => ?_)
  replace h := cond_t hb h
  refine SRun.ck tbokGB 10 ⟨119, [(0, vl eOp aAA), (1, vl eOp aAB), (6, .own 6), (7, vi x5.2), (10, .own 10), (82, vb true)], [(6, .deep 61 5 x5.1.length [.flat, .flat, .flat, .flat, (.sl 2 1 [.flat])] (x5.1.map eOp)), (10, .deep 61 5 x8.1.length [.flat, .flat, .flat, .flat, (.sl 2 1 [.flat])] (x8.1.map eOp))]⟩ ?_
  refine SRun.nil ?_
  replace h := Option.some.inj h
  subst h
  exact Le.sub0
  replace h := cond_f hb h
  refine SRun.ck tbokGB 2 ⟨119, [(0, vl eOp aAA), (1, vl eOp aAB), (6, .own 6), (7, vi x5.2), (10, .own 10), (11, vi x8.2), (72, vb false), (73, .own 10), (74, .own 6)], [(6, .deep 61 5 x5.1.length [.flat, .flat, .flat, .flat, (.sl 2 1 [.flat])] (x5.1.map eOp)), (10, .deep 61 5 x8.1.length [.flat, .flat, .flat, .flat, (.sl 2 1 [.flat])] (x8.1.map eOp))]⟩ ?_
  obtain ⟨x18, hx18, h⟩ := bind_some h
  refine SRun.ls (x_lstep_call (f := 16) (caps := []) (xs := [.own 10, .own 6]) (ys := [vl eOp x8.1, vl eOp x5.1]) (res := ⟨[.v (vb x18)], [], false⟩) (x := vb x18) (y := none) rfl ents16 (laws_eqOpS_run x8.1 x5.1 _ hx18) rfl (by intro hc; cases hc)) ?_
  refine SRun.ck tbokGB 3 ⟨119, [(0, vl eOp aAA), (1, vl eOp aAB), (6, .own 6), (7, vi x5.2), (10, .own 10), (11, vi x8.2), (78, vb (!x18))], [(6, .deep 61 5 x5.1.length [.flat, .flat, .flat, .flat, (.sl 2 1 [.flat])] (x5.1.map eOp)), (10, .deep 61 5 x8.1.length [.flat, .flat, .flat, .flat, (.sl 2 1 [.flat])] (x8.1.map eOp))]⟩ ?_
  refine SRun.cut [(78, fun b => b)] (b := (!x18)) (by kernel_rfl) (fun hb => ?_) (fun hb => ?_)
  replace h := cond_t hb h
  refine SRun.ck tbokGB 4 ⟨119, [(0, vl eOp aAA), (1, vl eOp aAB), (6, .own 6), (7, vi x5.2), (10, .own 10), (82, vb true)], [(6, .deep 61 5 x5.1.length [.flat, .flat, .flat, .flat, (.sl 2 1 [.flat])] (x5.1.map eOp)), (10, .deep 61 5 x8.1.length [.flat, .flat, .flat, .flat, (.sl 2 1 [.flat])] (x8.1.map eOp))]⟩ ?_
  refine SRun.nil ?_
  replace h := Option.some.inj h
  subst h
  exact Le.sub0
  replace h := cond_f hb h
  refine SRun.ck tbokGB 4 ⟨119, [(0, vl eOp aAA), (1, vl eOp aAB), (6, .own 6), (7, vi x5.2), (10, .own 10), (82, vb (x8.2 != x5.2))], [(6, .deep 61 5 x5.1.length [.flat, .flat, .flat, .flat, (.sl 2 1 [.flat])] (x5.1.map eOp)), (10, .deep 61 5 x8.1.length [.flat, .flat, .flat, .flat, (.sl 2 1 [.flat])] (x8.1.map eOp))]⟩ ?_
  refine SRun.nil ?_
  replace h := Option.some.inj h
  subst h
  exact Le.sub0
  refine swp_cond (b := j19) (by kernel_rfl) (fun hb => ?_) (fun hb => ?_)
  replace h := cond_t hb h
  refine swp_seq ?_
  refine swp_reg ?_
  refine SRun.ck tbokGB 1 ⟨119, [(4, vb false)], []⟩ ?_
  refine SRun.nil ?_
  refine nx_n ?_
  refine swp_ret ?_
  replace h := Option.some.inj h
  subst h
  exact nx_r (q_fr (fin1 (by kernel_rfl) (finV rfl SV.flat_of (holds_t (by kernel_rfl)))))
  replace h := cond_f hb h
  refine swp_skip ?_
  refine nx_n ?_
  refine swp_seq ?_
  refine swp_reg ?_
  refine SRun.ck tbokGB 1 ⟨119, [(0, vl eOp aAA), (1, vl eOp aAB), (6, .own 6), (7, vi x5.2), (10, .own 10), (13, vi 1)], [(6, .deep 61 5 x5.1.length [.flat, .flat, .flat, .flat, (.sl 2 1 [.flat])] (x5.1.map eOp)), (10, .deep 61 5 x8.1.length [.flat, .flat, .flat, .flat, (.sl 2 1 [.flat])] (x8.1.map eOp))]⟩ ?_
  refine SRun.nil ?_
  refine nx_n ?_
  refine swp_seq ?_
  refine swp_reg ?_
  refine SRun.ck tbokGB 2 ⟨119, [(0, vl eOp aAA), (1, vl eOp aAB), (6, .own 6), (7, vi x5.2), (10, .own 10), (83, .own 10), (84, vi 1)], [(6, .deep 61 5 x5.1.length [.flat, .flat, .flat, .flat, (.sl 2 1 [.flat])] (x5.1.map eOp)), (10, .deep 61 5 x8.1.length [.flat, .flat, .flat, .flat, (.sl 2 1 [.flat])] (x8.1.map eOp))]⟩ ?_
  obtain ⟨x21, hx21, h⟩ := bind_some h
  refine SRun.estep (x_estep_call (f := 22) (caps := []) (xs := [.own 10, vi 1]) (pre := []) (post := [vi 1]) (qs := [vi 1]) (z := .own 10) (d := 10) (pl := 0) (y := .deep 61 5 x8.1.length [.flat, .flat, .flat, .flat, (.sl 2 1 [.flat])] (x8.1.map eOp)) (y' := .deep 61 5 x21.2.length [.flat, .flat, .flat, .flat, (.sl 2 1 [.flat])] (x21.2.map eOp)) (res := ⟨[.v (vi x21.1)], [(0, .deep 61 5 x21.2.length [.flat, .flat, .flat, .flat, (.sl 2 1 [.flat])] (x21.2.map eOp))], false⟩) (x := vi x21.1) (yo := none) rfl rfl rfl rfl rfl ents22 (laws_markOpS_run x8.1 1 _ hx21) rfl rfl false (fun _ => rfl) (by intro hc; cases hc)) ?_
  refine SRun.ck tbokGB 1 ⟨119, [(0, vl eOp aAA), (1, vl eOp aAB), (6, .own 6), (7, vi x5.2), (10, .own 10), (13, vi x21.1)], [(6, .deep 61 5 x5.1.length [.flat, .flat, .flat, .flat, (.sl 2 1 [.flat])] (x5.1.map eOp)), (10, .deep 61 5 x21.2.length [.flat, .flat, .flat, .flat, (.sl 2 1 [.flat])] (x21.2.map eOp))]⟩ ?_
  refine SRun.nil ?_
  refine nx_n ?_
  refine swp_seq ?_
  refine swp_reg ?_
  refine SRun.ck tbokGB 1 ⟨119, [(0, vl eOp aAA), (1, vl eOp aAB), (6, .own 6), (7, vi x5.2), (10, .own 10), (13, vi x21.1), (14, vi 1)], [(6, .deep 61 5 x5.1.length [.flat, .flat, .flat, .flat, (.sl 2 1 [.flat])] (x5.1.map eOp)), (10, .deep 61 5 x21.2.length [.flat, .flat, .flat, .flat, (.sl 2 1 [.flat])] (x21.2.map eOp))]⟩ ?_
  refine SRun.nil ?_
  refine nx_n ?_
  refine swp_seq ?_
  refine swp_reg ?_
  refine SRun.ck tbokGB 2 ⟨119, [(0, vl eOp aAA), (1, vl eOp aAB), (6, .own 6), (7, vi x5.2), (10, .own 10), (13, vi x21.1), (86, .own 10), (87, vi 1)], [(6, .deep 61 5 x5.1.length [.flat, .flat, .flat, .flat, (.sl 2 1 [.flat])] (x5.1.map eOp)), (10, .deep 61 5 x21.2.length [.flat, .flat, .flat, .flat, (.sl 2 1 [.flat])] (x21.2.map eOp))]⟩ ?_
  obtain ⟨x22, hx22, h⟩ := bind_some h
  refine SRun.ls (x_lstep_call (f := 34) (caps := []) (xs := [.own 10, vi 1]) (ys := [vl eOp x21.2, vi 1]) (res := ⟨[.v (vi x22)], [], false⟩) (x := vi x22) (y := none) rfl ents34 (laws_heldOpS_run x21.2 1 _ hx22) rfl (by intro hc; cases hc)) ?_
  refine SRun.ck tbokGB 1 ⟨119, [(0, vl eOp aAA), (1, vl eOp aAB), (6, .own 6), (7, vi x5.2), (10, .own 10), (13, vi x21.1), (14, vi x22)], [(6, .deep 61 5 x5.1.length [.flat, .flat, .flat, .flat, (.sl 2 1 [.flat])] (x5.1.map eOp)), (10, .deep 61 5 x21.2.length [.flat, .flat, .flat, .flat, (.sl 2 1 [.flat])] (x21.2.map eOp))]⟩ ?_
  refine SRun.nil ?_
  refine nx_n ?_
  refine swp_seq ?_
  refine swp_seq ?_
  refine swp_reg ?_
  refine SRun.ck tbokGB 2 ⟨119, [(0, vl eOp aAA), (1, vl eOp aAB), (6, .own 6), (7, vi x5.2), (10, .own 10), (13, vi x21.1), (14, vi x22), (90, vb (decide (x22 < 0)))], [(6, .deep 61 5 x5.1.length [.flat, .flat, .flat, .flat, (.sl 2 1 [.flat])] (x5.1.map eOp)), (10, .deep 61 5 x21.2.length [.flat, .flat, .flat, .flat, (.sl 2 1 [.flat])] (x21.2.map eOp))]⟩ ?_
  refine SRun.nil ?_
  refine nx_n ?_
  refine swp_cond (b := (decide (x22 < 0))) (by kernel_rfl) (fun hb => ?_) (fun hb => ?_)
  replace h := cond_t hb h
  refine swp_seq ?_
  refine swp_reg ?_
  refine SRun.ck tbokGB 1 ⟨119, [(4, vb false)], []⟩ ?_
  refine SRun.nil ?_
  refine nx_n ?_
  refine swp_ret ?_
  replace h := Option.some.inj h
  subst h
  exact nx_r (q_fr (fin1 (by kernel_rfl) (finV rfl SV.flat_of (holds_t (by kernel_rfl)))))
  replace h := cond_f hb h
  refine swp_skip ?_
  refine nx_n ?_
  refine swp_seq ?_
  refine swp_seq ?_
  refine swp_reg ?_
  refine SRun.ck tbokGB 3 ⟨119, [(0, vl eOp aAA), (1, vl eOp aAB), (6, .own 6), (7, vi x5.2), (10, .own 10), (13, vi x21.1), (93, vb (x22 != x21.1))], [(6, .deep 61 5 x5.1.length [.flat, .flat, .flat, .flat, (.sl 2 1 [.flat])] (x5.1.map eOp)), (10, .deep 61 5 x21.2.length [.flat, .flat, .flat, .flat, (.sl 2 1 [.flat])] (x21.2.map eOp))]⟩ ?_
  refine SRun.nil ?_
  refine nx_n ?_
  refine swp_cond (b := (x22 != x21.1)) (by kernel_rfl) (fun hb => ?_) (fun hb => ?_)
  replace h := cond_t hb h
  refine swp_seq ?_
  refine swp_reg ?_
  refine SRun.ck tbokGB 1 ⟨119, [(4, vb false)], []⟩ ?_
  refine SRun.nil ?_
  refine nx_n ?_
  refine swp_ret ?_
  replace h := Option.some.inj h
  subst h
  exact nx_r (q_fr (fin1 (by kernel_rfl) (finV rfl SV.flat_of (holds_t (by kernel_rfl)))))
  replace h := cond_f hb h
  refine swp_skip ?_
  refine nx_n ?_
  refine swp_seq ?_
  refine swp_reg ?_
  refine SRun.ck tbokGB 1 ⟨119, [(1, vl eOp aAB), (6, .own 6), (7, vi x5.2), (10, .own 10), (13, vi x21.1), (95, vl eOp aAA)], [(6, .deep 61 5 x5.1.length [.flat, .flat, .flat, .flat, (.sl 2 1 [.flat])] (x5.1.map eOp)), (10, .deep 61 5 x21.2.length [.flat, .flat, .flat, .flat, (.sl 2 1 [.flat])] (x21.2.map eOp))]⟩ ?_
  obtain ⟨x23, hx23, h⟩ := bind_some h
  refine SRun.ls (x_lstep_call (f := 14) (caps := []) (xs := [vl eOp aAA]) (ys := [vl eOp aAA]) (res := ⟨[.deep 61 5 x23.length [.flat, .flat, .flat, .flat, (.sl 2 1 [.flat])] (x23.map eOp)], [], false⟩) (x := .own 96) (y := some (.deep 61 5 x23.length [.flat, .flat, .flat, .flat, (.sl 2 1 [.flat])] (x23.map eOp))) rfl ents14 (laws_toOpS_run aAA _ hx23) rfl (by intro hc; cases hc)) ?_
  refine SRun.ck tbokGB 1 ⟨119, [(6, .own 6), (7, vi x5.2), (10, .own 10), (13, vi x21.1), (96, .own 96), (97, vl eOp aAB)], [(6, .deep 61 5 x5.1.length [.flat, .flat, .flat, .flat, (.sl 2 1 [.flat])] (x5.1.map eOp)), (10, .deep 61 5 x21.2.length [.flat, .flat, .flat, .flat, (.sl 2 1 [.flat])] (x21.2.map eOp)), (96, .deep 61 5 x23.length [.flat, .flat, .flat, .flat, (.sl 2 1 [.flat])] (x23.map eOp))]⟩ ?_
  obtain ⟨x24, hx24, h⟩ := bind_some h
  refine SRun.ls (x_lstep_call (f := 14) (caps := []) (xs := [vl eOp aAB]) (ys := [vl eOp aAB]) (res := ⟨[.deep 61 5 x24.length [.flat, .flat, .flat, .flat, (.sl 2 1 [.flat])] (x24.map eOp)], [], false⟩) (x := .own 98) (y := some (.deep 61 5 x24.length [.flat, .flat, .flat, .flat, (.sl 2 1 [.flat])] (x24.map eOp))) rfl ents14 (laws_toOpS_run aAB _ hx24) rfl (by intro hc; cases hc)) ?_
  obtain ⟨x25, hx25, h⟩ := bind_some h
  refine SRun.ls (x_lstep_call (f := 36) (caps := []) (xs := [.own 96, .own 98]) (ys := [vl eOp x23, vl eOp x24]) (res := ⟨[.deep 61 5 x25.1.length [.flat, .flat, .flat, .flat, (.sl 2 1 [.flat])] (x25.1.map eOp), .v (vi x25.2)], [], false⟩) (x := .tup [.own 99, vi x25.2]) (y := some (.deep 61 5 x25.1.length [.flat, .flat, .flat, .flat, (.sl 2 1 [.flat])] (x25.1.map eOp))) rfl ents36 (impl_MergeLogs_run x23 x24 _ hx25) rfl (by intro hc; cases hc)) ?_
  refine SRun.ck tbokGB 5 ⟨119, [(6, .own 6), (7, vi x5.2), (10, .own 10), (13, vi x21.1), (15, .own 99), (16, vi x25.2)], [(6, .deep 61 5 x5.1.length [.flat, .flat, .flat, .flat, (.sl 2 1 [.flat])] (x5.1.map eOp)), (10, .deep 61 5 x21.2.length [.flat, .flat, .flat, .flat, (.sl 2 1 [.flat])] (x21.2.map eOp)), (99, .deep 61 5 x25.1.length [.flat, .flat, .flat, .flat, (.sl 2 1 [.flat])] (x25.1.map eOp))]⟩ ?_
  refine SRun.nil ?_
  refine nx_n ?_
  refine swp_seq ?_
  refine swp_seq ?_
  refine swp_regJ h (fun j27 => ⟨119, [(10, .own 10), (13, vi x21.1), (110, vb j27)], [(10, .deep 61 5 x21.2.length [.flat, .flat, .flat, .flat, (.sl 2 1 [.flat])] (x21.2.map eOp))]⟩) (fun v28 h => ?_) (fun j27 h => ?_)
  refine SRun.ck tbokGB 2 ⟨119, [(7, vi x5.2), (10, .own 10), (13, vi x21.1), (16, vi x25.2), (102, .own 99), (103, .own 6)], [(6, .deep 61 5 x5.1.length [.flat, .flat, .flat, .flat, (.sl 2 1 [.flat])] (x5.1.map eOp)), (10, .deep 61 5 x21.2.length [.flat, .flat, .flat, .flat, (.sl 2 1 [.flat])] (x21.2.map eOp)), (99, .deep 61 5 x25.1.length [.flat, .flat, .flat, .flat, (.sl 2 1 [.flat])] (x25.1.map eOp))]⟩ ?_
  obtain ⟨x26, hx26, h⟩ := bind_some h
  refine SRun.ls (x_lstep_call (f := 16) (caps := []) (xs := [.own 99, .own 6]) (ys := [vl eOp x25.1, vl eOp x5.1]) (res := ⟨[.v (vb x26)], [], false⟩) (x := vb x26) (y := none) rfl ents16 (laws_eqOpS_run x25.1 x5.1 _ hx26) rfl (by intro hc; cases hc)) ?_
  refine SRun.ck tbokGB 2 ⟨119, [(7, vi x5.2), (10, .own 10), (13, vi x21.1), (16, vi x25.2), (106, vb (!x26))], [(10, .deep 61 5 x21.2.length [.flat, .flat, .flat, .flat, (.sl 2 1 [.flat])] (x21.2.map eOp))]⟩ ?_
  refine SRun.cut [(106, fun b => b)] (b := (!x26)) (by kernel_rfl) (fun hb => ?_) (fun hb => ?_)
  replace h := cond_t hb h
  refine SRun.ck tbokGB 4 ⟨119, [(10, .own 10), (13, vi x21.1), (110, vb true)], [(10, .deep 61 5 x21.2.length [.flat, .flat, .flat, .flat, (.sl 2 1 [.flat])] (x21.2.map eOp))]⟩ ?_
  refine SRun.nil ?_
  replace h := Option.some.inj h
  subst h
  exact Le.sub0
  replace h := cond_f hb h
  refine SRun.ck tbokGB 4 ⟨119, [(10, .own 10), (13, vi x21.1), (110, vb (x25.2 != x5.2))], [(10, .deep 61 5 x21.2.length [.flat, .flat, .flat, .flat, (.sl 2 1 [.flat])] (x21.2.map eOp))]⟩ ?_
  refine SRun.nil ?_
  replace h := Option.some.inj h
  subst h
  exact Le.sub0
  refine swp_cond (b := j27) (by kernel_rfl) (fun hb => ?_) (fun hb => ?_)
  replace h := cond_t hb h
  refine swp_seq ?_
  refine swp_reg ?_
  refine SRun.ck tbokGB 1 ⟨119, [(4, vb false)], []⟩ ?_
  refine SRun.nil ?_
  refine nx_n ?_
  refine swp_ret ?_
  replace h := Option.some.inj h
  subst h
  exact nx_r (q_fr (fin1 (by kernel_rfl) (finV rfl SV.flat_of (holds_t (by kernel_rfl)))))
  replace h := cond_f hb h
  refine swp_skip ?_
  refine nx_n ?_
  refine swp_seq ?_
  refine swp_reg ?_
  refine SRun.ck tbokGB 1 ⟨119, [(10, .own 10), (13, vi x21.1), (14, vi 1)], [(10, .deep 61 5 x21.2.length [.flat, .flat, .flat, .flat, (.sl 2 1 [.flat])] (x21.2.map eOp))]⟩ ?_
  refine SRun.nil ?_
  refine nx_n ?_
  refine swp_seq ?_
  refine swp_reg ?_
  refine SRun.ck tbokGB 2 ⟨119, [(13, vi x21.1), (111, .own 10), (112, vi 1)], [(10, .deep 61 5 x21.2.length [.flat, .flat, .flat, .flat, (.sl 2 1 [.flat])] (x21.2.map eOp))]⟩ ?_
  obtain ⟨x29, hx29, h⟩ := bind_some h
  refine SRun.ls (x_lstep_call (f := 34) (caps := []) (xs := [.own 10, vi 1]) (ys := [vl eOp x21.2, vi 1]) (res := ⟨[.v (vi x29)], [], false⟩) (x := vi x29) (y := none) rfl ents34 (laws_heldOpS_run x21.2 1 _ hx29) rfl (by intro hc; cases hc)) ?_
  refine SRun.ck tbokGB 1 ⟨119, [(13, vi x21.1), (14, vi x29)], []⟩ ?_
  refine SRun.nil ?_
  refine nx_n ?_
  refine swp_seq ?_
  refine swp_seq ?_
  refine swp_reg ?_
  refine SRun.ck tbokGB 2 ⟨119, [(13, vi x21.1), (14, vi x29), (115, vb (decide (x29 < 0)))], []⟩ ?_
  refine SRun.nil ?_
  refine nx_n ?_
  refine swp_cond (b := (decide (x29 < 0))) (by kernel_rfl) (fun hb => ?_) (fun hb => ?_)
  replace h := cond_t hb h
  refine swp_seq ?_
  refine swp_reg ?_
  refine SRun.ck tbokGB 1 ⟨119, [(4, vb false)], []⟩ ?_
  refine SRun.nil ?_
  refine nx_n ?_
  refine swp_ret ?_
  replace h := Option.some.inj h
  subst h
  exact nx_r (q_fr (fin1 (by kernel_rfl) (finV rfl SV.flat_of (holds_t (by kernel_rfl)))))
  replace h := cond_f hb h
  refine swp_skip ?_
  refine nx_n ?_
  refine swp_seq ?_
  refine swp_seq ?_
  refine swp_reg ?_
  refine SRun.ck tbokGB 3 ⟨119, [(118, vb (x29 != x21.1))], []⟩ ?_
  refine SRun.nil ?_
  refine nx_n ?_
  refine swp_cond (b := (x29 != x21.1)) (by kernel_rfl) (fun hb => ?_) (fun hb => ?_)
  replace h := cond_t hb h
  refine swp_seq ?_
  refine swp_reg ?_
  refine SRun.ck tbokGB 1 ⟨119, [(4, vb false)], []⟩ ?_
  refine SRun.nil ?_
  refine nx_n ?_
  refine swp_ret ?_
  replace h := Option.some.inj h
  subst h
  exact nx_r (q_fr (fin1 (by kernel_rfl) (finV rfl SV.flat_of (holds_t (by kernel_rfl)))))
  replace h := cond_f hb h
  refine swp_skip ?_
  refine nx_n ?_
  refine swp_seq ?_
  refine swp_reg ?_
  refine SRun.ck tbokGB 1 ⟨119, [(4, vb true)], []⟩ ?_
  refine SRun.nil ?_
  refine nx_n ?_
  refine swp_ret ?_
  replace h := Option.some.inj h
  subst h
  exact q_fr (fin1 (by kernel_rfl) (finV rfl SV.flat_of (holds_t (by kernel_rfl))))
theorem ents10 : Ents Tryd.prog 10 := ents_of Tryd.func10 (by kernel_rfl) rfl
end Go.Proofs.YthfcdicfcepfhaaDoor.Sh
