/- Typed functions and the calls that do what they say. -/
import Derived.Test.YthfcdicfcepfhaaDoorFOp2
import Derived.Test.YthfcdicfcepfhaaDoorKA
import Derived.Test.YthfcdicfcepfhaaDoorKS
import Derived.Test.YthfcdicfcepfhaaDoorH1
namespace Go.Proofs.YthfcdicfcepfhaaDoor.Sh
open Go.RowKit
noncomputable def laws_FnOps (aCode : (List Int)) : Option (Bool) :=
  ((laws_big aCode).bind fun x1 => (bif x1 then some true else ((spec_DrawMakeOp aCode).bind fun x2 => ((impl_MakeOp x2.1 x2.2.1 x2.2.2.1 x2.2.2.2).bind fun x3 => ((spec_MakeOp x2.1 x2.2.1 x2.2.2.1 x2.2.2.2).bind fun x4 => ((spec_DrawRivalsOf aCode).bind fun x5 => ((impl_RivalsOf x5.1 x5.2).bind fun x6 => ((spec_RivalsOf x5.1 x5.2).bind fun x7 => ((impl_TextOf x5.1 x5.2).bind fun x8 => ((spec_TextOf x5.1 x5.2).bind fun x9 => ((spec_DrawAtOnce aCode).bind fun x10 => ((impl_AtOnce x10.1 x10.2.1 x10.2.2).bind fun x11 => ((spec_AtOnce x10.1 x10.2.1 x10.2.2).bind fun x12 => (((bif (x3.2 != x4.2) then some true else ((laws_likeOps x3.1 x4.1).bind fun x13 => (bif (!x13) then some true else (bif (x6.2 != x7.2) then some true else ((laws_likeInts x6.1 x7.1).bind fun x14 => (bif (!x14) then some true else (bif (x8.2 != x9.2) then some true else (bif (!(x8.1.toList == x9.1.toList)) then some true else (bif (x11.2 != x12.2) then some true else some (!(x11.1 == x12.1)))))))))))).bind fun (j15 : Bool) => (bif j15 then some false else (bif ((x6.2 == 0) && (!((decide ((x6.1.length : Int) > 0)) == (x8.2 == 0)))) then some false else (((forG (fun (i19 : Int) (_ : Unit) => ((x6.2 == 0) && (decide (i19 < (x6.1.length : Int))))) (fun (i19 : Int) (_ : Unit) => (forN i19 (fun (i23 : Int) (_ : Unit) => ((at' x6.1 i19).bind fun x27 => ((at' x6.1 i23).bind fun x28 => ((impl_AtOnce x5.1 x27 x28).bind fun x29 => (bif ((x29.2 != 0) || (!x29.1)) then some (.inr (.inr (.inr false))) else some (.inl ())))))) (fun (_ : Unit) => .inl ()) 0 ())) (fun (_ : Unit) => .inl ()) 0 ())).bind (Sum.elim (fun (_ : Unit) => (((bif (x11.2 == 0) then ((impl_AtOnce x10.1 x10.2.2 x10.2.1).bind fun x32 => (bif ((x32.2 != 0) || (!(x32.1 == x11.1))) then some (.inr false) else some (.inl ()))) else some (.inl ()))).bind (Sum.elim (fun (_ : Unit) => (bif (x3.2 != 0) then some true else ((impl_TextOf x3.1 x2.2.2.1).bind fun x33 => (((bif (x33.2 == 0) then (bif (x33.1.toList == x2.2.2.2.toList) then ((impl_IsLog x3.1).bind fun x34 => some x34) else some false) else some false)).bind fun (j35 : Bool) => some j35)))) some))) some))))))))))))))))))
set_option maxRecDepth 100000 in
set_option maxHeartbeats 4000000 in
theorem laws_FnOps_run (aCode : (List Int)) (r : Bool) (h : laws_FnOps aCode = some r) : SCall Tryd.prog 11 [.v (vl (eI .u8) aCode)] ⟨[.v (vb r)], [], false⟩ := by
  refine scall_in Tryd.func11 rfl [(.tmp 2)] rfl (fun r => ⟨[.v (vb r)], [], false⟩) (r := r) ?_
  unfold laws_FnOps at h
  refine swp_seq ?_
  refine swp_reg ?_
  refine SRun.ck tbok 1 ⟨229, [(0, vl (eI .u8) aCode)], []⟩ ?_
  refine SRun.nil ?_
  refine nx_n ?_
  refine swp_seq ?_
  refine swp_seq ?_
  refine swp_reg ?_
  refine SRun.ck tbok 1 ⟨229, [(0, vl (eI .u8) aCode), (36, vl (eI .u8) aCode)], []⟩ ?_
  obtain ⟨x1, hx1, h⟩ := bind_some h
  refine SRun.ls (x_lstep_call (f := 37) (caps := []) (xs := [vl (eI .u8) aCode]) (ys := [vl (eI .u8) aCode]) (res := ⟨[.v (vb x1)], [], false⟩) (x := vb x1) (y := none) rfl ents37 (laws_big_run aCode _ hx1) rfl (by intro hc; cases hc)) ?_
  refine SRun.nil ?_
  refine nx_n ?_
  refine swp_cond (b := x1) (by kernel_rfl) (fun hb => ?_) (fun hb => ?_)
  replace h := cond_t hb h
  refine swp_seq ?_
  refine swp_reg ?_
  refine SRun.ck tbok 1 ⟨229, [(2, vb true)], []⟩ ?_
  refine SRun.nil ?_
  refine nx_n ?_
  refine swp_ret ?_
  replace h := Option.some.inj h
  subst h
  exact nx_r (q_fr (fin1 (by kernel_rfl) (finV rfl SV.flat_of (holds_t (by kernel_rfl)))))
  replace h := cond_f hb h
  refine swp_skip ?_
  refine nx_n ?_
  refine swp_seq ?_
  refine swp_reg ?_
  refine SRun.ck tbok 1 ⟨229, [(0, vl (eI .u8) aCode), (39, vl (eI .u8) aCode)], []⟩ ?_
  obtain ⟨x2, hx2, h⟩ := bind_some h
  refine SRun.ls (x_lstep_call (f := 38) (caps := []) (xs := [vl (eI .u8) aCode]) (ys := [vl (eI .u8) aCode]) (res := ⟨[.v (vl eOp x2.1), .v (vi x2.2.1), .v (vs x2.2.2.1), .v (vs x2.2.2.2)], [], true⟩) (x := .tup [vl eOp x2.1, vi x2.2.1, vs x2.2.2.1, vs x2.2.2.2]) (y := none) rfl ents38 (spec_DrawMakeOp_run aCode _ hx2) rfl (fun _ => rfl)) ?_
  refine SRun.ck tbok 9 ⟨229, [(0, vl (eI .u8) aCode), (3, vl eOp x2.1), (4, vi x2.2.1), (5, vs x2.2.2.1), (6, vs x2.2.2.2)], []⟩ ?_
  refine SRun.nil ?_
  refine nx_n ?_
  refine swp_seq ?_
  refine swp_reg ?_
  refine SRun.ck tbok 4 ⟨229, [(0, vl (eI .u8) aCode), (3, vl eOp x2.1), (4, vi x2.2.1), (5, vs x2.2.2.1), (6, vs x2.2.2.2), (46, vl eOp x2.1), (47, vi x2.2.1), (48, vs x2.2.2.1), (49, vs x2.2.2.2)], []⟩ ?_
  obtain ⟨x3, hx3, h⟩ := bind_some h
  refine SRun.ls (x_lstep_call (f := 33) (caps := []) (xs := [vl eOp x2.1, vi x2.2.1, vs x2.2.2.1, vs x2.2.2.2]) (ys := [vl eOp x2.1, vi x2.2.1, vs x2.2.2.1, vs x2.2.2.2]) (res := ⟨[.deep 61 5 x3.1.length [.flat, .flat, .flat, .flat, (.sl 2 1 [.flat])] (x3.1.map eOp), .v (vi x3.2)], [], false⟩) (x := .tup [.own 50, vi x3.2]) (y := some (.deep 61 5 x3.1.length [.flat, .flat, .flat, .flat, (.sl 2 1 [.flat])] (x3.1.map eOp))) rfl ents33 (impl_MakeOp_run x2.1 x2.2.1 x2.2.2.1 x2.2.2.2 _ hx3) rfl (by intro hc; cases hc)) ?_
  refine SRun.ck tbok 5 ⟨229, [(0, vl (eI .u8) aCode), (3, vl eOp x2.1), (4, vi x2.2.1), (5, vs x2.2.2.1), (6, vs x2.2.2.2), (7, .own 50), (8, vi x3.2)], [(50, .deep 61 5 x3.1.length [.flat, .flat, .flat, .flat, (.sl 2 1 [.flat])] (x3.1.map eOp))]⟩ ?_
  refine SRun.nil ?_
  refine nx_n ?_
  refine swp_seq ?_
  refine swp_reg ?_
  refine SRun.ck tbok 4 ⟨229, [(0, vl (eI .u8) aCode), (5, vs x2.2.2.1), (6, vs x2.2.2.2), (7, .own 50), (8, vi x3.2), (54, vl eOp x2.1), (55, vi x2.2.1), (56, vs x2.2.2.1), (57, vs x2.2.2.2)], [(50, .deep 61 5 x3.1.length [.flat, .flat, .flat, .flat, (.sl 2 1 [.flat])] (x3.1.map eOp))]⟩ ?_
  obtain ⟨x4, hx4, h⟩ := bind_some h
  refine SRun.ls (x_lstep_call (f := 32) (caps := []) (xs := [vl eOp x2.1, vi x2.2.1, vs x2.2.2.1, vs x2.2.2.2]) (ys := [vl eOp x2.1, vi x2.2.1, vs x2.2.2.1, vs x2.2.2.2]) (res := ⟨[.deep 61 5 x4.1.length [.flat, .flat, .flat, .flat, (.sl 2 1 [.flat])] (x4.1.map eOp), .v (vi x4.2)], [], false⟩) (x := .tup [.own 58, vi x4.2]) (y := some (.deep 61 5 x4.1.length [.flat, .flat, .flat, .flat, (.sl 2 1 [.flat])] (x4.1.map eOp))) rfl ents32 (spec_MakeOp_run x2.1 x2.2.1 x2.2.2.1 x2.2.2.2 _ hx4) rfl (by intro hc; cases hc)) ?_
  refine SRun.ck tbok 5 ⟨229, [(0, vl (eI .u8) aCode), (5, vs x2.2.2.1), (6, vs x2.2.2.2), (7, .own 50), (8, vi x3.2), (9, .own 58), (10, vi x4.2)], [(50, .deep 61 5 x3.1.length [.flat, .flat, .flat, .flat, (.sl 2 1 [.flat])] (x3.1.map eOp)), (58, .deep 61 5 x4.1.length [.flat, .flat, .flat, .flat, (.sl 2 1 [.flat])] (x4.1.map eOp))]⟩ ?_
  refine SRun.nil ?_
  refine nx_n ?_
  refine swp_seq ?_
  refine swp_reg ?_
  refine SRun.ck tbok 1 ⟨229, [(0, vl (eI .u8) aCode), (5, vs x2.2.2.1), (6, vs x2.2.2.2), (7, .own 50), (8, vi x3.2), (9, .own 58), (10, vi x4.2), (62, vl (eI .u8) aCode)], [(50, .deep 61 5 x3.1.length [.flat, .flat, .flat, .flat, (.sl 2 1 [.flat])] (x3.1.map eOp)), (58, .deep 61 5 x4.1.length [.flat, .flat, .flat, .flat, (.sl 2 1 [.flat])] (x4.1.map eOp))]⟩ ?_
  obtain ⟨x5, hx5, h⟩ := bind_some h
  refine SRun.ls (x_lstep_call (f := 39) (caps := []) (xs := [vl (eI .u8) aCode]) (ys := [vl (eI .u8) aCode]) (res := ⟨[.v (vl eOp x5.1), .v (vs x5.2)], [], true⟩) (x := .tup [vl eOp x5.1, vs x5.2]) (y := none) rfl ents39 (spec_DrawRivalsOf_run aCode _ hx5) rfl (fun _ => rfl)) ?_
  refine SRun.ck tbok 5 ⟨229, [(0, vl (eI .u8) aCode), (5, vs x2.2.2.1), (6, vs x2.2.2.2), (7, .own 50), (8, vi x3.2), (9, .own 58), (10, vi x4.2), (11, vl eOp x5.1), (12, vs x5.2)], [(50, .deep 61 5 x3.1.length [.flat, .flat, .flat, .flat, (.sl 2 1 [.flat])] (x3.1.map eOp)), (58, .deep 61 5 x4.1.length [.flat, .flat, .flat, .flat, (.sl 2 1 [.flat])] (x4.1.map eOp))]⟩ ?_
  refine SRun.nil ?_
  refine nx_n ?_
  refine swp_seq ?_
  refine swp_reg ?_
  refine SRun.ck tbok 2 ⟨229, [(0, vl (eI .u8) aCode), (5, vs x2.2.2.1), (6, vs x2.2.2.2), (7, .own 50), (8, vi x3.2), (9, .own 58), (10, vi x4.2), (11, vl eOp x5.1), (12, vs x5.2), (67, vl eOp x5.1), (68, vs x5.2)], [(50, .deep 61 5 x3.1.length [.flat, .flat, .flat, .flat, (.sl 2 1 [.flat])] (x3.1.map eOp)), (58, .deep 61 5 x4.1.length [.flat, .flat, .flat, .flat, (.sl 2 1 [.flat])] (x4.1.map eOp))]⟩ ?_
  obtain ⟨x6, hx6, h⟩ := bind_some h
  refine SRun.ls (x_lstep_call (f := 31) (caps := []) (xs := [vl eOp x5.1, vs x5.2]) (ys := [vl eOp x5.1, vs x5.2]) (res := ⟨[.own 2 1 x6.1.length (x6.1.map (eI .i64)), .v (vi x6.2)], [], false⟩) (x := .tup [.own 69, vi x6.2]) (y := some (.arr 2 1 x6.1.length (x6.1.map (eI .i64)))) rfl ents31 (impl_RivalsOf_run x5.1 x5.2 _ hx6) rfl (by intro hc; cases hc)) ?_
  refine SRun.ck tbok 5 ⟨229, [(0, vl (eI .u8) aCode), (5, vs x2.2.2.1), (6, vs x2.2.2.2), (7, .own 50), (8, vi x3.2), (9, .own 58), (10, vi x4.2), (11, vl eOp x5.1), (12, vs x5.2), (13, .own 69), (14, vi x6.2)], [(50, .deep 61 5 x3.1.length [.flat, .flat, .flat, .flat, (.sl 2 1 [.flat])] (x3.1.map eOp)), (58, .deep 61 5 x4.1.length [.flat, .flat, .flat, .flat, (.sl 2 1 [.flat])] (x4.1.map eOp)), (69, .arr 2 1 x6.1.length (x6.1.map (eI .i64)))]⟩ ?_
  refine SRun.nil ?_
  refine nx_n ?_
  refine swp_seq ?_
  refine swp_reg ?_
  refine SRun.ck tbok 2 ⟨229, [(0, vl (eI .u8) aCode), (5, vs x2.2.2.1), (6, vs x2.2.2.2), (7, .own 50), (8, vi x3.2), (9, .own 58), (10, vi x4.2), (11, vl eOp x5.1), (12, vs x5.2), (13, .own 69), (14, vi x6.2), (73, vl eOp x5.1), (74, vs x5.2)], [(50, .deep 61 5 x3.1.length [.flat, .flat, .flat, .flat, (.sl 2 1 [.flat])] (x3.1.map eOp)), (58, .deep 61 5 x4.1.length [.flat, .flat, .flat, .flat, (.sl 2 1 [.flat])] (x4.1.map eOp)), (69, .arr 2 1 x6.1.length (x6.1.map (eI .i64)))]⟩ ?_
  obtain ⟨x7, hx7, h⟩ := bind_some h
  refine SRun.ls (x_lstep_call (f := 30) (caps := []) (xs := [vl eOp x5.1, vs x5.2]) (ys := [vl eOp x5.1, vs x5.2]) (res := ⟨[.own 2 1 x7.1.length (x7.1.map (eI .i64)), .v (vi x7.2)], [], false⟩) (x := .tup [.own 75, vi x7.2]) (y := some (.arr 2 1 x7.1.length (x7.1.map (eI .i64)))) rfl ents30 (spec_RivalsOf_run x5.1 x5.2 _ hx7) rfl (by intro hc; cases hc)) ?_
  refine SRun.ck tbok 5 ⟨229, [(0, vl (eI .u8) aCode), (5, vs x2.2.2.1), (6, vs x2.2.2.2), (7, .own 50), (8, vi x3.2), (9, .own 58), (10, vi x4.2), (11, vl eOp x5.1), (12, vs x5.2), (13, .own 69), (14, vi x6.2), (15, .own 75), (16, vi x7.2)], [(50, .deep 61 5 x3.1.length [.flat, .flat, .flat, .flat, (.sl 2 1 [.flat])] (x3.1.map eOp)), (58, .deep 61 5 x4.1.length [.flat, .flat, .flat, .flat, (.sl 2 1 [.flat])] (x4.1.map eOp)), (69, .arr 2 1 x6.1.length (x6.1.map (eI .i64))), (75, .arr 2 1 x7.1.length (x7.1.map (eI .i64)))]⟩ ?_
  refine SRun.nil ?_
  refine nx_n ?_
  refine swp_seq ?_
  refine swp_reg ?_
  refine SRun.ck tbok 2 ⟨229, [(0, vl (eI .u8) aCode), (5, vs x2.2.2.1), (6, vs x2.2.2.2), (7, .own 50), (8, vi x3.2), (9, .own 58), (10, vi x4.2), (11, vl eOp x5.1), (12, vs x5.2), (13, .own 69), (14, vi x6.2), (15, .own 75), (16, vi x7.2), (79, vl eOp x5.1), (80, vs x5.2)], [(50, .deep 61 5 x3.1.length [.flat, .flat, .flat, .flat, (.sl 2 1 [.flat])] (x3.1.map eOp)), (58, .deep 61 5 x4.1.length [.flat, .flat, .flat, .flat, (.sl 2 1 [.flat])] (x4.1.map eOp)), (69, .arr 2 1 x6.1.length (x6.1.map (eI .i64))), (75, .arr 2 1 x7.1.length (x7.1.map (eI .i64)))]⟩ ?_
  obtain ⟨x8, hx8, h⟩ := bind_some h
  refine SRun.ls (x_lstep_call (f := 29) (caps := []) (xs := [vl eOp x5.1, vs x5.2]) (ys := [vl eOp x5.1, vs x5.2]) (res := ⟨[.v (vs x8.1), .v (vi x8.2)], [], false⟩) (x := .tup [vs x8.1, vi x8.2]) (y := none) rfl ents29 (impl_TextOf_run x5.1 x5.2 _ hx8) rfl (by intro hc; cases hc)) ?_
  refine SRun.ck tbok 5 ⟨229, [(0, vl (eI .u8) aCode), (5, vs x2.2.2.1), (6, vs x2.2.2.2), (7, .own 50), (8, vi x3.2), (9, .own 58), (10, vi x4.2), (11, vl eOp x5.1), (12, vs x5.2), (13, .own 69), (14, vi x6.2), (15, .own 75), (16, vi x7.2), (17, vs x8.1), (18, vi x8.2)], [(50, .deep 61 5 x3.1.length [.flat, .flat, .flat, .flat, (.sl 2 1 [.flat])] (x3.1.map eOp)), (58, .deep 61 5 x4.1.length [.flat, .flat, .flat, .flat, (.sl 2 1 [.flat])] (x4.1.map eOp)), (69, .arr 2 1 x6.1.length (x6.1.map (eI .i64))), (75, .arr 2 1 x7.1.length (x7.1.map (eI .i64)))]⟩ ?_
  refine SRun.nil ?_
  refine nx_n ?_
  refine swp_seq ?_
  refine swp_reg ?_
  refine SRun.ck tbok 2 ⟨229, [(0, vl (eI .u8) aCode), (5, vs x2.2.2.1), (6, vs x2.2.2.2), (7, .own 50), (8, vi x3.2), (9, .own 58), (10, vi x4.2), (11, vl eOp x5.1), (13, .own 69), (14, vi x6.2), (15, .own 75), (16, vi x7.2), (17, vs x8.1), (18, vi x8.2), (85, vl eOp x5.1), (86, vs x5.2)], [(50, .deep 61 5 x3.1.length [.flat, .flat, .flat, .flat, (.sl 2 1 [.flat])] (x3.1.map eOp)), (58, .deep 61 5 x4.1.length [.flat, .flat, .flat, .flat, (.sl 2 1 [.flat])] (x4.1.map eOp)), (69, .arr 2 1 x6.1.length (x6.1.map (eI .i64))), (75, .arr 2 1 x7.1.length (x7.1.map (eI .i64)))]⟩ ?_
  obtain ⟨x9, hx9, h⟩ := bind_some h
  refine SRun.ls (x_lstep_call (f := 28) (caps := []) (xs := [vl eOp x5.1, vs x5.2]) (ys := [vl eOp x5.1, vs x5.2]) (res := ⟨[.v (vs x9.1), .v (vi x9.2)], [], false⟩) (x := .tup [vs x9.1, vi x9.2]) (y := none) rfl ents28 (spec_TextOf_run x5.1 x5.2 _ hx9) rfl (by intro hc; cases hc)) ?_
  refine SRun.ck tbok 5 ⟨229, [(0, vl (eI .u8) aCode), (5, vs x2.2.2.1), (6, vs x2.2.2.2), (7, .own 50), (8, vi x3.2), (9, .own 58), (10, vi x4.2), (11, vl eOp x5.1), (13, .own 69), (14, vi x6.2), (15, .own 75), (16, vi x7.2), (17, vs x8.1), (18, vi x8.2), (19, vs x9.1), (20, vi x9.2)], [(50, .deep 61 5 x3.1.length [.flat, .flat, .flat, .flat, (.sl 2 1 [.flat])] (x3.1.map eOp)), (58, .deep 61 5 x4.1.length [.flat, .flat, .flat, .flat, (.sl 2 1 [.flat])] (x4.1.map eOp)), (69, .arr 2 1 x6.1.length (x6.1.map (eI .i64))), (75, .arr 2 1 x7.1.length (x7.1.map (eI .i64)))]⟩ ?_
  refine SRun.nil ?_
  refine nx_n ?_
  refine swp_seq ?_
  refine swp_reg ?_
  refine SRun.ck tbok 1 ⟨229, [(5, vs x2.2.2.1), (6, vs x2.2.2.2), (7, .own 50), (8, vi x3.2), (9, .own 58), (10, vi x4.2), (11, vl eOp x5.1), (13, .own 69), (14, vi x6.2), (15, .own 75), (16, vi x7.2), (17, vs x8.1), (18, vi x8.2), (19, vs x9.1), (20, vi x9.2), (91, vl (eI .u8) aCode)], [(50, .deep 61 5 x3.1.length [.flat, .flat, .flat, .flat, (.sl 2 1 [.flat])] (x3.1.map eOp)), (58, .deep 61 5 x4.1.length [.flat, .flat, .flat, .flat, (.sl 2 1 [.flat])] (x4.1.map eOp)), (69, .arr 2 1 x6.1.length (x6.1.map (eI .i64))), (75, .arr 2 1 x7.1.length (x7.1.map (eI .i64)))]⟩ ?_
  obtain ⟨x10, hx10, h⟩ := bind_some h
  refine SRun.ls (x_lstep_call (f := 40) (caps := []) (xs := [vl (eI .u8) aCode]) (ys := [vl (eI .u8) aCode]) (res := ⟨[.v (vl eOp x10.1), .v (vi x10.2.1), .v (vi x10.2.2)], [], true⟩) (x := .tup [vl eOp x10.1, vi x10.2.1, vi x10.2.2]) (y := none) rfl ents40 (spec_DrawAtOnce_run aCode _ hx10) rfl (fun _ => rfl)) ?_
  refine SRun.ck tbok 7 ⟨229, [(5, vs x2.2.2.1), (6, vs x2.2.2.2), (7, .own 50), (8, vi x3.2), (9, .own 58), (10, vi x4.2), (11, vl eOp x5.1), (13, .own 69), (14, vi x6.2), (15, .own 75), (16, vi x7.2), (17, vs x8.1), (18, vi x8.2), (19, vs x9.1), (20, vi x9.2), (21, vl eOp x10.1), (22, vi x10.2.1), (23, vi x10.2.2)], [(50, .deep 61 5 x3.1.length [.flat, .flat, .flat, .flat, (.sl 2 1 [.flat])] (x3.1.map eOp)), (58, .deep 61 5 x4.1.length [.flat, .flat, .flat, .flat, (.sl 2 1 [.flat])] (x4.1.map eOp)), (69, .arr 2 1 x6.1.length (x6.1.map (eI .i64))), (75, .arr 2 1 x7.1.length (x7.1.map (eI .i64)))]⟩ ?_
  refine SRun.nil ?_
  refine nx_n ?_
  refine swp_seq ?_
  refine swp_reg ?_
  refine SRun.ck tbok 3 ⟨229, [(5, vs x2.2.2.1), (6, vs x2.2.2.2), (7, .own 50), (8, vi x3.2), (9, .own 58), (10, vi x4.2), (11, vl eOp x5.1), (13, .own 69), (14, vi x6.2), (15, .own 75), (16, vi x7.2), (17, vs x8.1), (18, vi x8.2), (19, vs x9.1), (20, vi x9.2), (21, vl eOp x10.1), (22, vi x10.2.1), (23, vi x10.2.2), (97, vl eOp x10.1), (98, vi x10.2.1), (99, vi x10.2.2)], [(50, .deep 61 5 x3.1.length [.flat, .flat, .flat, .flat, (.sl 2 1 [.flat])] (x3.1.map eOp)), (58, .deep 61 5 x4.1.length [.flat, .flat, .flat, .flat, (.sl 2 1 [.flat])] (x4.1.map eOp)), (69, .arr 2 1 x6.1.length (x6.1.map (eI .i64))), (75, .arr 2 1 x7.1.length (x7.1.map (eI .i64)))]⟩ ?_
  obtain ⟨x11, hx11, h⟩ := bind_some h
  refine SRun.ls (x_lstep_call (f := 18) (caps := []) (xs := [vl eOp x10.1, vi x10.2.1, vi x10.2.2]) (ys := [vl eOp x10.1, vi x10.2.1, vi x10.2.2]) (res := ⟨[.v (vb x11.1), .v (vi x11.2)], [], false⟩) (x := .tup [vb x11.1, vi x11.2]) (y := none) rfl ents18 (impl_AtOnce_run x10.1 x10.2.1 x10.2.2 _ hx11) rfl (by intro hc; cases hc)) ?_
  refine SRun.ck tbok 5 ⟨229, [(5, vs x2.2.2.1), (6, vs x2.2.2.2), (7, .own 50), (8, vi x3.2), (9, .own 58), (10, vi x4.2), (11, vl eOp x5.1), (13, .own 69), (14, vi x6.2), (15, .own 75), (16, vi x7.2), (17, vs x8.1), (18, vi x8.2), (19, vs x9.1), (20, vi x9.2), (21, vl eOp x10.1), (22, vi x10.2.1), (23, vi x10.2.2), (24, vb x11.1), (25, vi x11.2)], [(50, .deep 61 5 x3.1.length [.flat, .flat, .flat, .flat, (.sl 2 1 [.flat])] (x3.1.map eOp)), (58, .deep 61 5 x4.1.length [.flat, .flat, .flat, .flat, (.sl 2 1 [.flat])] (x4.1.map eOp)), (69, .arr 2 1 x6.1.length (x6.1.map (eI .i64))), (75, .arr 2 1 x7.1.length (x7.1.map (eI .i64)))]⟩ ?_
  refine SRun.nil ?_
  refine nx_n ?_
  refine swp_seq ?_
  refine swp_reg ?_
  refine SRun.ck tbok 3 ⟨229, [(5, vs x2.2.2.1), (6, vs x2.2.2.2), (7, .own 50), (8, vi x3.2), (9, .own 58), (10, vi x4.2), (11, vl eOp x5.1), (13, .own 69), (14, vi x6.2), (15, .own 75), (16, vi x7.2), (17, vs x8.1), (18, vi x8.2), (19, vs x9.1), (20, vi x9.2), (21, vl eOp x10.1), (22, vi x10.2.1), (23, vi x10.2.2), (24, vb x11.1), (25, vi x11.2), (104, vl eOp x10.1), (105, vi x10.2.1), (106, vi x10.2.2)], [(50, .deep 61 5 x3.1.length [.flat, .flat, .flat, .flat, (.sl 2 1 [.flat])] (x3.1.map eOp)), (58, .deep 61 5 x4.1.length [.flat, .flat, .flat, .flat, (.sl 2 1 [.flat])] (x4.1.map eOp)), (69, .arr 2 1 x6.1.length (x6.1.map (eI .i64))), (75, .arr 2 1 x7.1.length (x7.1.map (eI .i64)))]⟩ ?_
  obtain ⟨x12, hx12, h⟩ := bind_some h
  refine SRun.ls (x_lstep_call (f := 17) (caps := []) (xs := [vl eOp x10.1, vi x10.2.1, vi x10.2.2]) (ys := [vl eOp x10.1, vi x10.2.1, vi x10.2.2]) (res := ⟨[.v (vb x12.1), .v (vi x12.2)], [], false⟩) (x := .tup [vb x12.1, vi x12.2]) (y := none) rfl ents17 (spec_AtOnce_run x10.1 x10.2.1 x10.2.2 _ hx12) rfl (by intro hc; cases hc)) ?_
  refine SRun.ck tbok 5 ⟨229, [(5, vs x2.2.2.1), (6, vs x2.2.2.2), (7, .own 50), (8, vi x3.2), (9, .own 58), (10, vi x4.2), (11, vl eOp x5.1), (13, .own 69), (14, vi x6.2), (15, .own 75), (16, vi x7.2), (17, vs x8.1), (18, vi x8.2), (19, vs x9.1), (20, vi x9.2), (21, vl eOp x10.1), (22, vi x10.2.1), (23, vi x10.2.2), (24, vb x11.1), (25, vi x11.2), (26, vb x12.1), (27, vi x12.2)], [(50, .deep 61 5 x3.1.length [.flat, .flat, .flat, .flat, (.sl 2 1 [.flat])] (x3.1.map eOp)), (58, .deep 61 5 x4.1.length [.flat, .flat, .flat, .flat, (.sl 2 1 [.flat])] (x4.1.map eOp)), (69, .arr 2 1 x6.1.length (x6.1.map (eI .i64))), (75, .arr 2 1 x7.1.length (x7.1.map (eI .i64)))]⟩ ?_
  refine SRun.nil ?_
  refine nx_n ?_
  refine swp_seq ?_
  refine swp_seq ?_
  refine swp_regJ h (fun j15 => ⟨229, [(5, vs x2.2.2.1), (6, vs x2.2.2.2), (7, .own 7), (8, vi x3.2), (11, vl eOp x5.1), (13, .own 13), (14, vi x6.2), (18, vi x8.2), (21, vl eOp x10.1), (22, vi x10.2.1), (23, vi x10.2.2), (24, vb x11.1), (25, vi x11.2), (149, vb j15)], [(7, .deep 61 5 x3.1.length [.flat, .flat, .flat, .flat, (.sl 2 1 [.flat])] (x3.1.map eOp)), (13, .arr 2 1 x6.1.length (x6.1.map (eI .i64)))]⟩) (fun v16 h => ?_) (fun j15 h => ?_)
  refine SRun.ck tbok 4 ⟨229, [(5, vs x2.2.2.1), (6, vs x2.2.2.2), (7, .own 50), (8, vi x3.2), (9, .own 58), (11, vl eOp x5.1), (13, .own 69), (14, vi x6.2), (15, .own 75), (16, vi x7.2), (17, vs x8.1), (18, vi x8.2), (19, vs x9.1), (20, vi x9.2), (21, vl eOp x10.1), (22, vi x10.2.1), (23, vi x10.2.2), (24, vb x11.1), (25, vi x11.2), (26, vb x12.1), (27, vi x12.2), (113, vb (x3.2 != x4.2))], [(50, .deep 61 5 x3.1.length [.flat, .flat, .flat, .flat, (.sl 2 1 [.flat])] (x3.1.map eOp)), (58, .deep 61 5 x4.1.length [.flat, .flat, .flat, .flat, (.sl 2 1 [.flat])] (x4.1.map eOp)), (69, .arr 2 1 x6.1.length (x6.1.map (eI .i64))), (75, .arr 2 1 x7.1.length (x7.1.map (eI .i64)))]⟩ ?_
  refine SRun.cut [(113, fun b => b)] (b := (x3.2 != x4.2)) (by kernel_rfl) (fun hb => ?_) (fun hb => ?_)
  replace h := cond_t hb h
  refine SRun.ck tbok 36 ⟨229, [(5, vs x2.2.2.1), (6, vs x2.2.2.2), (7, .own 50), (8, vi x3.2), (11, vl eOp x5.1), (13, .own 69), (14, vi x6.2), (18, vi x8.2), (21, vl eOp x10.1), (22, vi x10.2.1), (23, vi x10.2.2), (24, vb x11.1), (25, vi x11.2), (149, vb true)], [(50, .deep 61 5 x3.1.length [.flat, .flat, .flat, .flat, (.sl 2 1 [.flat])] (x3.1.map eOp)), (69, .arr 2 1 x6.1.length (x6.1.map (eI .i64)))]⟩ ?_
  refine SRun.nil ?_
  replace h := Option.some.inj h
  subst h
  exact (Le.sub' ([(5, vs x2.2.2.1), (6, vs x2.2.2.2), (7, .own 50), (8, vi x3.2), (11, vl eOp x5.1), (13, .own 69), (14, vi x6.2), (18, vi x8.2), (21, vl eOp x10.1), (22, vi x10.2.1), (23, vi x10.2.2), (24, vb x11.1), (25, vi x11.2), (149, vb true)] : List (Nat × SV)) ([(50, .deep 61 5 x3.1.length [.flat, .flat, .flat, .flat, (.sl 2 1 [.flat])] (x3.1.map eOp)), (69, .arr 2 1 x6.1.length (x6.1.map (eI .i64)))] : List (Nat × SO)) (by kernel_rfl) (by kernel_rfl)).trans ((Le.ren' (d := 50) (e := 7) (by kernel_rfl) (by kernel_rfl) (by kernel_rfl)).trans ((Le.ren' (d := 69) (e := 13) (by kernel_rfl) (by kernel_rfl) (by kernel_rfl)).trans (Le.sub0)))
  replace h := cond_f hb h
  refine SRun.ck tbok 2 ⟨229, [(5, vs x2.2.2.1), (6, vs x2.2.2.2), (7, .own 50), (8, vi x3.2), (11, vl eOp x5.1), (13, .own 69), (14, vi x6.2), (15, .own 75), (16, vi x7.2), (17, vs x8.1), (18, vi x8.2), (19, vs x9.1), (20, vi x9.2), (21, vl eOp x10.1), (22, vi x10.2.1), (23, vi x10.2.2), (24, vb x11.1), (25, vi x11.2), (26, vb x12.1), (27, vi x12.2), (113, vb false), (114, .own 50), (115, .own 58)], [(50, .deep 61 5 x3.1.length [.flat, .flat, .flat, .flat, (.sl 2 1 [.flat])] (x3.1.map eOp)), (58, .deep 61 5 x4.1.length [.flat, .flat, .flat, .flat, (.sl 2 1 [.flat])] (x4.1.map eOp)), (69, .arr 2 1 x6.1.length (x6.1.map (eI .i64))), (75, .arr 2 1 x7.1.length (x7.1.map (eI .i64)))]⟩ ?_
  obtain ⟨x13, hx13, h⟩ := bind_some h
  refine SRun.ls (x_lstep_call (f := 41) (caps := []) (xs := [.own 50, .own 58]) (ys := [vl eOp x3.1, vl eOp x4.1]) (res := ⟨[.v (vb x13)], [], false⟩) (x := vb x13) (y := none) rfl ents41 (laws_likeOps_run x3.1 x4.1 _ hx13) rfl (by intro hc; cases hc)) ?_
  refine SRun.ck tbok 3 ⟨229, [(5, vs x2.2.2.1), (6, vs x2.2.2.2), (7, .own 50), (8, vi x3.2), (11, vl eOp x5.1), (13, .own 69), (14, vi x6.2), (15, .own 75), (16, vi x7.2), (17, vs x8.1), (18, vi x8.2), (19, vs x9.1), (20, vi x9.2), (21, vl eOp x10.1), (22, vi x10.2.1), (23, vi x10.2.2), (24, vb x11.1), (25, vi x11.2), (26, vb x12.1), (27, vi x12.2), (119, vb (!x13))], [(50, .deep 61 5 x3.1.length [.flat, .flat, .flat, .flat, (.sl 2 1 [.flat])] (x3.1.map eOp)), (69, .arr 2 1 x6.1.length (x6.1.map (eI .i64))), (75, .arr 2 1 x7.1.length (x7.1.map (eI .i64)))]⟩ ?_
  refine SRun.cut [(119, fun b => b)] (b := (!x13)) (by kernel_rfl) (fun hb => ?_) (fun hb => ?_)
  replace h := cond_t hb h
  refine SRun.ck tbok 30 ⟨229, [(5, vs x2.2.2.1), (6, vs x2.2.2.2), (7, .own 50), (8, vi x3.2), (11, vl eOp x5.1), (13, .own 69), (14, vi x6.2), (18, vi x8.2), (21, vl eOp x10.1), (22, vi x10.2.1), (23, vi x10.2.2), (24, vb x11.1), (25, vi x11.2), (149, vb true)], [(50, .deep 61 5 x3.1.length [.flat, .flat, .flat, .flat, (.sl 2 1 [.flat])] (x3.1.map eOp)), (69, .arr 2 1 x6.1.length (x6.1.map (eI .i64)))]⟩ ?_
  refine SRun.nil ?_
  replace h := Option.some.inj h
  subst h
  exact (Le.sub' ([(5, vs x2.2.2.1), (6, vs x2.2.2.2), (7, .own 50), (8, vi x3.2), (11, vl eOp x5.1), (13, .own 69), (14, vi x6.2), (18, vi x8.2), (21, vl eOp x10.1), (22, vi x10.2.1), (23, vi x10.2.2), (24, vb x11.1), (25, vi x11.2), (149, vb true)] : List (Nat × SV)) ([(50, .deep 61 5 x3.1.length [.flat, .flat, .flat, .flat, (.sl 2 1 [.flat])] (x3.1.map eOp)), (69, .arr 2 1 x6.1.length (x6.1.map (eI .i64)))] : List (Nat × SO)) (by kernel_rfl) (by kernel_rfl)).trans ((Le.ren' (d := 50) (e := 7) (by kernel_rfl) (by kernel_rfl) (by kernel_rfl)).trans ((Le.ren' (d := 69) (e := 13) (by kernel_rfl) (by kernel_rfl) (by kernel_rfl)).trans (Le.sub0)))
  replace h := cond_f hb h
  refine SRun.ck tbok 5 ⟨229, [(5, vs x2.2.2.1), (6, vs x2.2.2.2), (7, .own 50), (8, vi x3.2), (11, vl eOp x5.1), (13, .own 69), (14, vi x6.2), (15, .own 75), (17, vs x8.1), (18, vi x8.2), (19, vs x9.1), (20, vi x9.2), (21, vl eOp x10.1), (22, vi x10.2.1), (23, vi x10.2.2), (24, vb x11.1), (25, vi x11.2), (26, vb x12.1), (27, vi x12.2), (124, vb (x6.2 != x7.2))], [(50, .deep 61 5 x3.1.length [.flat, .flat, .flat, .flat, (.sl 2 1 [.flat])] (x3.1.map eOp)), (69, .arr 2 1 x6.1.length (x6.1.map (eI .i64))), (75, .arr 2 1 x7.1.length (x7.1.map (eI .i64)))]⟩ ?_
  refine SRun.cut [(124, fun b => b)] (b := (x6.2 != x7.2)) (by kernel_rfl) (fun hb => ?_) (fun hb => ?_)
  replace h := cond_t hb h
  refine SRun.ck tbok 25 ⟨229, [(5, vs x2.2.2.1), (6, vs x2.2.2.2), (7, .own 50), (8, vi x3.2), (11, vl eOp x5.1), (13, .own 69), (14, vi x6.2), (18, vi x8.2), (21, vl eOp x10.1), (22, vi x10.2.1), (23, vi x10.2.2), (24, vb x11.1), (25, vi x11.2), (149, vb true)], [(50, .deep 61 5 x3.1.length [.flat, .flat, .flat, .flat, (.sl 2 1 [.flat])] (x3.1.map eOp)), (69, .arr 2 1 x6.1.length (x6.1.map (eI .i64)))]⟩ ?_
  refine SRun.nil ?_
  replace h := Option.some.inj h
  subst h
  exact (Le.sub' ([(5, vs x2.2.2.1), (6, vs x2.2.2.2), (7, .own 50), (8, vi x3.2), (11, vl eOp x5.1), (13, .own 69), (14, vi x6.2), (18, vi x8.2), (21, vl eOp x10.1), (22, vi x10.2.1), (23, vi x10.2.2), (24, vb x11.1), (25, vi x11.2), (149, vb true)] : List (Nat × SV)) ([(50, .deep 61 5 x3.1.length [.flat, .flat, .flat, .flat, (.sl 2 1 [.flat])] (x3.1.map eOp)), (69, .arr 2 1 x6.1.length (x6.1.map (eI .i64)))] : List (Nat × SO)) (by kernel_rfl) (by kernel_rfl)).trans ((Le.ren' (d := 50) (e := 7) (by kernel_rfl) (by kernel_rfl) (by kernel_rfl)).trans ((Le.ren' (d := 69) (e := 13) (by kernel_rfl) (by kernel_rfl) (by kernel_rfl)).trans (Le.sub0)))
  replace h := cond_f hb h
  refine SRun.ck tbok 2 ⟨229, [(5, vs x2.2.2.1), (6, vs x2.2.2.2), (7, .own 50), (8, vi x3.2), (11, vl eOp x5.1), (13, .own 69), (14, vi x6.2), (17, vs x8.1), (18, vi x8.2), (19, vs x9.1), (20, vi x9.2), (21, vl eOp x10.1), (22, vi x10.2.1), (23, vi x10.2.2), (24, vb x11.1), (25, vi x11.2), (26, vb x12.1), (27, vi x12.2), (124, vb false), (125, .own 69), (126, .own 75)], [(50, .deep 61 5 x3.1.length [.flat, .flat, .flat, .flat, (.sl 2 1 [.flat])] (x3.1.map eOp)), (69, .arr 2 1 x6.1.length (x6.1.map (eI .i64))), (75, .arr 2 1 x7.1.length (x7.1.map (eI .i64)))]⟩ ?_
  obtain ⟨x14, hx14, h⟩ := bind_some h
  refine SRun.ls (x_lstep_call (f := 42) (caps := []) (xs := [.own 69, .own 75]) (ys := [vl (eI .i64) x6.1, vl (eI .i64) x7.1]) (res := ⟨[.v (vb x14)], [], false⟩) (x := vb x14) (y := none) rfl ents42 (laws_likeInts_run x6.1 x7.1 _ hx14) rfl (by intro hc; cases hc)) ?_
  refine SRun.ck tbok 3 ⟨229, [(5, vs x2.2.2.1), (6, vs x2.2.2.2), (7, .own 50), (8, vi x3.2), (11, vl eOp x5.1), (13, .own 69), (14, vi x6.2), (17, vs x8.1), (18, vi x8.2), (19, vs x9.1), (20, vi x9.2), (21, vl eOp x10.1), (22, vi x10.2.1), (23, vi x10.2.2), (24, vb x11.1), (25, vi x11.2), (26, vb x12.1), (27, vi x12.2), (130, vb (!x14))], [(50, .deep 61 5 x3.1.length [.flat, .flat, .flat, .flat, (.sl 2 1 [.flat])] (x3.1.map eOp)), (69, .arr 2 1 x6.1.length (x6.1.map (eI .i64)))]⟩ ?_
  refine SRun.cut [(130, fun b => b)] (b := (!x14)) (by kernel_rfl) (fun hb => ?_) (fun hb => ?_)
  replace h := cond_t hb h
  refine SRun.ck tbok 19 ⟨229, [(5, vs x2.2.2.1), (6, vs x2.2.2.2), (7, .own 50), (8, vi x3.2), (11, vl eOp x5.1), (13, .own 69), (14, vi x6.2), (18, vi x8.2), (21, vl eOp x10.1), (22, vi x10.2.1), (23, vi x10.2.2), (24, vb x11.1), (25, vi x11.2), (149, vb true)], [(50, .deep 61 5 x3.1.length [.flat, .flat, .flat, .flat, (.sl 2 1 [.flat])] (x3.1.map eOp)), (69, .arr 2 1 x6.1.length (x6.1.map (eI .i64)))]⟩ ?_
  refine SRun.nil ?_
  replace h := Option.some.inj h
  subst h
  exact (Le.sub' ([(5, vs x2.2.2.1), (6, vs x2.2.2.2), (7, .own 50), (8, vi x3.2), (11, vl eOp x5.1), (13, .own 69), (14, vi x6.2), (18, vi x8.2), (21, vl eOp x10.1), (22, vi x10.2.1), (23, vi x10.2.2), (24, vb x11.1), (25, vi x11.2), (149, vb true)] : List (Nat × SV)) ([(50, .deep 61 5 x3.1.length [.flat, .flat, .flat, .flat, (.sl 2 1 [.flat])] (x3.1.map eOp)), (69, .arr 2 1 x6.1.length (x6.1.map (eI .i64)))] : List (Nat × SO)) (by kernel_rfl) (by kernel_rfl)).trans ((Le.ren' (d := 50) (e := 7) (by kernel_rfl) (by kernel_rfl) (by kernel_rfl)).trans ((Le.ren' (d := 69) (e := 13) (by kernel_rfl) (by kernel_rfl) (by kernel_rfl)).trans (Le.sub0)))
  replace h := cond_f hb h
  refine SRun.ck tbok 5 ⟨229, [(5, vs x2.2.2.1), (6, vs x2.2.2.2), (7, .own 50), (8, vi x3.2), (11, vl eOp x5.1), (13, .own 69), (14, vi x6.2), (17, vs x8.1), (18, vi x8.2), (19, vs x9.1), (21, vl eOp x10.1), (22, vi x10.2.1), (23, vi x10.2.2), (24, vb x11.1), (25, vi x11.2), (26, vb x12.1), (27, vi x12.2), (135, vb (x8.2 != x9.2))], [(50, .deep 61 5 x3.1.length [.flat, .flat, .flat, .flat, (.sl 2 1 [.flat])] (x3.1.map eOp)), (69, .arr 2 1 x6.1.length (x6.1.map (eI .i64)))]⟩ ?_
  refine SRun.cut [(135, fun b => b)] (b := (x8.2 != x9.2)) (by kernel_rfl) (fun hb => ?_) (fun hb => ?_)
  replace h := cond_t hb h
  refine SRun.ck tbok 14 ⟨229, [(5, vs x2.2.2.1), (6, vs x2.2.2.2), (7, .own 50), (8, vi x3.2), (11, vl eOp x5.1), (13, .own 69), (14, vi x6.2), (18, vi x8.2), (21, vl eOp x10.1), (22, vi x10.2.1), (23, vi x10.2.2), (24, vb x11.1), (25, vi x11.2), (149, vb true)], [(50, .deep 61 5 x3.1.length [.flat, .flat, .flat, .flat, (.sl 2 1 [.flat])] (x3.1.map eOp)), (69, .arr 2 1 x6.1.length (x6.1.map (eI .i64)))]⟩ ?_
  refine SRun.nil ?_
  replace h := Option.some.inj h
  subst h
  exact (Le.sub' ([(5, vs x2.2.2.1), (6, vs x2.2.2.2), (7, .own 50), (8, vi x3.2), (11, vl eOp x5.1), (13, .own 69), (14, vi x6.2), (18, vi x8.2), (21, vl eOp x10.1), (22, vi x10.2.1), (23, vi x10.2.2), (24, vb x11.1), (25, vi x11.2), (149, vb true)] : List (Nat × SV)) ([(50, .deep 61 5 x3.1.length [.flat, .flat, .flat, .flat, (.sl 2 1 [.flat])] (x3.1.map eOp)), (69, .arr 2 1 x6.1.length (x6.1.map (eI .i64)))] : List (Nat × SO)) (by kernel_rfl) (by kernel_rfl)).trans ((Le.ren' (d := 50) (e := 7) (by kernel_rfl) (by kernel_rfl) (by kernel_rfl)).trans ((Le.ren' (d := 69) (e := 13) (by kernel_rfl) (by kernel_rfl) (by kernel_rfl)).trans (Le.sub0)))
  replace h := cond_f hb h
  refine SRun.ck tbok 5 ⟨229, [(5, vs x2.2.2.1), (6, vs x2.2.2.2), (7, .own 50), (8, vi x3.2), (11, vl eOp x5.1), (13, .own 69), (14, vi x6.2), (18, vi x8.2), (21, vl eOp x10.1), (22, vi x10.2.1), (23, vi x10.2.2), (24, vb x11.1), (25, vi x11.2), (26, vb x12.1), (27, vi x12.2), (140, vb (!(x8.1.toList == x9.1.toList)))], [(50, .deep 61 5 x3.1.length [.flat, .flat, .flat, .flat, (.sl 2 1 [.flat])] (x3.1.map eOp)), (69, .arr 2 1 x6.1.length (x6.1.map (eI .i64)))]⟩ ?_
  refine SRun.cut [(140, fun b => b)] (b := (!(x8.1.toList == x9.1.toList))) (by kernel_rfl) (fun hb => ?_) (fun hb => ?_)
  replace h := cond_t hb h
  refine SRun.ck tbok 9 ⟨229, [(5, vs x2.2.2.1), (6, vs x2.2.2.2), (7, .own 50), (8, vi x3.2), (11, vl eOp x5.1), (13, .own 69), (14, vi x6.2), (18, vi x8.2), (21, vl eOp x10.1), (22, vi x10.2.1), (23, vi x10.2.2), (24, vb x11.1), (25, vi x11.2), (149, vb true)], [(50, .deep 61 5 x3.1.length [.flat, .flat, .flat, .flat, (.sl 2 1 [.flat])] (x3.1.map eOp)), (69, .arr 2 1 x6.1.length (x6.1.map (eI .i64)))]⟩ ?_
  refine SRun.nil ?_
  replace h := Option.some.inj h
  subst h
  exact (Le.sub' ([(5, vs x2.2.2.1), (6, vs x2.2.2.2), (7, .own 50), (8, vi x3.2), (11, vl eOp x5.1), (13, .own 69), (14, vi x6.2), (18, vi x8.2), (21, vl eOp x10.1), (22, vi x10.2.1), (23, vi x10.2.2), (24, vb x11.1), (25, vi x11.2), (149, vb true)] : List (Nat × SV)) ([(50, .deep 61 5 x3.1.length [.flat, .flat, .flat, .flat, (.sl 2 1 [.flat])] (x3.1.map eOp)), (69, .arr 2 1 x6.1.length (x6.1.map (eI .i64)))] : List (Nat × SO)) (by kernel_rfl) (by kernel_rfl)).trans ((Le.ren' (d := 50) (e := 7) (by kernel_rfl) (by kernel_rfl) (by kernel_rfl)).trans ((Le.ren' (d := 69) (e := 13) (by kernel_rfl) (by kernel_rfl) (by kernel_rfl)).trans (Le.sub0)))
  replace h := cond_f hb h
  refine SRun.ck tbok 5 ⟨229, [(5, vs x2.2.2.1), (6, vs x2.2.2.2), (7, .own 50), (8, vi x3.2), (11, vl eOp x5.1), (13, .own 69), (14, vi x6.2), (18, vi x8.2), (21, vl eOp x10.1), (22, vi x10.2.1), (23, vi x10.2.2), (24, vb x11.1), (25, vi x11.2), (26, vb x12.1), (145, vb (x11.2 != x12.2))], [(50, .deep 61 5 x3.1.length [.flat, .flat, .flat, .flat, (.sl 2 1 [.flat])] (x3.1.map eOp)), (69, .arr 2 1 x6.1.length (x6.1.map (eI .i64)))]⟩ ?_
  refine SRun.cut [(145, fun b => b)] (b := (x11.2 != x12.2)) (by kernel_rfl) (fun hb => ?_) (fun hb => ?_)
  replace h := cond_t hb h
  refine SRun.ck tbok 4 ⟨229, [(5, vs x2.2.2.1), (6, vs x2.2.2.2), (7, .own 50), (8, vi x3.2), (11, vl eOp x5.1), (13, .own 69), (14, vi x6.2), (18, vi x8.2), (21, vl eOp x10.1), (22, vi x10.2.1), (23, vi x10.2.2), (24, vb x11.1), (25, vi x11.2), (149, vb true)], [(50, .deep 61 5 x3.1.length [.flat, .flat, .flat, .flat, (.sl 2 1 [.flat])] (x3.1.map eOp)), (69, .arr 2 1 x6.1.length (x6.1.map (eI .i64)))]⟩ ?_
  refine SRun.nil ?_
  replace h := Option.some.inj h
  subst h
  exact (Le.sub' ([(5, vs x2.2.2.1), (6, vs x2.2.2.2), (7, .own 50), (8, vi x3.2), (11, vl eOp x5.1), (13, .own 69), (14, vi x6.2), (18, vi x8.2), (21, vl eOp x10.1), (22, vi x10.2.1), (23, vi x10.2.2), (24, vb x11.1), (25, vi x11.2), (149, vb true)] : List (Nat × SV)) ([(50, .deep 61 5 x3.1.length [.flat, .flat, .flat, .flat, (.sl 2 1 [.flat])] (x3.1.map eOp)), (69, .arr 2 1 x6.1.length (x6.1.map (eI .i64)))] : List (Nat × SO)) (by kernel_rfl) (by kernel_rfl)).trans ((Le.ren' (d := 50) (e := 7) (by kernel_rfl) (by kernel_rfl) (by kernel_rfl)).trans ((Le.ren' (d := 69) (e := 13) (by kernel_rfl) (by kernel_rfl) (by kernel_rfl)).trans (Le.sub0)))
  replace h := cond_f hb h
  refine SRun.ck tbok 2 ⟨229, [(5, vs x2.2.2.1), (6, vs x2.2.2.2), (7, .own 50), (8, vi x3.2), (11, vl eOp x5.1), (13, .own 69), (14, vi x6.2), (18, vi x8.2), (21, vl eOp x10.1), (22, vi x10.2.1), (23, vi x10.2.2), (24, vb x11.1), (25, vi x11.2), (145, vb false), (146, vb x11.1), (147, vb x12.1)], [(50, .deep 61 5 x3.1.length [.flat, .flat, .flat, .flat, (.sl 2 1 [.flat])] (x3.1.map eOp)), (69, .arr 2 1 x6.1.length (x6.1.map (eI .i64)))]⟩ ?_
  refine SRun.ls (x_lstep_eqb tbok (ti := ti4) (i := x11.1) (j := x12.1) true rfl) ?_
  refine SRun.ck tbok 1 ⟨229, [(5, vs x2.2.2.1), (6, vs x2.2.2.2), (7, .own 50), (8, vi x3.2), (11, vl eOp x5.1), (13, .own 69), (14, vi x6.2), (18, vi x8.2), (21, vl eOp x10.1), (22, vi x10.2.1), (23, vi x10.2.2), (24, vb x11.1), (25, vi x11.2), (149, vb (!(x11.1 == x12.1)))], [(50, .deep 61 5 x3.1.length [.flat, .flat, .flat, .flat, (.sl 2 1 [.flat])] (x3.1.map eOp)), (69, .arr 2 1 x6.1.length (x6.1.map (eI .i64)))]⟩ ?_
  refine SRun.nil ?_
  replace h := Option.some.inj h
  subst h
  exact (Le.sub' ([(5, vs x2.2.2.1), (6, vs x2.2.2.2), (7, .own 50), (8, vi x3.2), (11, vl eOp x5.1), (13, .own 69), (14, vi x6.2), (18, vi x8.2), (21, vl eOp x10.1), (22, vi x10.2.1), (23, vi x10.2.2), (24, vb x11.1), (25, vi x11.2), (149, vb (!(x11.1 == x12.1)))] : List (Nat × SV)) ([(50, .deep 61 5 x3.1.length [.flat, .flat, .flat, .flat, (.sl 2 1 [.flat])] (x3.1.map eOp)), (69, .arr 2 1 x6.1.length (x6.1.map (eI .i64)))] : List (Nat × SO)) (by kernel_rfl) (by kernel_rfl)).trans ((Le.ren' (d := 50) (e := 7) (by kernel_rfl) (by kernel_rfl) (by kernel_rfl)).trans ((Le.ren' (d := 69) (e := 13) (by kernel_rfl) (by kernel_rfl) (by kernel_rfl)).trans (Le.sub0)))
  refine swp_cond (b := j15) (by kernel_rfl) (fun hb => ?_) (fun hb => ?_)
  replace h := cond_t hb h
  refine swp_seq ?_
  refine swp_reg ?_
  refine SRun.ck tbok 1 ⟨229, [(2, vb false)], []⟩ ?_
  refine SRun.nil ?_
  refine nx_n ?_
  refine swp_ret ?_
  replace h := Option.some.inj h
  subst h
  exact nx_r (q_fr (fin1 (by kernel_rfl) (finV rfl SV.flat_of (holds_t (by kernel_rfl)))))
  replace h := cond_f hb h
  refine swp_skip ?_
  refine nx_n ?_
  refine swp_seq ?_
  refine swp_seq ?_
  refine swp_regP ⟨229, [(5, vs x2.2.2.1), (6, vs x2.2.2.2), (7, .own 7), (8, vi x3.2), (11, vl eOp x5.1), (13, .own 13), (14, vi x6.2), (21, vl eOp x10.1), (22, vi x10.2.1), (23, vi x10.2.2), (24, vb x11.1), (25, vi x11.2), (159, vb ((x6.2 == 0) && (!((decide ((x6.1.length : Int) > 0)) == (x8.2 == 0)))))], [(7, .deep 61 5 x3.1.length [.flat, .flat, .flat, .flat, (.sl 2 1 [.flat])] (x3.1.map eOp)), (13, .arr 2 1 x6.1.length (x6.1.map (eI .i64)))]⟩ ?_ ?_
  refine SRun.ck tbok 3 ⟨229, [(5, vs x2.2.2.1), (6, vs x2.2.2.2), (7, .own 7), (8, vi x3.2), (11, vl eOp x5.1), (13, .own 13), (14, vi x6.2), (18, vi x8.2), (21, vl eOp x10.1), (22, vi x10.2.1), (23, vi x10.2.2), (24, vb x11.1), (25, vi x11.2), (152, vb (x6.2 == 0))], [(7, .deep 61 5 x3.1.length [.flat, .flat, .flat, .flat, (.sl 2 1 [.flat])] (x3.1.map eOp)), (13, .arr 2 1 x6.1.length (x6.1.map (eI .i64)))]⟩ ?_
  generalize (x6.2 == 0) = bb
  cases bb
  refine SRun.ck tbok 7 ⟨229, [(5, vs x2.2.2.1), (6, vs x2.2.2.2), (7, .own 7), (8, vi x3.2), (11, vl eOp x5.1), (13, .own 13), (14, vi x6.2), (21, vl eOp x10.1), (22, vi x10.2.1), (23, vi x10.2.2), (24, vb x11.1), (25, vi x11.2), (159, vb false)], [(7, .deep 61 5 x3.1.length [.flat, .flat, .flat, .flat, (.sl 2 1 [.flat])] (x3.1.map eOp)), (13, .arr 2 1 x6.1.length (x6.1.map (eI .i64)))]⟩ ?_
  exact SRun.nil (Le.sub0)
  refine SRun.ck tbok 5 ⟨229, [(5, vs x2.2.2.1), (6, vs x2.2.2.2), (7, .own 7), (8, vi x3.2), (11, vl eOp x5.1), (13, .own 13), (14, vi x6.2), (21, vl eOp x10.1), (22, vi x10.2.1), (23, vi x10.2.2), (24, vb x11.1), (25, vi x11.2), (152, vb true), (155, vb (decide ((x6.1.length : Int) > 0))), (157, vb (x8.2 == 0))], [(7, .deep 61 5 x3.1.length [.flat, .flat, .flat, .flat, (.sl 2 1 [.flat])] (x3.1.map eOp)), (13, .arr 2 1 x6.1.length (x6.1.map (eI .i64)))]⟩ ?_
  refine SRun.ls (x_lstep_eqb tbok (ti := ti4) (i := (decide ((x6.1.length : Int) > 0))) (j := (x8.2 == 0)) true rfl) ?_
  refine SRun.ck tbok 1 ⟨229, [(5, vs x2.2.2.1), (6, vs x2.2.2.2), (7, .own 7), (8, vi x3.2), (11, vl eOp x5.1), (13, .own 13), (14, vi x6.2), (21, vl eOp x10.1), (22, vi x10.2.1), (23, vi x10.2.2), (24, vb x11.1), (25, vi x11.2), (159, vb (!((decide ((x6.1.length : Int) > 0)) == (x8.2 == 0))))], [(7, .deep 61 5 x3.1.length [.flat, .flat, .flat, .flat, (.sl 2 1 [.flat])] (x3.1.map eOp)), (13, .arr 2 1 x6.1.length (x6.1.map (eI .i64)))]⟩ ?_
  exact SRun.nil (Le.sub0)
  refine swp_cond (b := ((x6.2 == 0) && (!((decide ((x6.1.length : Int) > 0)) == (x8.2 == 0))))) (by kernel_rfl) (fun hb => ?_) (fun hb => ?_)
  replace h := cond_t hb h
  refine swp_seq ?_
  refine swp_reg ?_
  refine SRun.ck tbok 1 ⟨229, [(2, vb false)], []⟩ ?_
  refine SRun.nil ?_
  refine nx_n ?_
  refine swp_ret ?_
  replace h := Option.some.inj h
  subst h
  exact nx_r (q_fr (fin1 (by kernel_rfl) (finV rfl SV.flat_of (holds_t (by kernel_rfl)))))
  replace h := cond_f hb h
  refine swp_skip ?_
  refine nx_n ?_
  refine swp_seq ?_
  refine swp_seq ?_
  refine swp_reg ?_
  refine SRun.ck tbok 1 ⟨229, [(5, vs x2.2.2.1), (6, vs x2.2.2.2), (7, .own 7), (8, vi x3.2), (11, vl eOp x5.1), (13, .own 13), (14, vi x6.2), (21, vl eOp x10.1), (22, vi x10.2.1), (23, vi x10.2.2), (24, vb x11.1), (25, vi x11.2), (28, vi 0)], [(7, .deep 61 5 x3.1.length [.flat, .flat, .flat, .flat, (.sl 2 1 [.flat])] (x3.1.map eOp)), (13, .arr 2 1 x6.1.length (x6.1.map (eI .i64)))]⟩ ?_
  refine SRun.nil ?_
  refine nx_n ?_
  refine swp_seqE (r := r) h (fun j17 => ⟨229, [(5, vs x2.2.2.1), (6, vs x2.2.2.2), (7, .own 7), (8, vi x3.2), (21, vl eOp x10.1), (22, vi x10.2.1), (23, vi x10.2.2), (24, vb x11.1), (25, vi x11.2)], [(7, .deep 61 5 x3.1.length [.flat, .flat, .flat, .flat, (.sl 2 1 [.flat])] (x3.1.map eOp))]⟩) (fun v18 h => ?_) (fun j17 h => ?_)
  refine swp_blk (a := v18) ?_
  refine swp_lpL (r := v18) (s := (0, ())) _ (fun s19 => ⟨229, [(5, vs x2.2.2.1), (6, vs x2.2.2.2), (7, .own 7), (8, vi x3.2), (11, vl eOp x5.1), (13, .own 13), (14, vi x6.2), (21, vl eOp x10.1), (22, vi x10.2.1), (23, vi x10.2.2), (24, vb x11.1), (25, vi x11.2), (28, vi s19.1)], [(7, .deep 61 5 x3.1.length [.flat, .flat, .flat, .flat, (.sl 2 1 [.flat])] (x3.1.map eOp)), (13, .arr 2 1 x6.1.length (x6.1.map (eI .i64)))]⟩) _ (Le.sub0) h (fun s19 v20 h => ?_)
  refine swp_seq ?_
  refine swp_seq ?_
  refine swp_regP ⟨229, [(5, vs x2.2.2.1), (6, vs x2.2.2.2), (7, .own 7), (8, vi x3.2), (11, vl eOp x5.1), (13, .own 13), (14, vi x6.2), (21, vl eOp x10.1), (22, vi x10.2.1), (23, vi x10.2.2), (24, vb x11.1), (25, vi x11.2), (28, vi s19.1), (167, vb ((x6.2 == 0) && (decide (s19.1 < (x6.1.length : Int)))))], [(7, .deep 61 5 x3.1.length [.flat, .flat, .flat, .flat, (.sl 2 1 [.flat])] (x3.1.map eOp)), (13, .arr 2 1 x6.1.length (x6.1.map (eI .i64)))]⟩ ?_ ?_
  refine SRun.ck tbok 3 ⟨229, [(5, vs x2.2.2.1), (6, vs x2.2.2.2), (7, .own 7), (8, vi x3.2), (11, vl eOp x5.1), (13, .own 13), (14, vi x6.2), (21, vl eOp x10.1), (22, vi x10.2.1), (23, vi x10.2.2), (24, vb x11.1), (25, vi x11.2), (28, vi s19.1), (162, vb (x6.2 == 0))], [(7, .deep 61 5 x3.1.length [.flat, .flat, .flat, .flat, (.sl 2 1 [.flat])] (x3.1.map eOp)), (13, .arr 2 1 x6.1.length (x6.1.map (eI .i64)))]⟩ ?_
  generalize (x6.2 == 0) = bb
  cases bb
  refine SRun.ck tbok 5 ⟨229, [(5, vs x2.2.2.1), (6, vs x2.2.2.2), (7, .own 7), (8, vi x3.2), (11, vl eOp x5.1), (13, .own 13), (14, vi x6.2), (21, vl eOp x10.1), (22, vi x10.2.1), (23, vi x10.2.2), (24, vb x11.1), (25, vi x11.2), (28, vi s19.1), (167, vb false)], [(7, .deep 61 5 x3.1.length [.flat, .flat, .flat, .flat, (.sl 2 1 [.flat])] (x3.1.map eOp)), (13, .arr 2 1 x6.1.length (x6.1.map (eI .i64)))]⟩ ?_
  exact SRun.nil (Le.sub0)
  refine SRun.ck tbok 5 ⟨229, [(5, vs x2.2.2.1), (6, vs x2.2.2.2), (7, .own 7), (8, vi x3.2), (11, vl eOp x5.1), (13, .own 13), (14, vi x6.2), (21, vl eOp x10.1), (22, vi x10.2.1), (23, vi x10.2.2), (24, vb x11.1), (25, vi x11.2), (28, vi s19.1), (167, vb (decide (s19.1 < (x6.1.length : Int))))], [(7, .deep 61 5 x3.1.length [.flat, .flat, .flat, .flat, (.sl 2 1 [.flat])] (x3.1.map eOp)), (13, .arr 2 1 x6.1.length (x6.1.map (eI .i64)))]⟩ ?_
  exact SRun.nil (Le.sub0)
  refine swp_cond (b := ((x6.2 == 0) && (decide (s19.1 < (x6.1.length : Int))))) (by kernel_rfl) (fun hb => ?_) (fun hb => ?_)
  replace h := cond_t hb h
  refine swp_skip ?_
  refine nx_n ?_
  refine swp_seq ?_
  refine swp_seqL (r := v20) h (fun j21 => ⟨229, [(5, vs x2.2.2.1), (6, vs x2.2.2.2), (7, .own 7), (8, vi x3.2), (11, vl eOp x5.1), (13, .own 13), (14, vi x6.2), (21, vl eOp x10.1), (22, vi x10.2.1), (23, vi x10.2.2), (24, vb x11.1), (25, vi x11.2), (28, vi s19.1)], [(7, .deep 61 5 x3.1.length [.flat, .flat, .flat, .flat, (.sl 2 1 [.flat])] (x3.1.map eOp)), (13, .arr 2 1 x6.1.length (x6.1.map (eI .i64)))]⟩) (fun v22 h => ?_) (fun j21 h => ?_)
  refine swp_blk (a := v22) ?_
  refine swp_seq ?_
  refine swp_reg ?_
  refine SRun.ck tbok 1 ⟨229, [(5, vs x2.2.2.1), (6, vs x2.2.2.2), (7, .own 7), (8, vi x3.2), (11, vl eOp x5.1), (13, .own 13), (14, vi x6.2), (21, vl eOp x10.1), (22, vi x10.2.1), (23, vi x10.2.2), (24, vb x11.1), (25, vi x11.2), (28, vi s19.1), (29, vi 0)], [(7, .deep 61 5 x3.1.length [.flat, .flat, .flat, .flat, (.sl 2 1 [.flat])] (x3.1.map eOp)), (13, .arr 2 1 x6.1.length (x6.1.map (eI .i64)))]⟩ ?_
  refine SRun.nil ?_
  refine nx_n ?_
  refine swp_blk (a := v22) ?_
  refine swp_lpL (r := v22) (s := (0, ())) _ (fun s23 => ⟨229, [(5, vs x2.2.2.1), (6, vs x2.2.2.2), (7, .own 7), (8, vi x3.2), (11, vl eOp x5.1), (13, .own 13), (14, vi x6.2), (21, vl eOp x10.1), (22, vi x10.2.1), (23, vi x10.2.2), (24, vb x11.1), (25, vi x11.2), (28, vi s19.1), (29, vi s23.1)], [(7, .deep 61 5 x3.1.length [.flat, .flat, .flat, .flat, (.sl 2 1 [.flat])] (x3.1.map eOp)), (13, .arr 2 1 x6.1.length (x6.1.map (eI .i64)))]⟩) _ (Le.sub0) h (fun s23 v24 h => ?_)
  refine swp_seq ?_
  refine swp_seq ?_
  refine swp_reg ?_
  refine SRun.ck tbok 3 ⟨229, [(5, vs x2.2.2.1), (6, vs x2.2.2.2), (7, .own 7), (8, vi x3.2), (11, vl eOp x5.1), (13, .own 13), (14, vi x6.2), (21, vl eOp x10.1), (22, vi x10.2.1), (23, vi x10.2.2), (24, vb x11.1), (25, vi x11.2), (28, vi s19.1), (29, vi s23.1), (172, vb (decide (s23.1 < s19.1)))], [(7, .deep 61 5 x3.1.length [.flat, .flat, .flat, .flat, (.sl 2 1 [.flat])] (x3.1.map eOp)), (13, .arr 2 1 x6.1.length (x6.1.map (eI .i64)))]⟩ ?_
  refine SRun.nil ?_
  refine nx_n ?_
  refine swp_cond (b := (decide (s23.1 < s19.1))) (by kernel_rfl) (fun hb => ?_) (fun hb => ?_)
  replace h := cond_t hb h
  refine swp_skip ?_
  refine nx_n ?_
  refine swp_seq ?_
  refine swp_seqL (r := v24) h (fun j25 => ⟨229, [(5, vs x2.2.2.1), (6, vs x2.2.2.2), (7, .own 7), (8, vi x3.2), (11, vl eOp x5.1), (13, .own 13), (14, vi x6.2), (21, vl eOp x10.1), (22, vi x10.2.1), (23, vi x10.2.2), (24, vb x11.1), (25, vi x11.2), (28, vi s19.1), (29, vi s23.1)], [(7, .deep 61 5 x3.1.length [.flat, .flat, .flat, .flat, (.sl 2 1 [.flat])] (x3.1.map eOp)), (13, .arr 2 1 x6.1.length (x6.1.map (eI .i64)))]⟩) (fun v26 h => ?_) (fun j25 h => ?_)
  refine swp_blk (a := v26) ?_
  refine swp_seq ?_
  refine swp_dr mixed ?_
  refine DGo.chunk' tbok 3 (σ' := ⟨229, [(178, vi s19.1), (177, .own 13), (176, vl eOp x5.1), (5, vs x2.2.2.1), (6, vs x2.2.2.2), (7, .own 7), (8, vi x3.2), (11, vl eOp x5.1), (13, .own 13), (14, vi x6.2), (21, vl eOp x10.1), (22, vi x10.2.1), (23, vi x10.2.2), (24, vb x11.1), (25, vi x11.2), (28, vi s19.1), (29, vi s23.1), (172, vb (decide (s23.1 < s19.1)))], [(7, .deep 61 5 x3.1.length [.flat, .flat, .flat, .flat, (.sl 2 1 [.flat])] (x3.1.map eOp)), (13, .arr 2 1 x6.1.length (x6.1.map (eI .i64)))]⟩) (by kernel_rfl) ?_
  obtain ⟨x27, hx27, h⟩ := bind_some h
  refine DGo.step (x_index_own (d := 13) (L := x6.1) (f := (eI .i64)) (ti := ti32) (tj := ti2) (e := 2) (e' := 2) (m := 1) (k := .i64) tbok rfl hx27) ?_
  refine DGo.step (x_load_own (d := 13) (m := 1) (j := 0) (L := x6.1) (f := (eI .i64)) (ti := ti2) (e := 2) (v := vi x27) tbok rfl hx27) ?_
  refine DGo.chunk' tbok 2 (σ' := ⟨229, [(182, vi s23.1), (181, .own 13), (180, vi x27), (179, .eref 13 1 (Int.toNat s19.1) 0), (178, vi s19.1), (177, .own 13), (176, vl eOp x5.1), (5, vs x2.2.2.1), (6, vs x2.2.2.2), (7, .own 7), (8, vi x3.2), (11, vl eOp x5.1), (13, .own 13), (14, vi x6.2), (21, vl eOp x10.1), (22, vi x10.2.1), (23, vi x10.2.2), (24, vb x11.1), (25, vi x11.2), (28, vi s19.1), (29, vi s23.1), (172, vb (decide (s23.1 < s19.1)))], [(7, .deep 61 5 x3.1.length [.flat, .flat, .flat, .flat, (.sl 2 1 [.flat])] (x3.1.map eOp)), (13, .arr 2 1 x6.1.length (x6.1.map (eI .i64)))]⟩) (by kernel_rfl) ?_
  obtain ⟨x28, hx28, h⟩ := bind_some h
  refine DGo.step (x_index_own (d := 13) (L := x6.1) (f := (eI .i64)) (ti := ti32) (tj := ti2) (e := 2) (e' := 2) (m := 1) (k := .i64) tbok rfl hx28) ?_
  refine DGo.step (x_load_own (d := 13) (m := 1) (j := 0) (L := x6.1) (f := (eI .i64)) (ti := ti2) (e := 2) (v := vi x28) tbok rfl hx28) ?_
  obtain ⟨x29, hx29, h⟩ := bind_some h
  refine DGo.step (x_lstep_call (f := 18) (caps := []) (xs := [vl eOp x5.1, vi x27, vi x28]) (ys := [vl eOp x5.1, vi x27, vi x28]) (res := ⟨[.v (vb x29.1), .v (vi x29.2)], [], false⟩) (x := .tup [vb x29.1, vi x29.2]) (y := none) rfl ents18 (impl_AtOnce_run x5.1 x27 x28 _ hx29) rfl (by intro hc; cases hc)) ?_
  refine DGo.chunk' tbok 5 (σ' := ⟨229, [(31, vi x29.2), (30, vb x29.1), (187, vi x29.2), (186, vb x29.1), (175, .tup [vb x29.1, vi x29.2]), (185, .tup [vb x29.1, vi x29.2]), (184, vi x28), (183, .eref 13 1 (Int.toNat s23.1) 0), (182, vi s23.1), (181, .own 13), (180, vi x27), (179, .eref 13 1 (Int.toNat s19.1) 0), (178, vi s19.1), (177, .own 13), (176, vl eOp x5.1), (5, vs x2.2.2.1), (6, vs x2.2.2.2), (7, .own 7), (8, vi x3.2), (11, vl eOp x5.1), (13, .own 13), (14, vi x6.2), (21, vl eOp x10.1), (22, vi x10.2.1), (23, vi x10.2.2), (24, vb x11.1), (25, vi x11.2), (28, vi s19.1), (29, vi s23.1), (172, vb (decide (s23.1 < s19.1)))], [(7, .deep 61 5 x3.1.length [.flat, .flat, .flat, .flat, (.sl 2 1 [.flat])] (x3.1.map eOp)), (13, .arr 2 1 x6.1.length (x6.1.map (eI .i64)))]⟩) (by kernel_rfl) ?_
  refine DGo.nil (by kernel_rfl) ?_
  refine nx_n ?_
  refine swp_seq ?_
  refine swp_regP ⟨229, [(5, vs x2.2.2.1), (6, vs x2.2.2.2), (7, .own 7), (8, vi x3.2), (11, vl eOp x5.1), (13, .own 13), (14, vi x6.2), (21, vl eOp x10.1), (22, vi x10.2.1), (23, vi x10.2.2), (24, vb x11.1), (25, vi x11.2), (28, vi s19.1), (29, vi s23.1), (193, vb ((x29.2 != 0) || (!x29.1)))], [(7, .deep 61 5 x3.1.length [.flat, .flat, .flat, .flat, (.sl 2 1 [.flat])] (x3.1.map eOp)), (13, .arr 2 1 x6.1.length (x6.1.map (eI .i64)))]⟩ ?_ ?_
  refine SRun.ck tbok 3 ⟨229, [(5, vs x2.2.2.1), (6, vs x2.2.2.2), (7, .own 7), (8, vi x3.2), (11, vl eOp x5.1), (13, .own 13), (14, vi x6.2), (21, vl eOp x10.1), (22, vi x10.2.1), (23, vi x10.2.2), (24, vb x11.1), (25, vi x11.2), (28, vi s19.1), (29, vi s23.1), (30, vb x29.1), (190, vb (x29.2 != 0))], [(7, .deep 61 5 x3.1.length [.flat, .flat, .flat, .flat, (.sl 2 1 [.flat])] (x3.1.map eOp)), (13, .arr 2 1 x6.1.length (x6.1.map (eI .i64)))]⟩ ?_
  generalize (x29.2 != 0) = bb
  cases bb
  refine SRun.ck tbok 3 ⟨229, [(5, vs x2.2.2.1), (6, vs x2.2.2.2), (7, .own 7), (8, vi x3.2), (11, vl eOp x5.1), (13, .own 13), (14, vi x6.2), (21, vl eOp x10.1), (22, vi x10.2.1), (23, vi x10.2.2), (24, vb x11.1), (25, vi x11.2), (28, vi s19.1), (29, vi s23.1), (193, vb (!x29.1))], [(7, .deep 61 5 x3.1.length [.flat, .flat, .flat, .flat, (.sl 2 1 [.flat])] (x3.1.map eOp)), (13, .arr 2 1 x6.1.length (x6.1.map (eI .i64)))]⟩ ?_
  exact SRun.nil (Le.sub0)
  refine SRun.ck tbok 3 ⟨229, [(5, vs x2.2.2.1), (6, vs x2.2.2.2), (7, .own 7), (8, vi x3.2), (11, vl eOp x5.1), (13, .own 13), (14, vi x6.2), (21, vl eOp x10.1), (22, vi x10.2.1), (23, vi x10.2.2), (24, vb x11.1), (25, vi x11.2), (28, vi s19.1), (29, vi s23.1), (193, vb true)], [(7, .deep 61 5 x3.1.length [.flat, .flat, .flat, .flat, (.sl 2 1 [.flat])] (x3.1.map eOp)), (13, .arr 2 1 x6.1.length (x6.1.map (eI .i64)))]⟩ ?_
  exact SRun.nil (Le.sub0)
  refine swp_cond (b := ((x29.2 != 0) || (!x29.1))) (by kernel_rfl) (fun hb => ?_) (fun hb => ?_)
  replace h := cond_t hb h
  refine swp_seq ?_
  refine swp_reg ?_
  refine SRun.ck tbok 1 ⟨229, [(2, vb false)], []⟩ ?_
  refine SRun.nil ?_
  refine nx_n ?_
  refine swp_ret ?_
  replace h := Option.some.inj h
  subst h
  exact q_br (q_rr (q_rr (q_br (q_br (q_rr (q_rr (q_br (q_rr (q_fr (fin1 (by kernel_rfl) (finV rfl SV.flat_of (holds_t (by kernel_rfl)))))))))))))
  replace h := cond_f hb h
  refine swp_skip ?_
  replace h := Option.some.inj h
  subst h
  exact q_bn (q_l (Le.sub0))
  refine swp_reg ?_
  refine SRun.ck tbok 3 ⟨229, [(5, vs x2.2.2.1), (6, vs x2.2.2.2), (7, .own 7), (8, vi x3.2), (11, vl eOp x5.1), (13, .own 13), (14, vi x6.2), (21, vl eOp x10.1), (22, vi x10.2.1), (23, vi x10.2.2), (24, vb x11.1), (25, vi x11.2), (28, vi s19.1), (29, vi (w64 (s23.1 + 1)))], [(7, .deep 61 5 x3.1.length [.flat, .flat, .flat, .flat, (.sl 2 1 [.flat])] (x3.1.map eOp)), (13, .arr 2 1 x6.1.length (x6.1.map (eI .i64)))]⟩ ?_
  refine SRun.nil ?_
  replace h := Option.some.inj h
  subst h
  exact q_l (Le.sub0)
  replace h := cond_f hb h
  refine swp_exit ?_
  replace h := Option.some.inj h
  subst h
  exact nx_e (q_re (q_bh (q_bn (q_l (Le.sub0)))))
  refine swp_reg ?_
  refine SRun.ck tbok 3 ⟨229, [(5, vs x2.2.2.1), (6, vs x2.2.2.2), (7, .own 7), (8, vi x3.2), (11, vl eOp x5.1), (13, .own 13), (14, vi x6.2), (21, vl eOp x10.1), (22, vi x10.2.1), (23, vi x10.2.2), (24, vb x11.1), (25, vi x11.2), (28, vi (w64 (s19.1 + 1)))], [(7, .deep 61 5 x3.1.length [.flat, .flat, .flat, .flat, (.sl 2 1 [.flat])] (x3.1.map eOp)), (13, .arr 2 1 x6.1.length (x6.1.map (eI .i64)))]⟩ ?_
  refine SRun.nil ?_
  replace h := Option.some.inj h
  subst h
  exact q_l (Le.sub0)
  replace h := cond_f hb h
  refine swp_exit ?_
  replace h := Option.some.inj h
  subst h
  exact nx_e (q_re (q_bh (q_l (Le.sub0))))
  refine swp_seq ?_
  refine swp_seq ?_
  refine swp_reg ?_
  refine SRun.ck tbok 2 ⟨229, [(5, vs x2.2.2.1), (6, vs x2.2.2.2), (7, .own 7), (8, vi x3.2), (21, vl eOp x10.1), (22, vi x10.2.1), (23, vi x10.2.2), (24, vb x11.1), (195, vb (x11.2 == 0))], [(7, .deep 61 5 x3.1.length [.flat, .flat, .flat, .flat, (.sl 2 1 [.flat])] (x3.1.map eOp))]⟩ ?_
  refine SRun.nil ?_
  refine nx_n ?_
  refine swp_seqE (r := r) h (fun j30 => ⟨229, [(5, vs x2.2.2.1), (6, vs x2.2.2.2), (7, .own 7), (8, vi x3.2)], [(7, .deep 61 5 x3.1.length [.flat, .flat, .flat, .flat, (.sl 2 1 [.flat])] (x3.1.map eOp))]⟩) (fun v31 h => ?_) (fun j30 h => ?_)
  refine swp_cond (b := (x11.2 == 0)) (by kernel_rfl) (fun hb => ?_) (fun hb => ?_)
  replace h := cond_t hb h
  refine swp_seq ?_
  refine swp_reg ?_
  refine SRun.ck tbok 3 ⟨229, [(5, vs x2.2.2.1), (6, vs x2.2.2.2), (7, .own 7), (8, vi x3.2), (24, vb x11.1), (197, vl eOp x10.1), (198, vi x10.2.2), (199, vi x10.2.1)], [(7, .deep 61 5 x3.1.length [.flat, .flat, .flat, .flat, (.sl 2 1 [.flat])] (x3.1.map eOp))]⟩ ?_
  obtain ⟨x32, hx32, h⟩ := bind_some h
  refine SRun.ls (x_lstep_call (f := 18) (caps := []) (xs := [vl eOp x10.1, vi x10.2.2, vi x10.2.1]) (ys := [vl eOp x10.1, vi x10.2.2, vi x10.2.1]) (res := ⟨[.v (vb x32.1), .v (vi x32.2)], [], false⟩) (x := .tup [vb x32.1, vi x32.2]) (y := none) rfl ents18 (impl_AtOnce_run x10.1 x10.2.2 x10.2.1 _ hx32) rfl (by intro hc; cases hc)) ?_
  refine SRun.ck tbok 5 ⟨229, [(5, vs x2.2.2.1), (6, vs x2.2.2.2), (7, .own 7), (8, vi x3.2), (24, vb x11.1), (32, vb x32.1), (33, vi x32.2)], [(7, .deep 61 5 x3.1.length [.flat, .flat, .flat, .flat, (.sl 2 1 [.flat])] (x3.1.map eOp))]⟩ ?_
  refine SRun.nil ?_
  refine nx_n ?_
  refine swp_seq ?_
  refine swp_regP ⟨229, [(5, vs x2.2.2.1), (6, vs x2.2.2.2), (7, .own 7), (8, vi x3.2), (209, vb ((x32.2 != 0) || (!(x32.1 == x11.1))))], [(7, .deep 61 5 x3.1.length [.flat, .flat, .flat, .flat, (.sl 2 1 [.flat])] (x3.1.map eOp))]⟩ ?_ ?_
  refine SRun.ck tbok 3 ⟨229, [(5, vs x2.2.2.1), (6, vs x2.2.2.2), (7, .own 7), (8, vi x3.2), (24, vb x11.1), (32, vb x32.1), (205, vb (x32.2 != 0))], [(7, .deep 61 5 x3.1.length [.flat, .flat, .flat, .flat, (.sl 2 1 [.flat])] (x3.1.map eOp))]⟩ ?_
  generalize (x32.2 != 0) = bb
  cases bb
  refine SRun.ck tbok 2 ⟨229, [(5, vs x2.2.2.1), (6, vs x2.2.2.2), (7, .own 7), (8, vi x3.2), (205, vb false), (206, vb x32.1), (207, vb x11.1)], [(7, .deep 61 5 x3.1.length [.flat, .flat, .flat, .flat, (.sl 2 1 [.flat])] (x3.1.map eOp))]⟩ ?_
  refine SRun.ls (x_lstep_eqb tbok (ti := ti4) (i := x32.1) (j := x11.1) true rfl) ?_
  refine SRun.ck tbok 1 ⟨229, [(5, vs x2.2.2.1), (6, vs x2.2.2.2), (7, .own 7), (8, vi x3.2), (209, vb (!(x32.1 == x11.1)))], [(7, .deep 61 5 x3.1.length [.flat, .flat, .flat, .flat, (.sl 2 1 [.flat])] (x3.1.map eOp))]⟩ ?_
  exact SRun.nil (Le.sub0)
  refine SRun.ck tbok 4 ⟨229, [(5, vs x2.2.2.1), (6, vs x2.2.2.2), (7, .own 7), (8, vi x3.2), (209, vb true)], [(7, .deep 61 5 x3.1.length [.flat, .flat, .flat, .flat, (.sl 2 1 [.flat])] (x3.1.map eOp))]⟩ ?_
  exact SRun.nil (Le.sub0)
  refine swp_cond (b := ((x32.2 != 0) || (!(x32.1 == x11.1)))) (by kernel_rfl) (fun hb => ?_) (fun hb => ?_)
  replace h := cond_t hb h
  refine swp_seq ?_
  refine swp_reg ?_
  refine SRun.ck tbok 1 ⟨229, [(2, vb false)], []⟩ ?_
  refine SRun.nil ?_
  refine nx_n ?_
  refine swp_ret ?_
  replace h := Option.some.inj h
  subst h
  exact q_rr (q_fr (fin1 (by kernel_rfl) (finV rfl SV.flat_of (holds_t (by kernel_rfl)))))
  replace h := cond_f hb h
  refine swp_skip ?_
  replace h := Option.some.inj h
  subst h
  exact q_l (Le.sub0)
  replace h := cond_f hb h
  refine swp_skip ?_
  replace h := Option.some.inj h
  subst h
  exact q_l (Le.sub0)
  refine swp_seq ?_
  refine swp_seq ?_
  refine swp_reg ?_
  refine SRun.ck tbok 2 ⟨229, [(5, vs x2.2.2.1), (6, vs x2.2.2.2), (7, .own 7), (211, vb (x3.2 != 0))], [(7, .deep 61 5 x3.1.length [.flat, .flat, .flat, .flat, (.sl 2 1 [.flat])] (x3.1.map eOp))]⟩ ?_
  refine SRun.nil ?_
  refine nx_n ?_
  refine swp_cond (b := (x3.2 != 0)) (by kernel_rfl) (fun hb => ?_) (fun hb => ?_)
  replace h := cond_t hb h
  refine swp_seq ?_
  refine swp_reg ?_
  refine SRun.ck tbok 1 ⟨229, [(2, vb true)], []⟩ ?_
  refine SRun.nil ?_
  refine nx_n ?_
  refine swp_ret ?_
  replace h := Option.some.inj h
  subst h
  exact nx_r (q_fr (fin1 (by kernel_rfl) (finV rfl SV.flat_of (holds_t (by kernel_rfl)))))
  replace h := cond_f hb h
  refine swp_skip ?_
  refine nx_n ?_
  refine swp_seq ?_
  refine swp_reg ?_
  refine SRun.ck tbok 2 ⟨229, [(6, vs x2.2.2.2), (7, .own 7), (213, .own 7), (214, vs x2.2.2.1)], [(7, .deep 61 5 x3.1.length [.flat, .flat, .flat, .flat, (.sl 2 1 [.flat])] (x3.1.map eOp))]⟩ ?_
  obtain ⟨x33, hx33, h⟩ := bind_some h
  refine SRun.ls (x_lstep_call (f := 29) (caps := []) (xs := [.own 7, vs x2.2.2.1]) (ys := [vl eOp x3.1, vs x2.2.2.1]) (res := ⟨[.v (vs x33.1), .v (vi x33.2)], [], false⟩) (x := .tup [vs x33.1, vi x33.2]) (y := none) rfl ents29 (impl_TextOf_run x3.1 x2.2.2.1 _ hx33) rfl (by intro hc; cases hc)) ?_
  refine SRun.ck tbok 5 ⟨229, [(6, vs x2.2.2.2), (7, .own 7), (34, vs x33.1), (35, vi x33.2)], [(7, .deep 61 5 x3.1.length [.flat, .flat, .flat, .flat, (.sl 2 1 [.flat])] (x3.1.map eOp))]⟩ ?_
  refine SRun.nil ?_
  refine nx_n ?_
  refine swp_seq ?_
  refine swp_regJ h (fun j35 => ⟨229, [(2, vb j35)], []⟩) (fun v36 h => ?_) (fun j35 h => ?_)
  refine SRun.ck tbok 3 ⟨229, [(6, vs x2.2.2.2), (7, .own 7), (34, vs x33.1), (220, vb (x33.2 == 0))], [(7, .deep 61 5 x3.1.length [.flat, .flat, .flat, .flat, (.sl 2 1 [.flat])] (x3.1.map eOp))]⟩ ?_
  refine SRun.cut [(220, fun b => b)] (b := (x33.2 == 0)) (by kernel_rfl) (fun hb => ?_) (fun hb => ?_)
  replace h := cond_t hb h
  refine SRun.ck tbok 5 ⟨229, [(7, .own 7), (225, vb (x33.1.toList == x2.2.2.2.toList))], [(7, .deep 61 5 x3.1.length [.flat, .flat, .flat, .flat, (.sl 2 1 [.flat])] (x3.1.map eOp))]⟩ ?_
  refine SRun.cut [(225, fun b => b)] (b := (x33.1.toList == x2.2.2.2.toList)) (by kernel_rfl) (fun hb => ?_) (fun hb => ?_)
  replace h := cond_t hb h
  refine SRun.ck tbok 1 ⟨229, [(225, vb true), (226, .own 7)], [(7, .deep 61 5 x3.1.length [.flat, .flat, .flat, .flat, (.sl 2 1 [.flat])] (x3.1.map eOp))]⟩ ?_
  obtain ⟨x34, hx34, h⟩ := bind_some h
  refine SRun.ls (x_lstep_call (f := 15) (caps := []) (xs := [.own 7]) (ys := [vl eOp x3.1]) (res := ⟨[.v (vb x34)], [], false⟩) (x := vb x34) (y := none) rfl ents15 (impl_IsLog_run x3.1 _ hx34) rfl (by intro hc; cases hc)) ?_
  refine SRun.ck tbok 2 ⟨229, [(2, vb x34)], []⟩ ?_
  refine SRun.nil ?_
  replace h := Option.some.inj h
  subst h
  exact Le.sub0
  replace h := cond_f hb h
  refine SRun.ck tbok 4 ⟨229, [(2, vb false)], []⟩ ?_
  refine SRun.nil ?_
  replace h := Option.some.inj h
  subst h
  exact Le.sub0
  replace h := cond_f hb h
  refine SRun.ck tbok 9 ⟨229, [(2, vb false)], []⟩ ?_
  refine SRun.nil ?_
  replace h := Option.some.inj h
  subst h
  exact Le.sub0
  refine swp_ret ?_
  replace h := Option.some.inj h
  subst h
  exact q_fr (fin1 (by kernel_rfl) (finV rfl SV.flat_of (holds_t (by kernel_rfl))))
theorem ents11 : Ents Tryd.prog 11 := ents_of Tryd.func11 (by kernel_rfl) rfl
end Go.Proofs.YthfcdicfcepfhaaDoor.Sh
