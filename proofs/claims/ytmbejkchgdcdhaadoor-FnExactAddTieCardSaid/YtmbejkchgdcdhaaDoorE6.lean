/- Typed functions and the calls that do what they say. -/
import Derived.Test.YtmbejkchgdcdhaaDoorSB
import Derived.Test.YtmbejkchgdcdhaaDoorKA
import Derived.Test.YtmbejkchgdcdhaaDoorKR
import Derived.Test.YtmbejkchgdcdhaaDoorH1
import Derived.Test.YtmbejkchgdcdhaaDoorGA
import Derived.Test.YtmbejkchgdcdhaaDoorGB
namespace Go.Proofs.YtmbejkchgdcdhaaDoor.Sh
open Go.RowKit

def tblE6 : Tb := [(2, ti2), (4, ti4), (9, ti9), (22, ti22), (39, ti39)]
theorem tbokE6 : TbOk Tryd.prog tblE6 := TbOk.cons ⟨by kernel_rfl, show Tryd.prog.underlying 2 = some (.int .i64) from by kernel_rfl⟩ (TbOk.cons ⟨by kernel_rfl, show Tryd.prog.underlying 4 = some (.bool) from by kernel_rfl⟩ (TbOk.cons ⟨by kernel_rfl, show Tryd.prog.underlying 9 = some (.string) from by kernel_rfl⟩ (TbOk.cons ⟨by kernel_rfl, show Tryd.prog.underlying 22 = some (.slice 39) from by kernel_rfl⟩ (TbOk.cons ⟨by kernel_rfl, show structOf Tryd.prog 39 = some [(0, 2), (1, 2), (2, 4), (3, 9)] from by kernel_rfl⟩ (TbOk.nil _)))))
noncomputable def laws_FnExactAddTie (aAN : Int) (aAList : (List Tie)) (aAT : Tie) : Option (Bool) :=
  ((laws_szTieS aAList 1048576).bind fun x1 => (bif (decide (x1 < 0)) then some true else ((laws_szTie aAT x1).bind fun x2 => (bif (decide (x2 < 0)) then some true else ((laws_toTieS aAList).bind fun x3 => ((laws_toTie aAT).bind fun x4 => ((spec_AddTie aAN x3 x4).bind fun x5 => ((laws_toTieS aAList).bind fun x6 => ((laws_toTie aAT).bind fun x7 => ((impl_AddTie aAN x6 x7).bind fun x8 => ((((laws_eqTieS x8.1 x5.1).bind fun x9 => (bif (!x9) then some true else some (x8.2 != x5.2)))).bind fun (j10 : Bool) => (bif j10 then some false else ((laws_toTieS aAList).bind fun x12 => ((laws_eqTieS x6 x12).bind fun x13 => (bif (!x13) then some false else ((laws_markTieS x6 1).bind fun x14 => (((bif (decide (x14.1 < 0)) then some true else ((laws_eqTieS x8.1 x5.1).bind fun x15 => (bif (!x15) then some true else some (x8.2 != x5.2))))).bind fun (j16 : Bool) => (bif j16 then some false else ((laws_markTieS x8.1 1).bind fun x18 => ((laws_heldTieS x18.2 1).bind fun x19 => (bif (decide (x19 < 0)) then some false else (bif (x19 != x18.1) then some false else ((laws_toTieS aAList).bind fun x20 => ((laws_toTie aAT).bind fun x21 => ((impl_AddTie aAN x20 x21).bind fun x22 => ((((laws_eqTieS x22.1 x5.1).bind fun x23 => (bif (!x23) then some true else some (x22.2 != x5.2)))).bind fun (j24 : Bool) => (bif j24 then some false else ((laws_heldTieS x18.2 1).bind fun x26 => (bif (decide (x26 < 0)) then some false else (bif (x26 != x18.1) then some false else some true))))))))))))))))))))))))))))))
set_option maxRecDepth 100000 in
set_option maxHeartbeats 4000000 in
theorem laws_FnExactAddTie_run (aAN : Int) (aAList : (List Tie)) (aAT : Tie) (r : Bool) (h : laws_FnExactAddTie aAN aAList aAT = some r) : SCall Tryd.prog 8 [.v (vi aAN), .v (vl eTie aAList), .v (.agg [vi aAT.A, vi aAT.B, vb aAT.Same, vs aAT.Reason])] ⟨[.v (vb r)], [], false⟩ := by
  refine scall_in Tryd.func8 rfl [(.tmp 6)] rfl (fun r => ⟨[.v (vb r)], [], false⟩) (r := r) ?_
  unfold laws_FnExactAddTie at h
  refine swp_seq ?_
  refine swp_reg ?_
  refine SRun.ck tbokE6 2 ⟨114, [(0, vi aAN), (1, vl eTie aAList), (5, .ref 5 0)], [(5, .box [vi aAT.A, vi aAT.B, vb aAT.Same, vs aAT.Reason])]⟩ ?_
  refine SRun.nil ?_
  refine nx_n ?_
  refine swp_seq ?_
  refine swp_reg ?_
  refine SRun.ck tbokE6 1 ⟨114, [(0, vi aAN), (1, vl eTie aAList), (5, .ref 5 0), (7, vi 1048576)], [(5, .box [vi aAT.A, vi aAT.B, vb aAT.Same, vs aAT.Reason])]⟩ ?_
  refine SRun.nil ?_
  refine nx_n ?_
  refine swp_seq ?_
  refine swp_reg ?_
  refine SRun.ck tbokE6 2 ⟨114, [(0, vi aAN), (1, vl eTie aAList), (5, .ref 5 0), (18, vl eTie aAList), (19, vi 1048576)], [(5, .box [vi aAT.A, vi aAT.B, vb aAT.Same, vs aAT.Reason])]⟩ ?_
  obtain ⟨x1, hx1, h⟩ := bind_some h
  refine SRun.ls (x_lstep_call (f := 14) (caps := []) (xs := [vl eTie aAList, vi 1048576]) (ys := [vl eTie aAList, vi 1048576]) (res := ⟨[.v (vi x1)], [], false⟩) (x := vi x1) (y := none) rfl ents14 (laws_szTieS_run aAList 1048576 _ hx1) rfl (by intro hc; cases hc)) ?_
  refine SRun.ck tbokE6 1 ⟨114, [(0, vi aAN), (1, vl eTie aAList), (5, .ref 5 0), (7, vi x1)], [(5, .box [vi aAT.A, vi aAT.B, vb aAT.Same, vs aAT.Reason])]⟩ ?_
  refine SRun.nil ?_
  refine nx_n ?_
  refine swp_seq ?_
  refine swp_seq ?_
  refine swp_reg ?_
  refine SRun.ck tbokE6 2 ⟨114, [(0, vi aAN), (1, vl eTie aAList), (5, .ref 5 0), (7, vi x1), (22, vb (decide (x1 < 0)))], [(5, .box [vi aAT.A, vi aAT.B, vb aAT.Same, vs aAT.Reason])]⟩ ?_
  refine SRun.nil ?_
  refine nx_n ?_
  refine swp_cond (b := (decide (x1 < 0))) (by kernel_rfl) (fun hb => ?_) (fun hb => ?_)
  replace h := cond_t hb h
  refine swp_seq ?_
  refine swp_reg ?_
  refine SRun.ck tbokE6 1 ⟨114, [(6, vb true)], []⟩ ?_
  refine SRun.nil ?_
  refine nx_n ?_
  refine swp_ret ?_
  replace h := Option.some.inj h
  subst h
  exact nx_r (q_fr (fin1 (by kernel_rfl) (finV rfl (by simp [SV.Flat, SV.Flat.FlatL, Tr.flat]) (holds_t (by kernel_rfl)))))
  replace h := cond_f hb h
  refine swp_skip ?_
  refine nx_n ?_
  refine swp_seq ?_
  refine swp_reg ?_
  refine SRun.ck tbokE6 2 ⟨114, [(0, vi aAN), (1, vl eTie aAList), (5, .ref 5 0), (23, .agg [vi aAT.A, vi aAT.B, vb aAT.Same, vs aAT.Reason]), (24, vi x1)], [(5, .box [vi aAT.A, vi aAT.B, vb aAT.Same, vs aAT.Reason])]⟩ ?_
  obtain ⟨x2, hx2, h⟩ := bind_some h
  refine SRun.ls (x_lstep_call (f := 29) (caps := []) (xs := [.agg [vi aAT.A, vi aAT.B, vb aAT.Same, vs aAT.Reason], vi x1]) (ys := [.agg [vi aAT.A, vi aAT.B, vb aAT.Same, vs aAT.Reason], vi x1]) (res := ⟨[.v (vi x2)], [], false⟩) (x := vi x2) (y := none) rfl ents29 (laws_szTie_run aAT x1 _ hx2) rfl (by intro hc; cases hc)) ?_
  refine SRun.ck tbokE6 1 ⟨114, [(0, vi aAN), (1, vl eTie aAList), (5, .ref 5 0), (7, vi x2)], [(5, .box [vi aAT.A, vi aAT.B, vb aAT.Same, vs aAT.Reason])]⟩ ?_
  refine SRun.nil ?_
  refine nx_n ?_
  refine swp_seq ?_
  refine swp_seq ?_
  refine swp_reg ?_
  refine SRun.ck tbokE6 2 ⟨114, [(0, vi aAN), (1, vl eTie aAList), (5, .ref 5 0), (27, vb (decide (x2 < 0)))], [(5, .box [vi aAT.A, vi aAT.B, vb aAT.Same, vs aAT.Reason])]⟩ ?_
  refine SRun.nil ?_
  refine nx_n ?_
  refine swp_cond (b := (decide (x2 < 0))) (by kernel_rfl) (fun hb => ?_) (fun hb => ?_)
  replace h := cond_t hb h
  refine swp_seq ?_
  refine swp_reg ?_
  refine SRun.ck tbokE6 1 ⟨114, [(6, vb true)], []⟩ ?_
  refine SRun.nil ?_
  refine nx_n ?_
  refine swp_ret ?_
  replace h := Option.some.inj h
  subst h
  exact nx_r (q_fr (fin1 (by kernel_rfl) (finV rfl (by simp [SV.Flat, SV.Flat.FlatL, Tr.flat]) (holds_t (by kernel_rfl)))))
  replace h := cond_f hb h
  refine swp_skip ?_
  refine nx_n ?_
  refine swp_seq ?_
  obtain ⟨x3, hx3, h⟩ := bind_some h
  obtain ⟨x4, hx4, h⟩ := bind_some h
  obtain ⟨x5, hx5, h⟩ := bind_some h
  refine swp_dr mixed ?_
  refine DGo.enum (σE := ⟨114, [(0, vi aAN), (1, vl eTie aAList), (5, .ref 5 0), (8, .own 34), (9, vi x5.2)], [(5, .box [vi aAT.A, vi aAT.B, vb aAT.Same, vs aAT.Reason]), (34, .arr 42 4 x5.1.length (x5.1.map eTie))]⟩) (n := 11) (L0 := #[false, false, false, false, false, false, false, false, false, false, false]) (by kernel_rfl) (by kernel_rfl) (fun K hk => ?_) ?_
  refine DE.share (fuel := 0) (L := #[true, true, true, true, true, true, true, true, true, true, true]) (σ := ⟨114, [(0, vi aAN), (1, vl eTie aAList), (5, .ref 5 0), (8, .own 34), (9, vi x5.2)], [(5, .box [vi aAT.A, vi aAT.B, vb aAT.Same, vs aAT.Reason]), (34, .arr 42 4 x5.1.length (x5.1.map eTie))]⟩) ?_ (fun d14 => ?_)
  exact DE.done (by kernel_rfl) hk
  refine DE.share (fuel := 1) (L := #[true, true, true, true, true, true, true, true, true, true, false]) (σ := ⟨114, [(0, vi aAN), (1, vl eTie aAList), (5, .ref 5 0), (8, .own 34), (36, vi x5.2)], [(5, .box [vi aAT.A, vi aAT.B, vb aAT.Same, vs aAT.Reason]), (34, .arr 42 4 x5.1.length (x5.1.map eTie))]⟩) ?_ (fun d13 => ?_)
  exact DE.take (i := 10) (L' := #[true, true, true, true, true, true, true, true, true, true, true]) rfl (.inr rfl) rfl (by kernel_rfl) (by kernel_rfl) (by kernel_rfl) (EStep.le (EStep.ofN2 tbokE6 (σ' := ⟨114, [(9, vi x5.2), (0, vi aAN), (1, vl eTie aAList), (5, .ref 5 0), (8, .own 34), (36, vi x5.2)], [(5, .box [vi aAT.A, vi aAT.B, vb aAT.Same, vs aAT.Reason]), (34, .arr 42 4 x5.1.length (x5.1.map eTie))]⟩) (by kernel_rfl)) Le.sub0) (by kernel_rfl) d14
  refine DE.share (fuel := 2) (L := #[true, true, true, true, true, true, true, true, true, false, false]) (σ := ⟨114, [(0, vi aAN), (1, vl eTie aAList), (5, .ref 5 0), (35, .own 34), (36, vi x5.2)], [(5, .box [vi aAT.A, vi aAT.B, vb aAT.Same, vs aAT.Reason]), (34, .arr 42 4 x5.1.length (x5.1.map eTie))]⟩) ?_ (fun d12 => ?_)
  exact DE.take (i := 9) (L' := #[true, true, true, true, true, true, true, true, true, true, false]) rfl (.inr rfl) rfl (by kernel_rfl) (by kernel_rfl) (by kernel_rfl) (EStep.le (EStep.ofN2 tbokE6 (σ' := ⟨114, [(8, .own 34), (0, vi aAN), (1, vl eTie aAList), (5, .ref 5 0), (35, .own 34), (36, vi x5.2)], [(5, .box [vi aAT.A, vi aAT.B, vb aAT.Same, vs aAT.Reason]), (34, .arr 42 4 x5.1.length (x5.1.map eTie))]⟩) (by kernel_rfl)) Le.sub0) (by kernel_rfl) d13
  refine DE.share (fuel := 2) (L := #[true, true, true, true, true, true, true, true, false, true, false]) (σ := ⟨114, [(0, vi aAN), (1, vl eTie aAList), (5, .ref 5 0), (8, .own 34), (28, .tup [.own 34, vi x5.2])], [(5, .box [vi aAT.A, vi aAT.B, vb aAT.Same, vs aAT.Reason]), (34, .arr 42 4 x5.1.length (x5.1.map eTie))]⟩) ?_ (fun d11 => ?_)
  exact DE.all [8] (by kernel_rfl) (by simp) (List.forall_mem_cons.2 ⟨DEs.mk (i := 8) (L' := #[true, true, true, true, true, true, true, true, true, true, false]) rfl (EStep.le (EStep.ofN2 tbokE6 (σ' := ⟨114, [(36, vi x5.2), (0, vi aAN), (1, vl eTie aAList), (5, .ref 5 0), (8, .own 34), (28, .tup [.own 34, vi x5.2])], [(5, .box [vi aAT.A, vi aAT.B, vb aAT.Same, vs aAT.Reason]), (34, .arr 42 4 x5.1.length (x5.1.map eTie))]⟩) (by kernel_rfl)) Le.sub0) (by kernel_rfl) d13, (fun _ h => absurd h List.not_mem_nil)⟩)
  refine DE.share (fuel := 3) (L := #[true, true, true, true, true, true, true, false, true, false, false]) (σ := ⟨114, [(0, vi aAN), (1, vl eTie aAList), (5, .ref 5 0), (28, .tup [.own 34, vi x5.2]), (36, vi x5.2)], [(5, .box [vi aAT.A, vi aAT.B, vb aAT.Same, vs aAT.Reason]), (34, .arr 42 4 x5.1.length (x5.1.map eTie))]⟩) ?_ (fun d10 => ?_)
  exact DE.all [7] (by kernel_rfl) (by simp) (List.forall_mem_cons.2 ⟨DEs.mk (i := 7) (L' := #[true, true, true, true, true, true, true, true, true, false, false]) rfl (EStep.le (EStep.ofN2 tbokE6 (σ' := ⟨114, [(35, .own 34), (0, vi aAN), (1, vl eTie aAList), (5, .ref 5 0), (28, .tup [.own 34, vi x5.2]), (36, vi x5.2)], [(5, .box [vi aAT.A, vi aAT.B, vb aAT.Same, vs aAT.Reason]), (34, .arr 42 4 x5.1.length (x5.1.map eTie))]⟩) (by kernel_rfl)) Le.sub0) (by kernel_rfl) d12, (fun _ h => absurd h List.not_mem_nil)⟩)
  refine DE.share (fuel := 3) (L := #[true, true, true, true, true, true, true, true, false, false, false]) (σ := ⟨114, [(0, vi aAN), (1, vl eTie aAList), (5, .ref 5 0), (28, .tup [.own 34, vi x5.2]), (35, .own 34)], [(5, .box [vi aAT.A, vi aAT.B, vb aAT.Same, vs aAT.Reason]), (34, .arr 42 4 x5.1.length (x5.1.map eTie))]⟩) ?_ (fun d9 => ?_)
  exact DE.take (i := 9) (L' := #[true, true, true, true, true, true, true, true, false, true, false]) rfl (.inr rfl) rfl (by kernel_rfl) (by kernel_rfl) (by kernel_rfl) (EStep.le (EStep.ofN2 tbokE6 (σ' := ⟨114, [(8, .own 34), (0, vi aAN), (1, vl eTie aAList), (5, .ref 5 0), (28, .tup [.own 34, vi x5.2]), (35, .own 34)], [(5, .box [vi aAT.A, vi aAT.B, vb aAT.Same, vs aAT.Reason]), (34, .arr 42 4 x5.1.length (x5.1.map eTie))]⟩) (by kernel_rfl)) Le.sub0) (by kernel_rfl) d11
  refine DE.share (fuel := 4) (L := #[true, true, true, true, true, true, true, false, false, false, false]) (σ := ⟨114, [(0, vi aAN), (1, vl eTie aAList), (5, .ref 5 0), (28, .tup [.own 34, vi x5.2])], [(5, .box [vi aAT.A, vi aAT.B, vb aAT.Same, vs aAT.Reason]), (34, .arr 42 4 x5.1.length (x5.1.map eTie))]⟩) ?_ (fun d8 => ?_)
  exact DE.all [7, 8] (by kernel_rfl) (by simp) (List.forall_mem_cons.2 ⟨DEs.mk (i := 7) (L' := #[true, true, true, true, true, true, true, true, false, false, false]) rfl (EStep.le (EStep.ofN2 tbokE6 (σ' := ⟨114, [(35, .own 34), (0, vi aAN), (1, vl eTie aAList), (5, .ref 5 0), (28, .tup [.own 34, vi x5.2])], [(5, .box [vi aAT.A, vi aAT.B, vb aAT.Same, vs aAT.Reason]), (34, .arr 42 4 x5.1.length (x5.1.map eTie))]⟩) (by kernel_rfl)) Le.sub0) (by kernel_rfl) d9, (List.forall_mem_cons.2 ⟨DEs.mk (i := 8) (L' := #[true, true, true, true, true, true, true, false, true, false, false]) rfl (EStep.le (EStep.ofN2 tbokE6 (σ' := ⟨114, [(36, vi x5.2), (0, vi aAN), (1, vl eTie aAList), (5, .ref 5 0), (28, .tup [.own 34, vi x5.2])], [(5, .box [vi aAT.A, vi aAT.B, vb aAT.Same, vs aAT.Reason]), (34, .arr 42 4 x5.1.length (x5.1.map eTie))]⟩) (by kernel_rfl)) Le.sub0) (by kernel_rfl) d10, (fun _ h => absurd h List.not_mem_nil)⟩)⟩)
  refine DE.share (fuel := 5) (L := #[true, true, true, true, true, true, false, false, false, false, false]) (σ := ⟨114, [(0, vi aAN), (1, vl eTie aAList), (5, .ref 5 0), (34, .tup [.own 34, vi x5.2])], [(5, .box [vi aAT.A, vi aAT.B, vb aAT.Same, vs aAT.Reason]), (34, .arr 42 4 x5.1.length (x5.1.map eTie))]⟩) ?_ (fun d7 => ?_)
  exact DE.take (i := 6) (L' := #[true, true, true, true, true, true, true, false, false, false, false]) rfl (.inl rfl) rfl (by kernel_rfl) (by kernel_rfl) (by kernel_rfl) (EStep.le (EStep.ofN2 tbokE6 (σ' := ⟨114, [(28, .tup [.own 34, vi x5.2]), (0, vi aAN), (1, vl eTie aAList), (5, .ref 5 0), (34, .tup [.own 34, vi x5.2])], [(5, .box [vi aAT.A, vi aAT.B, vb aAT.Same, vs aAT.Reason]), (34, .arr 42 4 x5.1.length (x5.1.map eTie))]⟩) (by kernel_rfl)) Le.sub0) (by kernel_rfl) d8
  refine DE.share (fuel := 6) (L := #[true, true, true, true, true, false, false, false, false, false, false]) (σ := ⟨114, [(0, vi aAN), (1, vl eTie aAList), (5, .ref 5 0), (29, vi aAN), (31, .own 31), (33, .agg [vi x4.A, vi x4.B, vb x4.Same, vs x4.Reason])], [(5, .box [vi aAT.A, vi aAT.B, vb aAT.Same, vs aAT.Reason]), (31, .arr 42 4 x3.length (x3.map eTie))]⟩) ?_ (fun d6 => ?_)
  exact DE.all [5] (by kernel_rfl) (by simp) (List.forall_mem_cons.2 ⟨DEs.mk (i := 5) (L' := #[true, true, true, true, true, true, false, false, false, false, false]) rfl (EStep.le (EStep.ofL (x_lstep_call (f := 30) (caps := []) (xs := [vi aAN, .own 31, .agg [vi x4.A, vi x4.B, vb x4.Same, vs x4.Reason]]) (ys := [vi aAN, vl eTie x3, .agg [vi x4.A, vi x4.B, vb x4.Same, vs x4.Reason]]) (res := ⟨[.own 42 4 x5.1.length (x5.1.map eTie), .v (vi x5.2)], [], false⟩) (x := .tup [.own 34, vi x5.2]) (y := some (.arr 42 4 x5.1.length (x5.1.map eTie))) rfl ents30 (spec_AddTie_run aAN x3 x4 _ hx5) rfl (by intro hc; cases hc)) (by kernel_rfl)) Le.sub0) (by kernel_rfl) d7, (fun _ h => absurd h List.not_mem_nil)⟩)
  refine DE.share (fuel := 7) (L := #[true, true, true, true, false, false, false, false, false, false, false]) (σ := ⟨114, [(0, vi aAN), (1, vl eTie aAList), (5, .ref 5 0), (29, vi aAN), (31, .own 31), (32, .agg [vi aAT.A, vi aAT.B, vb aAT.Same, vs aAT.Reason])], [(5, .box [vi aAT.A, vi aAT.B, vb aAT.Same, vs aAT.Reason]), (31, .arr 42 4 x3.length (x3.map eTie))]⟩) ?_ (fun d5 => ?_)
  exact DE.all [4] (by kernel_rfl) (by simp) (List.forall_mem_cons.2 ⟨DEs.mk (i := 4) (L' := #[true, true, true, true, true, false, false, false, false, false, false]) rfl (EStep.le (EStep.ofL (x_lstep_call (f := 31) (caps := []) (xs := [.agg [vi aAT.A, vi aAT.B, vb aAT.Same, vs aAT.Reason]]) (ys := [.agg [vi aAT.A, vi aAT.B, vb aAT.Same, vs aAT.Reason]]) (res := ⟨[.v (.agg [vi x4.A, vi x4.B, vb x4.Same, vs x4.Reason])], [], false⟩) (x := .agg [vi x4.A, vi x4.B, vb x4.Same, vs x4.Reason]) (y := none) rfl ents31 (laws_toTie_run aAT _ hx4) rfl (by intro hc; cases hc)) (by kernel_rfl)) Le.sub0) (by kernel_rfl) d6, (fun _ h => absurd h List.not_mem_nil)⟩)
  refine DE.share (fuel := 8) (L := #[true, true, false, true, false, false, false, false, false, false, false]) (σ := ⟨114, [(0, vi aAN), (1, vl eTie aAList), (5, .ref 5 0), (29, vi aAN), (30, vl eTie aAList), (32, .agg [vi aAT.A, vi aAT.B, vb aAT.Same, vs aAT.Reason])], [(5, .box [vi aAT.A, vi aAT.B, vb aAT.Same, vs aAT.Reason])]⟩) ?_ (fun d4 => ?_)
  exact DE.all [2] (by kernel_rfl) (by simp) (List.forall_mem_cons.2 ⟨DEs.mk (i := 2) (L' := #[true, true, true, true, false, false, false, false, false, false, false]) rfl (EStep.le (EStep.ofL (x_lstep_call (f := 16) (caps := []) (xs := [vl eTie aAList]) (ys := [vl eTie aAList]) (res := ⟨[.own 42 4 x3.length (x3.map eTie)], [], false⟩) (x := .own 31) (y := some (.arr 42 4 x3.length (x3.map eTie))) rfl ents16 (laws_toTieS_run aAList _ hx3) rfl (by intro hc; cases hc)) (by kernel_rfl)) Le.sub0) (by kernel_rfl) d5, (fun _ h => absurd h List.not_mem_nil)⟩)
  refine DE.share (fuel := 8) (L := #[true, true, true, false, false, false, false, false, false, false, false]) (σ := ⟨114, [(0, vi aAN), (1, vl eTie aAList), (5, .ref 5 0), (29, vi aAN), (31, .own 31)], [(5, .box [vi aAT.A, vi aAT.B, vb aAT.Same, vs aAT.Reason]), (31, .arr 42 4 x3.length (x3.map eTie))]⟩) ?_ (fun d3 => ?_)
  exact DE.all [3] (by kernel_rfl) (by simp) (List.forall_mem_cons.2 ⟨DEs.mk (i := 3) (L' := #[true, true, true, true, false, false, false, false, false, false, false]) rfl (EStep.le (EStep.ofN2 tbokE6 (σ' := ⟨114, [(32, .agg [vi aAT.A, vi aAT.B, vb aAT.Same, vs aAT.Reason]), (0, vi aAN), (1, vl eTie aAList), (5, .ref 5 0), (29, vi aAN), (31, .own 31)], [(5, .box [vi aAT.A, vi aAT.B, vb aAT.Same, vs aAT.Reason]), (31, .arr 42 4 x3.length (x3.map eTie))]⟩) (by kernel_rfl)) Le.sub0) (by kernel_rfl) d5, (fun _ h => absurd h List.not_mem_nil)⟩)
  refine DE.share (fuel := 9) (L := #[true, true, false, false, false, false, false, false, false, false, false]) (σ := ⟨114, [(0, vi aAN), (1, vl eTie aAList), (5, .ref 5 0), (29, vi aAN), (30, vl eTie aAList)], [(5, .box [vi aAT.A, vi aAT.B, vb aAT.Same, vs aAT.Reason])]⟩) ?_ (fun d2 => ?_)
  exact DE.all [2, 3] (by kernel_rfl) (by simp) (List.forall_mem_cons.2 ⟨DEs.mk (i := 2) (L' := #[true, true, true, false, false, false, false, false, false, false, false]) rfl (EStep.le (EStep.ofL (x_lstep_call (f := 16) (caps := []) (xs := [vl eTie aAList]) (ys := [vl eTie aAList]) (res := ⟨[.own 42 4 x3.length (x3.map eTie)], [], false⟩) (x := .own 31) (y := some (.arr 42 4 x3.length (x3.map eTie))) rfl ents16 (laws_toTieS_run aAList _ hx3) rfl (by intro hc; cases hc)) (by kernel_rfl)) Le.sub0) (by kernel_rfl) d3, (List.forall_mem_cons.2 ⟨DEs.mk (i := 3) (L' := #[true, true, false, true, false, false, false, false, false, false, false]) rfl (EStep.le (EStep.ofN2 tbokE6 (σ' := ⟨114, [(32, .agg [vi aAT.A, vi aAT.B, vb aAT.Same, vs aAT.Reason]), (0, vi aAN), (1, vl eTie aAList), (5, .ref 5 0), (29, vi aAN), (30, vl eTie aAList)], [(5, .box [vi aAT.A, vi aAT.B, vb aAT.Same, vs aAT.Reason])]⟩) (by kernel_rfl)) Le.sub0) (by kernel_rfl) d4, (fun _ h => absurd h List.not_mem_nil)⟩)⟩)
  refine DE.share (fuel := 10) (L := #[true, false, false, false, false, false, false, false, false, false, false]) (σ := ⟨114, [(0, vi aAN), (1, vl eTie aAList), (5, .ref 5 0), (29, vi aAN)], [(5, .box [vi aAT.A, vi aAT.B, vb aAT.Same, vs aAT.Reason])]⟩) ?_ (fun d1 => ?_)
  exact DE.take (i := 1) (L' := #[true, true, false, false, false, false, false, false, false, false, false]) rfl (.inl rfl) rfl (by kernel_rfl) (by kernel_rfl) (by kernel_rfl) (EStep.le (EStep.ofN2 tbokE6 (σ' := ⟨114, [(30, vl eTie aAList), (0, vi aAN), (1, vl eTie aAList), (5, .ref 5 0), (29, vi aAN)], [(5, .box [vi aAT.A, vi aAT.B, vb aAT.Same, vs aAT.Reason])]⟩) (by kernel_rfl)) Le.sub0) (by kernel_rfl) d2
  exact DE.take (i := 0) (L' := #[true, false, false, false, false, false, false, false, false, false, false]) rfl (.inl rfl) rfl (by kernel_rfl) (by kernel_rfl) (by kernel_rfl) (EStep.le (EStep.ofN2 tbokE6 (σ' := ⟨114, [(29, vi aAN), (0, vi aAN), (1, vl eTie aAList), (5, .ref 5 0), (27, vb (decide (x2 < 0)))], [(5, .box [vi aAT.A, vi aAT.B, vb aAT.Same, vs aAT.Reason])]⟩) (by kernel_rfl)) Le.sub0) (by kernel_rfl) d1
  refine nx_n ?_
  refine swp_seq ?_
  refine swp_reg ?_
  refine SRun.ck tbokE6 1 ⟨114, [(0, vi aAN), (1, vl eTie aAList), (5, .ref 5 0), (8, .own 34), (9, vi x5.2), (37, vl eTie aAList)], [(5, .box [vi aAT.A, vi aAT.B, vb aAT.Same, vs aAT.Reason]), (34, .arr 42 4 x5.1.length (x5.1.map eTie))]⟩ ?_
  obtain ⟨x6, hx6, h⟩ := bind_some h
  refine SRun.ls (x_lstep_call (f := 16) (caps := []) (xs := [vl eTie aAList]) (ys := [vl eTie aAList]) (res := ⟨[.own 42 4 x6.length (x6.map eTie)], [], false⟩) (x := .own 38) (y := some (.arr 42 4 x6.length (x6.map eTie))) rfl ents16 (laws_toTieS_run aAList _ hx6) rfl (by intro hc; cases hc)) ?_
  refine SRun.ck tbokE6 1 ⟨114, [(0, vi aAN), (1, vl eTie aAList), (5, .ref 5 0), (8, .own 34), (9, vi x5.2), (10, .own 38)], [(5, .box [vi aAT.A, vi aAT.B, vb aAT.Same, vs aAT.Reason]), (34, .arr 42 4 x5.1.length (x5.1.map eTie)), (38, .arr 42 4 x6.length (x6.map eTie))]⟩ ?_
  refine SRun.nil ?_
  refine nx_n ?_
  refine swp_seq ?_
  refine swp_reg ?_
  refine SRun.ck tbokE6 3 ⟨114, [(0, vi aAN), (1, vl eTie aAList), (5, .ref 5 0), (8, .own 34), (9, vi x5.2), (10, .own 38), (40, vi aAN), (41, .own 38), (42, .agg [vi aAT.A, vi aAT.B, vb aAT.Same, vs aAT.Reason])], [(5, .box [vi aAT.A, vi aAT.B, vb aAT.Same, vs aAT.Reason]), (34, .arr 42 4 x5.1.length (x5.1.map eTie)), (38, .arr 42 4 x6.length (x6.map eTie))]⟩ ?_
  obtain ⟨x7, hx7, h⟩ := bind_some h
  refine SRun.ls (x_lstep_call (f := 31) (caps := []) (xs := [.agg [vi aAT.A, vi aAT.B, vb aAT.Same, vs aAT.Reason]]) (ys := [.agg [vi aAT.A, vi aAT.B, vb aAT.Same, vs aAT.Reason]]) (res := ⟨[.v (.agg [vi x7.A, vi x7.B, vb x7.Same, vs x7.Reason])], [], false⟩) (x := .agg [vi x7.A, vi x7.B, vb x7.Same, vs x7.Reason]) (y := none) rfl ents31 (laws_toTie_run aAT _ hx7) rfl (by intro hc; cases hc)) ?_
  obtain ⟨x8, hx8, h⟩ := bind_some h
  refine SRun.ls (x_lstep_call (f := 32) (caps := []) (xs := [vi aAN, .own 38, .agg [vi x7.A, vi x7.B, vb x7.Same, vs x7.Reason]]) (ys := [vi aAN, vl eTie x6, .agg [vi x7.A, vi x7.B, vb x7.Same, vs x7.Reason]]) (res := ⟨[.own 42 4 x8.1.length (x8.1.map eTie), .v (vi x8.2)], [], false⟩) (x := .tup [.own 44, vi x8.2]) (y := some (.arr 42 4 x8.1.length (x8.1.map eTie))) rfl ents32 (impl_AddTie_run aAN x6 x7 _ hx8) rfl (by intro hc; cases hc)) ?_
  refine SRun.ck tbokE6 5 ⟨114, [(0, vi aAN), (1, vl eTie aAList), (5, .ref 5 0), (8, .own 34), (9, vi x5.2), (10, .own 38), (11, .own 44), (12, vi x8.2)], [(5, .box [vi aAT.A, vi aAT.B, vb aAT.Same, vs aAT.Reason]), (34, .arr 42 4 x5.1.length (x5.1.map eTie)), (38, .arr 42 4 x6.length (x6.map eTie)), (44, .arr 42 4 x8.1.length (x8.1.map eTie))]⟩ ?_
  refine SRun.nil ?_
  refine nx_n ?_
  refine swp_seq ?_
  refine swp_seq ?_
  refine swp_regJ h (fun j10 => ⟨114, [(0, vi aAN), (1, vl eTie aAList), (5, .ref 5 0), (8, .own 8), (9, vi x5.2), (10, .own 10), (11, .own 11), (12, vi x8.2), (55, vb j10)], [(5, .box [vi aAT.A, vi aAT.B, vb aAT.Same, vs aAT.Reason]), (8, .arr 42 4 x5.1.length (x5.1.map eTie)), (10, .arr 42 4 x6.length (x6.map eTie)), (11, .arr 42 4 x8.1.length (x8.1.map eTie))]⟩) (fun v11 h => ?_) (fun j10 h => ?_)
  refine SRun.ck tbokE6 2 ⟨114, [(0, vi aAN), (1, vl eTie aAList), (5, .ref 5 0), (8, .own 34), (9, vi x5.2), (10, .own 38), (11, .own 44), (12, vi x8.2), (47, .own 44), (48, .own 34)], [(5, .box [vi aAT.A, vi aAT.B, vb aAT.Same, vs aAT.Reason]), (34, .arr 42 4 x5.1.length (x5.1.map eTie)), (38, .arr 42 4 x6.length (x6.map eTie)), (44, .arr 42 4 x8.1.length (x8.1.map eTie))]⟩ ?_
  obtain ⟨x9, hx9, h⟩ := bind_some h
  refine SRun.ls (x_lstep_call (f := 18) (caps := []) (xs := [.own 44, .own 34]) (ys := [vl eTie x8.1, vl eTie x5.1]) (res := ⟨[.v (vb x9)], [], false⟩) (x := vb x9) (y := none) rfl ents18 (laws_eqTieS_run x8.1 x5.1 _ hx9) rfl (by intro hc; cases hc)) ?_
  refine SRun.ck tbokE6 2 ⟨114, [(0, vi aAN), (1, vl eTie aAList), (5, .ref 5 0), (8, .own 34), (9, vi x5.2), (10, .own 38), (11, .own 44), (12, vi x8.2), (51, vb (!x9))], [(5, .box [vi aAT.A, vi aAT.B, vb aAT.Same, vs aAT.Reason]), (34, .arr 42 4 x5.1.length (x5.1.map eTie)), (38, .arr 42 4 x6.length (x6.map eTie)), (44, .arr 42 4 x8.1.length (x8.1.map eTie))]⟩ ?_
  refine SRun.cut [(51, fun b => b)] (b := (!x9)) (by kernel_rfl) (fun hb => ?_) (fun hb => ?_)
  replace h := cond_t hb h
  refine SRun.ck tbokE6 4 ⟨114, [(0, vi aAN), (1, vl eTie aAList), (5, .ref 5 0), (8, .own 34), (9, vi x5.2), (10, .own 38), (11, .own 44), (12, vi x8.2), (55, vb true)], [(5, .box [vi aAT.A, vi aAT.B, vb aAT.Same, vs aAT.Reason]), (34, .arr 42 4 x5.1.length (x5.1.map eTie)), (38, .arr 42 4 x6.length (x6.map eTie)), (44, .arr 42 4 x8.1.length (x8.1.map eTie))]⟩ ?_
  refine SRun.nil ?_
  replace h := Option.some.inj h
  subst h
  exact (Le.sub' ([(0, vi aAN), (1, vl eTie aAList), (5, .ref 5 0), (8, .own 34), (9, vi x5.2), (10, .own 38), (11, .own 44), (12, vi x8.2), (55, vb true)] : List (Nat × SV)) ([(5, .box [vi aAT.A, vi aAT.B, vb aAT.Same, vs aAT.Reason]), (34, .arr 42 4 x5.1.length (x5.1.map eTie)), (38, .arr 42 4 x6.length (x6.map eTie)), (44, .arr 42 4 x8.1.length (x8.1.map eTie))] : List (Nat × SO)) (by kernel_rfl) (by kernel_rfl)).trans ((Le.ren' (d := 34) (e := 8) (by kernel_rfl) (by kernel_rfl) (by kernel_rfl)).trans ((Le.ren' (d := 38) (e := 10) (by kernel_rfl) (by kernel_rfl) (by kernel_rfl)).trans ((Le.ren' (d := 44) (e := 11) (by kernel_rfl) (by kernel_rfl) (by kernel_rfl)).trans (Le.sub0))))
  replace h := cond_f hb h
  refine SRun.ck tbokE6 4 ⟨114, [(0, vi aAN), (1, vl eTie aAList), (5, .ref 5 0), (8, .own 34), (9, vi x5.2), (10, .own 38), (11, .own 44), (12, vi x8.2), (55, vb (x8.2 != x5.2))], [(5, .box [vi aAT.A, vi aAT.B, vb aAT.Same, vs aAT.Reason]), (34, .arr 42 4 x5.1.length (x5.1.map eTie)), (38, .arr 42 4 x6.length (x6.map eTie)), (44, .arr 42 4 x8.1.length (x8.1.map eTie))]⟩ ?_
  refine SRun.nil ?_
  replace h := Option.some.inj h
  subst h
  exact (Le.sub' ([(0, vi aAN), (1, vl eTie aAList), (5, .ref 5 0), (8, .own 34), (9, vi x5.2), (10, .own 38), (11, .own 44), (12, vi x8.2), (55, vb (x8.2 != x5.2))] : List (Nat × SV)) ([(5, .box [vi aAT.A, vi aAT.B, vb aAT.Same, vs aAT.Reason]), (34, .arr 42 4 x5.1.length (x5.1.map eTie)), (38, .arr 42 4 x6.length (x6.map eTie)), (44, .arr 42 4 x8.1.length (x8.1.map eTie))] : List (Nat × SO)) (by kernel_rfl) (by kernel_rfl)).trans ((Le.ren' (d := 34) (e := 8) (by kernel_rfl) (by kernel_rfl) (by kernel_rfl)).trans ((Le.ren' (d := 38) (e := 10) (by kernel_rfl) (by kernel_rfl) (by kernel_rfl)).trans ((Le.ren' (d := 44) (e := 11) (by kernel_rfl) (by kernel_rfl) (by kernel_rfl)).trans (Le.sub0))))
  refine swp_cond (b := j10) (by kernel_rfl) (fun hb => ?_) (fun hb => ?_)
  replace h := cond_t hb h
  refine swp_seq ?_
  refine swp_reg ?_
  refine SRun.ck tbokE6 1 ⟨114, [(6, vb false)], []⟩ ?_
  refine SRun.nil ?_
  refine nx_n ?_
  refine swp_ret ?_
  replace h := Option.some.inj h
  subst h
  exact nx_r (q_fr (fin1 (by kernel_rfl) (finV rfl (by simp [SV.Flat, SV.Flat.FlatL, Tr.flat]) (holds_t (by kernel_rfl)))))
  replace h := cond_f hb h
  refine swp_skip ?_
  refine nx_n ?_
  refine swp_seq ?_
  refine swp_seq ?_
  refine swp_reg ?_
  refine SRun.ck tbokE6 2 ⟨114, [(0, vi aAN), (1, vl eTie aAList), (5, .ref 5 0), (8, .own 8), (9, vi x5.2), (10, .own 10), (11, .own 11), (12, vi x8.2), (56, .own 10), (57, vl eTie aAList)], [(5, .box [vi aAT.A, vi aAT.B, vb aAT.Same, vs aAT.Reason]), (8, .arr 42 4 x5.1.length (x5.1.map eTie)), (10, .arr 42 4 x6.length (x6.map eTie)), (11, .arr 42 4 x8.1.length (x8.1.map eTie))]⟩ ?_
  obtain ⟨x12, hx12, h⟩ := bind_some h
  refine SRun.ls (x_lstep_call (f := 16) (caps := []) (xs := [vl eTie aAList]) (ys := [vl eTie aAList]) (res := ⟨[.own 42 4 x12.length (x12.map eTie)], [], false⟩) (x := .own 58) (y := some (.arr 42 4 x12.length (x12.map eTie))) rfl ents16 (laws_toTieS_run aAList _ hx12) rfl (by intro hc; cases hc)) ?_
  obtain ⟨x13, hx13, h⟩ := bind_some h
  refine SRun.ls (x_lstep_call (f := 18) (caps := []) (xs := [.own 10, .own 58]) (ys := [vl eTie x6, vl eTie x12]) (res := ⟨[.v (vb x13)], [], false⟩) (x := vb x13) (y := none) rfl ents18 (laws_eqTieS_run x6 x12 _ hx13) rfl (by intro hc; cases hc)) ?_
  refine SRun.ck tbokE6 1 ⟨114, [(0, vi aAN), (1, vl eTie aAList), (5, .ref 5 0), (8, .own 8), (9, vi x5.2), (10, .own 10), (11, .own 11), (12, vi x8.2), (60, vb (!x13))], [(5, .box [vi aAT.A, vi aAT.B, vb aAT.Same, vs aAT.Reason]), (8, .arr 42 4 x5.1.length (x5.1.map eTie)), (10, .arr 42 4 x6.length (x6.map eTie)), (11, .arr 42 4 x8.1.length (x8.1.map eTie))]⟩ ?_
  refine SRun.nil ?_
  refine nx_n ?_
  refine swp_cond (b := (!x13)) (by kernel_rfl) (fun hb => ?_) (fun hb => ?_)
  replace h := cond_t hb h
  refine swp_seq ?_
  refine swp_reg ?_
  refine SRun.ck tbokE6 1 ⟨114, [(6, vb false)], []⟩ ?_
  refine SRun.nil ?_
  refine nx_n ?_
  refine swp_ret ?_
  replace h := Option.some.inj h
  subst h
  exact nx_r (q_fr (fin1 (by kernel_rfl) (finV rfl (by simp [SV.Flat, SV.Flat.FlatL, Tr.flat]) (holds_t (by kernel_rfl)))))
  replace h := cond_f hb h
  refine swp_skip ?_
  refine nx_n ?_
  refine swp_seq ?_
  refine swp_reg ?_
  refine SRun.ck tbokE6 1 ⟨114, [(0, vi aAN), (1, vl eTie aAList), (5, .ref 5 0), (8, .own 8), (9, vi x5.2), (10, .own 10), (11, .own 11), (12, vi x8.2), (13, vi 1)], [(5, .box [vi aAT.A, vi aAT.B, vb aAT.Same, vs aAT.Reason]), (8, .arr 42 4 x5.1.length (x5.1.map eTie)), (10, .arr 42 4 x6.length (x6.map eTie)), (11, .arr 42 4 x8.1.length (x8.1.map eTie))]⟩ ?_
  refine SRun.nil ?_
  refine nx_n ?_
  refine swp_seq ?_
  refine swp_reg ?_
  refine SRun.ck tbokE6 2 ⟨114, [(0, vi aAN), (1, vl eTie aAList), (5, .ref 5 0), (8, .own 8), (9, vi x5.2), (11, .own 11), (12, vi x8.2), (61, .own 10), (62, vi 1)], [(5, .box [vi aAT.A, vi aAT.B, vb aAT.Same, vs aAT.Reason]), (8, .arr 42 4 x5.1.length (x5.1.map eTie)), (10, .arr 42 4 x6.length (x6.map eTie)), (11, .arr 42 4 x8.1.length (x8.1.map eTie))]⟩ ?_
  obtain ⟨x14, hx14, h⟩ := bind_some h
  refine SRun.estep (x_estep_call (f := 21) (caps := []) (xs := [.own 10, vi 1]) (pre := []) (post := [vi 1]) (qs := [vi 1]) (z := .own 10) (d := 10) (pl := 0) (y := .arr 42 4 x6.length (x6.map eTie)) (y' := .arr 42 4 x14.2.length (x14.2.map eTie)) (res := ⟨[.v (vi x14.1)], [(0, .arr 42 4 x14.2.length (x14.2.map eTie))], false⟩) (x := vi x14.1) (yo := none) rfl rfl rfl rfl rfl ents21 (laws_markTieS_run x6 1 _ hx14) rfl rfl false (fun _ => rfl) (by intro hc; cases hc)) ?_
  refine SRun.ck tbokE6 1 ⟨114, [(0, vi aAN), (1, vl eTie aAList), (5, .ref 5 0), (8, .own 8), (9, vi x5.2), (11, .own 11), (12, vi x8.2), (13, vi x14.1)], [(5, .box [vi aAT.A, vi aAT.B, vb aAT.Same, vs aAT.Reason]), (8, .arr 42 4 x5.1.length (x5.1.map eTie)), (11, .arr 42 4 x8.1.length (x8.1.map eTie))]⟩ ?_
  refine SRun.nil ?_
  refine nx_n ?_
  refine swp_seq ?_
  refine swp_seq ?_
  refine swp_regJ h (fun j16 => ⟨114, [(0, vi aAN), (1, vl eTie aAList), (5, .ref 5 0), (8, .own 8), (9, vi x5.2), (11, .own 11), (76, vb j16)], [(5, .box [vi aAT.A, vi aAT.B, vb aAT.Same, vs aAT.Reason]), (8, .arr 42 4 x5.1.length (x5.1.map eTie)), (11, .arr 42 4 x8.1.length (x8.1.map eTie))]⟩) (fun v17 h => ?_) (fun j16 h => ?_)
  refine SRun.ck tbokE6 3 ⟨114, [(0, vi aAN), (1, vl eTie aAList), (5, .ref 5 0), (8, .own 8), (9, vi x5.2), (11, .own 11), (12, vi x8.2), (66, vb (decide (x14.1 < 0)))], [(5, .box [vi aAT.A, vi aAT.B, vb aAT.Same, vs aAT.Reason]), (8, .arr 42 4 x5.1.length (x5.1.map eTie)), (11, .arr 42 4 x8.1.length (x8.1.map eTie))]⟩ ?_
  refine SRun.cut [(66, fun b => b)] (b := (decide (x14.1 < 0))) (by kernel_rfl) (fun hb => ?_) (fun hb => ?_)
  replace h := cond_t hb h
  refine SRun.ck tbokE6 10 ⟨114, [(0, vi aAN), (1, vl eTie aAList), (5, .ref 5 0), (8, .own 8), (9, vi x5.2), (11, .own 11), (76, vb true)], [(5, .box [vi aAT.A, vi aAT.B, vb aAT.Same, vs aAT.Reason]), (8, .arr 42 4 x5.1.length (x5.1.map eTie)), (11, .arr 42 4 x8.1.length (x8.1.map eTie))]⟩ ?_
  refine SRun.nil ?_
  replace h := Option.some.inj h
  subst h
  exact Le.sub0
  replace h := cond_f hb h
  refine SRun.ck tbokE6 2 ⟨114, [(0, vi aAN), (1, vl eTie aAList), (5, .ref 5 0), (8, .own 8), (9, vi x5.2), (11, .own 11), (12, vi x8.2), (66, vb false), (67, .own 11), (68, .own 8)], [(5, .box [vi aAT.A, vi aAT.B, vb aAT.Same, vs aAT.Reason]), (8, .arr 42 4 x5.1.length (x5.1.map eTie)), (11, .arr 42 4 x8.1.length (x8.1.map eTie))]⟩ ?_
  obtain ⟨x15, hx15, h⟩ := bind_some h
  refine SRun.ls (x_lstep_call (f := 18) (caps := []) (xs := [.own 11, .own 8]) (ys := [vl eTie x8.1, vl eTie x5.1]) (res := ⟨[.v (vb x15)], [], false⟩) (x := vb x15) (y := none) rfl ents18 (laws_eqTieS_run x8.1 x5.1 _ hx15) rfl (by intro hc; cases hc)) ?_
  refine SRun.ck tbokE6 3 ⟨114, [(0, vi aAN), (1, vl eTie aAList), (5, .ref 5 0), (8, .own 8), (9, vi x5.2), (11, .own 11), (12, vi x8.2), (72, vb (!x15))], [(5, .box [vi aAT.A, vi aAT.B, vb aAT.Same, vs aAT.Reason]), (8, .arr 42 4 x5.1.length (x5.1.map eTie)), (11, .arr 42 4 x8.1.length (x8.1.map eTie))]⟩ ?_
  refine SRun.cut [(72, fun b => b)] (b := (!x15)) (by kernel_rfl) (fun hb => ?_) (fun hb => ?_)
  replace h := cond_t hb h
  refine SRun.ck tbokE6 4 ⟨114, [(0, vi aAN), (1, vl eTie aAList), (5, .ref 5 0), (8, .own 8), (9, vi x5.2), (11, .own 11), (76, vb true)], [(5, .box [vi aAT.A, vi aAT.B, vb aAT.Same, vs aAT.Reason]), (8, .arr 42 4 x5.1.length (x5.1.map eTie)), (11, .arr 42 4 x8.1.length (x8.1.map eTie))]⟩ ?_
  refine SRun.nil ?_
  replace h := Option.some.inj h
  subst h
  exact Le.sub0
  replace h := cond_f hb h
  refine SRun.ck tbokE6 4 ⟨114, [(0, vi aAN), (1, vl eTie aAList), (5, .ref 5 0), (8, .own 8), (9, vi x5.2), (11, .own 11), (76, vb (x8.2 != x5.2))], [(5, .box [vi aAT.A, vi aAT.B, vb aAT.Same, vs aAT.Reason]), (8, .arr 42 4 x5.1.length (x5.1.map eTie)), (11, .arr 42 4 x8.1.length (x8.1.map eTie))]⟩ ?_
  refine SRun.nil ?_
  replace h := Option.some.inj h
  subst h
  exact Le.sub0
  refine swp_cond (b := j16) (by kernel_rfl) (fun hb => ?_) (fun hb => ?_)
  replace h := cond_t hb h
  refine swp_seq ?_
  refine swp_reg ?_
  refine SRun.ck tbokE6 1 ⟨114, [(6, vb false)], []⟩ ?_
  refine SRun.nil ?_
  refine nx_n ?_
  refine swp_ret ?_
  replace h := Option.some.inj h
  subst h
  exact nx_r (q_fr (fin1 (by kernel_rfl) (finV rfl (by simp [SV.Flat, SV.Flat.FlatL, Tr.flat]) (holds_t (by kernel_rfl)))))
  replace h := cond_f hb h
  refine swp_skip ?_
  refine nx_n ?_
  refine swp_seq ?_
  refine swp_reg ?_
  refine SRun.ck tbokE6 1 ⟨114, [(0, vi aAN), (1, vl eTie aAList), (5, .ref 5 0), (8, .own 8), (9, vi x5.2), (11, .own 11), (14, vi 1)], [(5, .box [vi aAT.A, vi aAT.B, vb aAT.Same, vs aAT.Reason]), (8, .arr 42 4 x5.1.length (x5.1.map eTie)), (11, .arr 42 4 x8.1.length (x8.1.map eTie))]⟩ ?_
  refine SRun.nil ?_
  refine nx_n ?_
  refine swp_seq ?_
  refine swp_reg ?_
  refine SRun.ck tbokE6 2 ⟨114, [(0, vi aAN), (1, vl eTie aAList), (5, .ref 5 0), (8, .own 8), (9, vi x5.2), (11, .own 11), (77, .own 11), (78, vi 1)], [(5, .box [vi aAT.A, vi aAT.B, vb aAT.Same, vs aAT.Reason]), (8, .arr 42 4 x5.1.length (x5.1.map eTie)), (11, .arr 42 4 x8.1.length (x8.1.map eTie))]⟩ ?_
  obtain ⟨x18, hx18, h⟩ := bind_some h
  refine SRun.estep (x_estep_call (f := 21) (caps := []) (xs := [.own 11, vi 1]) (pre := []) (post := [vi 1]) (qs := [vi 1]) (z := .own 11) (d := 11) (pl := 0) (y := .arr 42 4 x8.1.length (x8.1.map eTie)) (y' := .arr 42 4 x18.2.length (x18.2.map eTie)) (res := ⟨[.v (vi x18.1)], [(0, .arr 42 4 x18.2.length (x18.2.map eTie))], false⟩) (x := vi x18.1) (yo := none) rfl rfl rfl rfl rfl ents21 (laws_markTieS_run x8.1 1 _ hx18) rfl rfl false (fun _ => rfl) (by intro hc; cases hc)) ?_
  refine SRun.ck tbokE6 1 ⟨114, [(0, vi aAN), (1, vl eTie aAList), (5, .ref 5 0), (8, .own 8), (9, vi x5.2), (11, .own 11), (14, vi x18.1)], [(5, .box [vi aAT.A, vi aAT.B, vb aAT.Same, vs aAT.Reason]), (8, .arr 42 4 x5.1.length (x5.1.map eTie)), (11, .arr 42 4 x18.2.length (x18.2.map eTie))]⟩ ?_
  refine SRun.nil ?_
  refine nx_n ?_
  refine swp_seq ?_
  refine swp_reg ?_
  refine SRun.ck tbokE6 1 ⟨114, [(0, vi aAN), (1, vl eTie aAList), (5, .ref 5 0), (8, .own 8), (9, vi x5.2), (11, .own 11), (14, vi x18.1), (15, vi 1)], [(5, .box [vi aAT.A, vi aAT.B, vb aAT.Same, vs aAT.Reason]), (8, .arr 42 4 x5.1.length (x5.1.map eTie)), (11, .arr 42 4 x18.2.length (x18.2.map eTie))]⟩ ?_
  refine SRun.nil ?_
  refine nx_n ?_
  refine swp_seq ?_
  refine swp_reg ?_
  refine SRun.ck tbokE6 2 ⟨114, [(0, vi aAN), (1, vl eTie aAList), (5, .ref 5 0), (8, .own 8), (9, vi x5.2), (11, .own 11), (14, vi x18.1), (80, .own 11), (81, vi 1)], [(5, .box [vi aAT.A, vi aAT.B, vb aAT.Same, vs aAT.Reason]), (8, .arr 42 4 x5.1.length (x5.1.map eTie)), (11, .arr 42 4 x18.2.length (x18.2.map eTie))]⟩ ?_
  obtain ⟨x19, hx19, h⟩ := bind_some h
  refine SRun.ls (x_lstep_call (f := 22) (caps := []) (xs := [.own 11, vi 1]) (ys := [vl eTie x18.2, vi 1]) (res := ⟨[.v (vi x19)], [], false⟩) (x := vi x19) (y := none) rfl ents22 (laws_heldTieS_run x18.2 1 _ hx19) rfl (by intro hc; cases hc)) ?_
  refine SRun.ck tbokE6 1 ⟨114, [(0, vi aAN), (1, vl eTie aAList), (5, .ref 5 0), (8, .own 8), (9, vi x5.2), (11, .own 11), (14, vi x18.1), (15, vi x19)], [(5, .box [vi aAT.A, vi aAT.B, vb aAT.Same, vs aAT.Reason]), (8, .arr 42 4 x5.1.length (x5.1.map eTie)), (11, .arr 42 4 x18.2.length (x18.2.map eTie))]⟩ ?_
  refine SRun.nil ?_
  refine nx_n ?_
  refine swp_seq ?_
  refine swp_seq ?_
  refine swp_reg ?_
  refine SRun.ck tbokE6 2 ⟨114, [(0, vi aAN), (1, vl eTie aAList), (5, .ref 5 0), (8, .own 8), (9, vi x5.2), (11, .own 11), (14, vi x18.1), (15, vi x19), (84, vb (decide (x19 < 0)))], [(5, .box [vi aAT.A, vi aAT.B, vb aAT.Same, vs aAT.Reason]), (8, .arr 42 4 x5.1.length (x5.1.map eTie)), (11, .arr 42 4 x18.2.length (x18.2.map eTie))]⟩ ?_
  refine SRun.nil ?_
  refine nx_n ?_
  refine swp_cond (b := (decide (x19 < 0))) (by kernel_rfl) (fun hb => ?_) (fun hb => ?_)
  replace h := cond_t hb h
  refine swp_seq ?_
  refine swp_reg ?_
  refine SRun.ck tbokE6 1 ⟨114, [(6, vb false)], []⟩ ?_
  refine SRun.nil ?_
  refine nx_n ?_
  refine swp_ret ?_
  replace h := Option.some.inj h
  subst h
  exact nx_r (q_fr (fin1 (by kernel_rfl) (finV rfl (by simp [SV.Flat, SV.Flat.FlatL, Tr.flat]) (holds_t (by kernel_rfl)))))
  replace h := cond_f hb h
  refine swp_skip ?_
  refine nx_n ?_
  refine swp_seq ?_
  refine swp_seq ?_
  refine swp_reg ?_
  refine SRun.ck tbokE6 3 ⟨114, [(0, vi aAN), (1, vl eTie aAList), (5, .ref 5 0), (8, .own 8), (9, vi x5.2), (11, .own 11), (14, vi x18.1), (87, vb (x19 != x18.1))], [(5, .box [vi aAT.A, vi aAT.B, vb aAT.Same, vs aAT.Reason]), (8, .arr 42 4 x5.1.length (x5.1.map eTie)), (11, .arr 42 4 x18.2.length (x18.2.map eTie))]⟩ ?_
  refine SRun.nil ?_
  refine nx_n ?_
  refine swp_cond (b := (x19 != x18.1)) (by kernel_rfl) (fun hb => ?_) (fun hb => ?_)
  replace h := cond_t hb h
  refine swp_seq ?_
  refine swp_reg ?_
  refine SRun.ck tbokE6 1 ⟨114, [(6, vb false)], []⟩ ?_
  refine SRun.nil ?_
  refine nx_n ?_
  refine swp_ret ?_
  replace h := Option.some.inj h
  subst h
  exact nx_r (q_fr (fin1 (by kernel_rfl) (finV rfl (by simp [SV.Flat, SV.Flat.FlatL, Tr.flat]) (holds_t (by kernel_rfl)))))
  replace h := cond_f hb h
  refine swp_skip ?_
  refine nx_n ?_
  refine swp_seq ?_
  obtain ⟨x20, hx20, h⟩ := bind_some h
  obtain ⟨x21, hx21, h⟩ := bind_some h
  obtain ⟨x22, hx22, h⟩ := bind_some h
  refine swp_dr mixed ?_
  refine DGo.enum (σE := ⟨114, [(8, .own 8), (9, vi x5.2), (11, .own 11), (14, vi x18.1), (16, .own 94), (17, vi x22.2)], [(8, .arr 42 4 x5.1.length (x5.1.map eTie)), (11, .arr 42 4 x18.2.length (x18.2.map eTie)), (94, .arr 42 4 x22.1.length (x22.1.map eTie))]⟩) (n := 11) (L0 := #[false, false, false, false, false, false, false, false, false, false, false]) (by kernel_rfl) (by kernel_rfl) (fun K hk => ?_) ?_
  refine DE.share (fuel := 0) (L := #[true, true, true, true, true, true, true, true, true, true, true]) (σ := ⟨114, [(8, .own 8), (9, vi x5.2), (11, .own 11), (14, vi x18.1), (16, .own 94), (17, vi x22.2)], [(8, .arr 42 4 x5.1.length (x5.1.map eTie)), (11, .arr 42 4 x18.2.length (x18.2.map eTie)), (94, .arr 42 4 x22.1.length (x22.1.map eTie))]⟩) ?_ (fun d14 => ?_)
  exact DE.done (by kernel_rfl) hk
  refine DE.share (fuel := 1) (L := #[true, true, true, true, true, true, true, true, true, true, false]) (σ := ⟨114, [(8, .own 8), (9, vi x5.2), (11, .own 11), (14, vi x18.1), (16, .own 94), (96, vi x22.2)], [(8, .arr 42 4 x5.1.length (x5.1.map eTie)), (11, .arr 42 4 x18.2.length (x18.2.map eTie)), (94, .arr 42 4 x22.1.length (x22.1.map eTie))]⟩) ?_ (fun d13 => ?_)
  exact DE.take (i := 10) (L' := #[true, true, true, true, true, true, true, true, true, true, true]) rfl (.inr rfl) rfl (by kernel_rfl) (by kernel_rfl) (by kernel_rfl) (EStep.le (EStep.ofN2 tbokE6 (σ' := ⟨114, [(17, vi x22.2), (8, .own 8), (9, vi x5.2), (11, .own 11), (14, vi x18.1), (16, .own 94), (96, vi x22.2)], [(8, .arr 42 4 x5.1.length (x5.1.map eTie)), (11, .arr 42 4 x18.2.length (x18.2.map eTie)), (94, .arr 42 4 x22.1.length (x22.1.map eTie))]⟩) (by kernel_rfl)) Le.sub0) (by kernel_rfl) d14
  refine DE.share (fuel := 2) (L := #[true, true, true, true, true, true, true, true, true, false, false]) (σ := ⟨114, [(8, .own 8), (9, vi x5.2), (11, .own 11), (14, vi x18.1), (95, .own 94), (96, vi x22.2)], [(8, .arr 42 4 x5.1.length (x5.1.map eTie)), (11, .arr 42 4 x18.2.length (x18.2.map eTie)), (94, .arr 42 4 x22.1.length (x22.1.map eTie))]⟩) ?_ (fun d12 => ?_)
  exact DE.take (i := 9) (L' := #[true, true, true, true, true, true, true, true, true, true, false]) rfl (.inr rfl) rfl (by kernel_rfl) (by kernel_rfl) (by kernel_rfl) (EStep.le (EStep.ofN2 tbokE6 (σ' := ⟨114, [(16, .own 94), (8, .own 8), (9, vi x5.2), (11, .own 11), (14, vi x18.1), (95, .own 94), (96, vi x22.2)], [(8, .arr 42 4 x5.1.length (x5.1.map eTie)), (11, .arr 42 4 x18.2.length (x18.2.map eTie)), (94, .arr 42 4 x22.1.length (x22.1.map eTie))]⟩) (by kernel_rfl)) Le.sub0) (by kernel_rfl) d13
  refine DE.share (fuel := 2) (L := #[true, true, true, true, true, true, true, true, false, true, false]) (σ := ⟨114, [(8, .own 8), (9, vi x5.2), (11, .own 11), (14, vi x18.1), (16, .own 94), (88, .tup [.own 94, vi x22.2])], [(8, .arr 42 4 x5.1.length (x5.1.map eTie)), (11, .arr 42 4 x18.2.length (x18.2.map eTie)), (94, .arr 42 4 x22.1.length (x22.1.map eTie))]⟩) ?_ (fun d11 => ?_)
  exact DE.all [8] (by kernel_rfl) (by simp) (List.forall_mem_cons.2 ⟨DEs.mk (i := 8) (L' := #[true, true, true, true, true, true, true, true, true, true, false]) rfl (EStep.le (EStep.ofN2 tbokE6 (σ' := ⟨114, [(96, vi x22.2), (8, .own 8), (9, vi x5.2), (11, .own 11), (14, vi x18.1), (16, .own 94), (88, .tup [.own 94, vi x22.2])], [(8, .arr 42 4 x5.1.length (x5.1.map eTie)), (11, .arr 42 4 x18.2.length (x18.2.map eTie)), (94, .arr 42 4 x22.1.length (x22.1.map eTie))]⟩) (by kernel_rfl)) Le.sub0) (by kernel_rfl) d13, (fun _ h => absurd h List.not_mem_nil)⟩)
  refine DE.share (fuel := 3) (L := #[true, true, true, true, true, true, true, false, true, false, false]) (σ := ⟨114, [(8, .own 8), (9, vi x5.2), (11, .own 11), (14, vi x18.1), (88, .tup [.own 94, vi x22.2]), (96, vi x22.2)], [(8, .arr 42 4 x5.1.length (x5.1.map eTie)), (11, .arr 42 4 x18.2.length (x18.2.map eTie)), (94, .arr 42 4 x22.1.length (x22.1.map eTie))]⟩) ?_ (fun d10 => ?_)
  exact DE.all [7] (by kernel_rfl) (by simp) (List.forall_mem_cons.2 ⟨DEs.mk (i := 7) (L' := #[true, true, true, true, true, true, true, true, true, false, false]) rfl (EStep.le (EStep.ofN2 tbokE6 (σ' := ⟨114, [(95, .own 94), (8, .own 8), (9, vi x5.2), (11, .own 11), (14, vi x18.1), (88, .tup [.own 94, vi x22.2]), (96, vi x22.2)], [(8, .arr 42 4 x5.1.length (x5.1.map eTie)), (11, .arr 42 4 x18.2.length (x18.2.map eTie)), (94, .arr 42 4 x22.1.length (x22.1.map eTie))]⟩) (by kernel_rfl)) Le.sub0) (by kernel_rfl) d12, (fun _ h => absurd h List.not_mem_nil)⟩)
  refine DE.share (fuel := 3) (L := #[true, true, true, true, true, true, true, true, false, false, false]) (σ := ⟨114, [(8, .own 8), (9, vi x5.2), (11, .own 11), (14, vi x18.1), (88, .tup [.own 94, vi x22.2]), (95, .own 94)], [(8, .arr 42 4 x5.1.length (x5.1.map eTie)), (11, .arr 42 4 x18.2.length (x18.2.map eTie)), (94, .arr 42 4 x22.1.length (x22.1.map eTie))]⟩) ?_ (fun d9 => ?_)
  exact DE.take (i := 9) (L' := #[true, true, true, true, true, true, true, true, false, true, false]) rfl (.inr rfl) rfl (by kernel_rfl) (by kernel_rfl) (by kernel_rfl) (EStep.le (EStep.ofN2 tbokE6 (σ' := ⟨114, [(16, .own 94), (8, .own 8), (9, vi x5.2), (11, .own 11), (14, vi x18.1), (88, .tup [.own 94, vi x22.2]), (95, .own 94)], [(8, .arr 42 4 x5.1.length (x5.1.map eTie)), (11, .arr 42 4 x18.2.length (x18.2.map eTie)), (94, .arr 42 4 x22.1.length (x22.1.map eTie))]⟩) (by kernel_rfl)) Le.sub0) (by kernel_rfl) d11
  refine DE.share (fuel := 4) (L := #[true, true, true, true, true, true, true, false, false, false, false]) (σ := ⟨114, [(8, .own 8), (9, vi x5.2), (11, .own 11), (14, vi x18.1), (88, .tup [.own 94, vi x22.2])], [(8, .arr 42 4 x5.1.length (x5.1.map eTie)), (11, .arr 42 4 x18.2.length (x18.2.map eTie)), (94, .arr 42 4 x22.1.length (x22.1.map eTie))]⟩) ?_ (fun d8 => ?_)
  exact DE.all [7, 8] (by kernel_rfl) (by simp) (List.forall_mem_cons.2 ⟨DEs.mk (i := 7) (L' := #[true, true, true, true, true, true, true, true, false, false, false]) rfl (EStep.le (EStep.ofN2 tbokE6 (σ' := ⟨114, [(95, .own 94), (8, .own 8), (9, vi x5.2), (11, .own 11), (14, vi x18.1), (88, .tup [.own 94, vi x22.2])], [(8, .arr 42 4 x5.1.length (x5.1.map eTie)), (11, .arr 42 4 x18.2.length (x18.2.map eTie)), (94, .arr 42 4 x22.1.length (x22.1.map eTie))]⟩) (by kernel_rfl)) Le.sub0) (by kernel_rfl) d9, (List.forall_mem_cons.2 ⟨DEs.mk (i := 8) (L' := #[true, true, true, true, true, true, true, false, true, false, false]) rfl (EStep.le (EStep.ofN2 tbokE6 (σ' := ⟨114, [(96, vi x22.2), (8, .own 8), (9, vi x5.2), (11, .own 11), (14, vi x18.1), (88, .tup [.own 94, vi x22.2])], [(8, .arr 42 4 x5.1.length (x5.1.map eTie)), (11, .arr 42 4 x18.2.length (x18.2.map eTie)), (94, .arr 42 4 x22.1.length (x22.1.map eTie))]⟩) (by kernel_rfl)) Le.sub0) (by kernel_rfl) d10, (fun _ h => absurd h List.not_mem_nil)⟩)⟩)
  refine DE.share (fuel := 5) (L := #[true, true, true, true, true, true, false, false, false, false, false]) (σ := ⟨114, [(8, .own 8), (9, vi x5.2), (11, .own 11), (14, vi x18.1), (94, .tup [.own 94, vi x22.2])], [(8, .arr 42 4 x5.1.length (x5.1.map eTie)), (11, .arr 42 4 x18.2.length (x18.2.map eTie)), (94, .arr 42 4 x22.1.length (x22.1.map eTie))]⟩) ?_ (fun d7 => ?_)
  exact DE.take (i := 6) (L' := #[true, true, true, true, true, true, true, false, false, false, false]) rfl (.inl rfl) rfl (by kernel_rfl) (by kernel_rfl) (by kernel_rfl) (EStep.le (EStep.ofN2 tbokE6 (σ' := ⟨114, [(88, .tup [.own 94, vi x22.2]), (8, .own 8), (9, vi x5.2), (11, .own 11), (14, vi x18.1), (94, .tup [.own 94, vi x22.2])], [(8, .arr 42 4 x5.1.length (x5.1.map eTie)), (11, .arr 42 4 x18.2.length (x18.2.map eTie)), (94, .arr 42 4 x22.1.length (x22.1.map eTie))]⟩) (by kernel_rfl)) Le.sub0) (by kernel_rfl) d8
  refine DE.share (fuel := 6) (L := #[true, true, true, true, true, false, false, false, false, false, false]) (σ := ⟨114, [(8, .own 8), (9, vi x5.2), (11, .own 11), (14, vi x18.1), (89, vi aAN), (91, .own 91), (93, .agg [vi x21.A, vi x21.B, vb x21.Same, vs x21.Reason])], [(8, .arr 42 4 x5.1.length (x5.1.map eTie)), (11, .arr 42 4 x18.2.length (x18.2.map eTie)), (91, .arr 42 4 x20.length (x20.map eTie))]⟩) ?_ (fun d6 => ?_)
  exact DE.all [5] (by kernel_rfl) (by simp) (List.forall_mem_cons.2 ⟨DEs.mk (i := 5) (L' := #[true, true, true, true, true, true, false, false, false, false, false]) rfl (EStep.le (EStep.ofL (x_lstep_call (f := 32) (caps := []) (xs := [vi aAN, .own 91, .agg [vi x21.A, vi x21.B, vb x21.Same, vs x21.Reason]]) (ys := [vi aAN, vl eTie x20, .agg [vi x21.A, vi x21.B, vb x21.Same, vs x21.Reason]]) (res := ⟨[.own 42 4 x22.1.length (x22.1.map eTie), .v (vi x22.2)], [], false⟩) (x := .tup [.own 94, vi x22.2]) (y := some (.arr 42 4 x22.1.length (x22.1.map eTie))) rfl ents32 (impl_AddTie_run aAN x20 x21 _ hx22) rfl (by intro hc; cases hc)) (by kernel_rfl)) Le.sub0) (by kernel_rfl) d7, (fun _ h => absurd h List.not_mem_nil)⟩)
  refine DE.share (fuel := 7) (L := #[true, true, true, true, false, false, false, false, false, false, false]) (σ := ⟨114, [(8, .own 8), (9, vi x5.2), (11, .own 11), (14, vi x18.1), (89, vi aAN), (91, .own 91), (92, .agg [vi aAT.A, vi aAT.B, vb aAT.Same, vs aAT.Reason])], [(8, .arr 42 4 x5.1.length (x5.1.map eTie)), (11, .arr 42 4 x18.2.length (x18.2.map eTie)), (91, .arr 42 4 x20.length (x20.map eTie))]⟩) ?_ (fun d5 => ?_)
  exact DE.all [4] (by kernel_rfl) (by simp) (List.forall_mem_cons.2 ⟨DEs.mk (i := 4) (L' := #[true, true, true, true, true, false, false, false, false, false, false]) rfl (EStep.le (EStep.ofL (x_lstep_call (f := 31) (caps := []) (xs := [.agg [vi aAT.A, vi aAT.B, vb aAT.Same, vs aAT.Reason]]) (ys := [.agg [vi aAT.A, vi aAT.B, vb aAT.Same, vs aAT.Reason]]) (res := ⟨[.v (.agg [vi x21.A, vi x21.B, vb x21.Same, vs x21.Reason])], [], false⟩) (x := .agg [vi x21.A, vi x21.B, vb x21.Same, vs x21.Reason]) (y := none) rfl ents31 (laws_toTie_run aAT _ hx21) rfl (by intro hc; cases hc)) (by kernel_rfl)) Le.sub0) (by kernel_rfl) d6, (fun _ h => absurd h List.not_mem_nil)⟩)
  refine DE.share (fuel := 8) (L := #[true, true, false, true, false, false, false, false, false, false, false]) (σ := ⟨114, [(8, .own 8), (9, vi x5.2), (11, .own 11), (14, vi x18.1), (89, vi aAN), (90, vl eTie aAList), (92, .agg [vi aAT.A, vi aAT.B, vb aAT.Same, vs aAT.Reason])], [(8, .arr 42 4 x5.1.length (x5.1.map eTie)), (11, .arr 42 4 x18.2.length (x18.2.map eTie))]⟩) ?_ (fun d4 => ?_)
  exact DE.all [2] (by kernel_rfl) (by simp) (List.forall_mem_cons.2 ⟨DEs.mk (i := 2) (L' := #[true, true, true, true, false, false, false, false, false, false, false]) rfl (EStep.le (EStep.ofL (x_lstep_call (f := 16) (caps := []) (xs := [vl eTie aAList]) (ys := [vl eTie aAList]) (res := ⟨[.own 42 4 x20.length (x20.map eTie)], [], false⟩) (x := .own 91) (y := some (.arr 42 4 x20.length (x20.map eTie))) rfl ents16 (laws_toTieS_run aAList _ hx20) rfl (by intro hc; cases hc)) (by kernel_rfl)) Le.sub0) (by kernel_rfl) d5, (fun _ h => absurd h List.not_mem_nil)⟩)
  refine DE.share (fuel := 8) (L := #[true, true, true, false, false, false, false, false, false, false, false]) (σ := ⟨114, [(5, .ref 5 0), (8, .own 8), (9, vi x5.2), (11, .own 11), (14, vi x18.1), (89, vi aAN), (91, .own 91)], [(5, .box [vi aAT.A, vi aAT.B, vb aAT.Same, vs aAT.Reason]), (8, .arr 42 4 x5.1.length (x5.1.map eTie)), (11, .arr 42 4 x18.2.length (x18.2.map eTie)), (91, .arr 42 4 x20.length (x20.map eTie))]⟩) ?_ (fun d3 => ?_)
  exact DE.all [3] (by kernel_rfl) (by simp) (List.forall_mem_cons.2 ⟨DEs.mk (i := 3) (L' := #[true, true, true, true, false, false, false, false, false, false, false]) rfl (EStep.le (EStep.ofN2 tbokE6 (σ' := ⟨114, [(92, .agg [vi aAT.A, vi aAT.B, vb aAT.Same, vs aAT.Reason]), (5, .ref 5 0), (8, .own 8), (9, vi x5.2), (11, .own 11), (14, vi x18.1), (89, vi aAN), (91, .own 91)], [(5, .box [vi aAT.A, vi aAT.B, vb aAT.Same, vs aAT.Reason]), (8, .arr 42 4 x5.1.length (x5.1.map eTie)), (11, .arr 42 4 x18.2.length (x18.2.map eTie)), (91, .arr 42 4 x20.length (x20.map eTie))]⟩) (by kernel_rfl)) Le.sub0) (by kernel_rfl) d5, (fun _ h => absurd h List.not_mem_nil)⟩)
  refine DE.share (fuel := 9) (L := #[true, true, false, false, false, false, false, false, false, false, false]) (σ := ⟨114, [(5, .ref 5 0), (8, .own 8), (9, vi x5.2), (11, .own 11), (14, vi x18.1), (89, vi aAN), (90, vl eTie aAList)], [(5, .box [vi aAT.A, vi aAT.B, vb aAT.Same, vs aAT.Reason]), (8, .arr 42 4 x5.1.length (x5.1.map eTie)), (11, .arr 42 4 x18.2.length (x18.2.map eTie))]⟩) ?_ (fun d2 => ?_)
  exact DE.all [2, 3] (by kernel_rfl) (by simp) (List.forall_mem_cons.2 ⟨DEs.mk (i := 2) (L' := #[true, true, true, false, false, false, false, false, false, false, false]) rfl (EStep.le (EStep.ofL (x_lstep_call (f := 16) (caps := []) (xs := [vl eTie aAList]) (ys := [vl eTie aAList]) (res := ⟨[.own 42 4 x20.length (x20.map eTie)], [], false⟩) (x := .own 91) (y := some (.arr 42 4 x20.length (x20.map eTie))) rfl ents16 (laws_toTieS_run aAList _ hx20) rfl (by intro hc; cases hc)) (by kernel_rfl)) Le.sub0) (by kernel_rfl) d3, (List.forall_mem_cons.2 ⟨DEs.mk (i := 3) (L' := #[true, true, false, true, false, false, false, false, false, false, false]) rfl (EStep.le (EStep.ofN2 tbokE6 (σ' := ⟨114, [(92, .agg [vi aAT.A, vi aAT.B, vb aAT.Same, vs aAT.Reason]), (5, .ref 5 0), (8, .own 8), (9, vi x5.2), (11, .own 11), (14, vi x18.1), (89, vi aAN), (90, vl eTie aAList)], [(5, .box [vi aAT.A, vi aAT.B, vb aAT.Same, vs aAT.Reason]), (8, .arr 42 4 x5.1.length (x5.1.map eTie)), (11, .arr 42 4 x18.2.length (x18.2.map eTie))]⟩) (by kernel_rfl)) Le.sub0) (by kernel_rfl) d4, (fun _ h => absurd h List.not_mem_nil)⟩)⟩)
  refine DE.share (fuel := 10) (L := #[true, false, false, false, false, false, false, false, false, false, false]) (σ := ⟨114, [(1, vl eTie aAList), (5, .ref 5 0), (8, .own 8), (9, vi x5.2), (11, .own 11), (14, vi x18.1), (89, vi aAN)], [(5, .box [vi aAT.A, vi aAT.B, vb aAT.Same, vs aAT.Reason]), (8, .arr 42 4 x5.1.length (x5.1.map eTie)), (11, .arr 42 4 x18.2.length (x18.2.map eTie))]⟩) ?_ (fun d1 => ?_)
  exact DE.take (i := 1) (L' := #[true, true, false, false, false, false, false, false, false, false, false]) rfl (.inl rfl) rfl (by kernel_rfl) (by kernel_rfl) (by kernel_rfl) (EStep.le (EStep.ofN2 tbokE6 (σ' := ⟨114, [(90, vl eTie aAList), (1, vl eTie aAList), (5, .ref 5 0), (8, .own 8), (9, vi x5.2), (11, .own 11), (14, vi x18.1), (89, vi aAN)], [(5, .box [vi aAT.A, vi aAT.B, vb aAT.Same, vs aAT.Reason]), (8, .arr 42 4 x5.1.length (x5.1.map eTie)), (11, .arr 42 4 x18.2.length (x18.2.map eTie))]⟩) (by kernel_rfl)) Le.sub0) (by kernel_rfl) d2
  exact DE.take (i := 0) (L' := #[true, false, false, false, false, false, false, false, false, false, false]) rfl (.inl rfl) rfl (by kernel_rfl) (by kernel_rfl) (by kernel_rfl) (EStep.le (EStep.ofN2 tbokE6 (σ' := ⟨114, [(89, vi aAN), (0, vi aAN), (1, vl eTie aAList), (5, .ref 5 0), (8, .own 8), (9, vi x5.2), (11, .own 11), (14, vi x18.1), (87, vb (x19 != x18.1))], [(5, .box [vi aAT.A, vi aAT.B, vb aAT.Same, vs aAT.Reason]), (8, .arr 42 4 x5.1.length (x5.1.map eTie)), (11, .arr 42 4 x18.2.length (x18.2.map eTie))]⟩) (by kernel_rfl)) Le.sub0) (by kernel_rfl) d1
  refine nx_n ?_
  refine swp_seq ?_
  refine swp_seq ?_
  refine swp_regJ h (fun j24 => ⟨114, [(11, .own 11), (14, vi x18.1), (105, vb j24)], [(11, .arr 42 4 x18.2.length (x18.2.map eTie))]⟩) (fun v25 h => ?_) (fun j24 h => ?_)
  refine SRun.ck tbokE6 2 ⟨114, [(9, vi x5.2), (11, .own 11), (14, vi x18.1), (17, vi x22.2), (97, .own 94), (98, .own 8)], [(8, .arr 42 4 x5.1.length (x5.1.map eTie)), (11, .arr 42 4 x18.2.length (x18.2.map eTie)), (94, .arr 42 4 x22.1.length (x22.1.map eTie))]⟩ ?_
  obtain ⟨x23, hx23, h⟩ := bind_some h
  refine SRun.ls (x_lstep_call (f := 18) (caps := []) (xs := [.own 94, .own 8]) (ys := [vl eTie x22.1, vl eTie x5.1]) (res := ⟨[.v (vb x23)], [], false⟩) (x := vb x23) (y := none) rfl ents18 (laws_eqTieS_run x22.1 x5.1 _ hx23) rfl (by intro hc; cases hc)) ?_
  refine SRun.ck tbokE6 2 ⟨114, [(9, vi x5.2), (11, .own 11), (14, vi x18.1), (17, vi x22.2), (101, vb (!x23))], [(11, .arr 42 4 x18.2.length (x18.2.map eTie))]⟩ ?_
  refine SRun.cut [(101, fun b => b)] (b := (!x23)) (by kernel_rfl) (fun hb => ?_) (fun hb => ?_)
  replace h := cond_t hb h
  refine SRun.ck tbokE6 4 ⟨114, [(11, .own 11), (14, vi x18.1), (105, vb true)], [(11, .arr 42 4 x18.2.length (x18.2.map eTie))]⟩ ?_
  refine SRun.nil ?_
  replace h := Option.some.inj h
  subst h
  exact Le.sub0
  replace h := cond_f hb h
  refine SRun.ck tbokE6 4 ⟨114, [(11, .own 11), (14, vi x18.1), (105, vb (x22.2 != x5.2))], [(11, .arr 42 4 x18.2.length (x18.2.map eTie))]⟩ ?_
  refine SRun.nil ?_
  replace h := Option.some.inj h
  subst h
  exact Le.sub0
  refine swp_cond (b := j24) (by kernel_rfl) (fun hb => ?_) (fun hb => ?_)
  replace h := cond_t hb h
  refine swp_seq ?_
  refine swp_reg ?_
  refine SRun.ck tbokE6 1 ⟨114, [(6, vb false)], []⟩ ?_
  refine SRun.nil ?_
  refine nx_n ?_
  refine swp_ret ?_
  replace h := Option.some.inj h
  subst h
  exact nx_r (q_fr (fin1 (by kernel_rfl) (finV rfl (by simp [SV.Flat, SV.Flat.FlatL, Tr.flat]) (holds_t (by kernel_rfl)))))
  replace h := cond_f hb h
  refine swp_skip ?_
  refine nx_n ?_
  refine swp_seq ?_
  refine swp_reg ?_
  refine SRun.ck tbokE6 1 ⟨114, [(11, .own 11), (14, vi x18.1), (15, vi 1)], [(11, .arr 42 4 x18.2.length (x18.2.map eTie))]⟩ ?_
  refine SRun.nil ?_
  refine nx_n ?_
  refine swp_seq ?_
  refine swp_reg ?_
  refine SRun.ck tbokE6 2 ⟨114, [(14, vi x18.1), (106, .own 11), (107, vi 1)], [(11, .arr 42 4 x18.2.length (x18.2.map eTie))]⟩ ?_
  obtain ⟨x26, hx26, h⟩ := bind_some h
  refine SRun.ls (x_lstep_call (f := 22) (caps := []) (xs := [.own 11, vi 1]) (ys := [vl eTie x18.2, vi 1]) (res := ⟨[.v (vi x26)], [], false⟩) (x := vi x26) (y := none) rfl ents22 (laws_heldTieS_run x18.2 1 _ hx26) rfl (by intro hc; cases hc)) ?_
  refine SRun.ck tbokE6 1 ⟨114, [(14, vi x18.1), (15, vi x26)], []⟩ ?_
  refine SRun.nil ?_
  refine nx_n ?_
  refine swp_seq ?_
  refine swp_seq ?_
  refine swp_reg ?_
  refine SRun.ck tbokE6 2 ⟨114, [(14, vi x18.1), (15, vi x26), (110, vb (decide (x26 < 0)))], []⟩ ?_
  refine SRun.nil ?_
  refine nx_n ?_
  refine swp_cond (b := (decide (x26 < 0))) (by kernel_rfl) (fun hb => ?_) (fun hb => ?_)
  replace h := cond_t hb h
  refine swp_seq ?_
  refine swp_reg ?_
  refine SRun.ck tbokE6 1 ⟨114, [(6, vb false)], []⟩ ?_
  refine SRun.nil ?_
  refine nx_n ?_
  refine swp_ret ?_
  replace h := Option.some.inj h
  subst h
  exact nx_r (q_fr (fin1 (by kernel_rfl) (finV rfl (by simp [SV.Flat, SV.Flat.FlatL, Tr.flat]) (holds_t (by kernel_rfl)))))
  replace h := cond_f hb h
  refine swp_skip ?_
  refine nx_n ?_
  refine swp_seq ?_
  refine swp_seq ?_
  refine swp_reg ?_
  refine SRun.ck tbokE6 3 ⟨114, [(113, vb (x26 != x18.1))], []⟩ ?_
  refine SRun.nil ?_
  refine nx_n ?_
  refine swp_cond (b := (x26 != x18.1)) (by kernel_rfl) (fun hb => ?_) (fun hb => ?_)
  replace h := cond_t hb h
  refine swp_seq ?_
  refine swp_reg ?_
  refine SRun.ck tbokE6 1 ⟨114, [(6, vb false)], []⟩ ?_
  refine SRun.nil ?_
  refine nx_n ?_
  refine swp_ret ?_
  replace h := Option.some.inj h
  subst h
  exact nx_r (q_fr (fin1 (by kernel_rfl) (finV rfl (by simp [SV.Flat, SV.Flat.FlatL, Tr.flat]) (holds_t (by kernel_rfl)))))
  replace h := cond_f hb h
  refine swp_skip ?_
  refine nx_n ?_
  refine swp_seq ?_
  refine swp_reg ?_
  refine SRun.ck tbokE6 1 ⟨114, [(6, vb true)], []⟩ ?_
  refine SRun.nil ?_
  refine nx_n ?_
  refine swp_ret ?_
  replace h := Option.some.inj h
  subst h
  exact q_fr (fin1 (by kernel_rfl) (finV rfl (by simp [SV.Flat, SV.Flat.FlatL, Tr.flat]) (holds_t (by kernel_rfl))))
theorem ents8 : Ents Tryd.prog 8 := ents_of Tryd.func8 (by kernel_rfl) rfl
end Go.Proofs.YtmbejkchgdcdhaaDoor.Sh
