/- Typed functions and the calls that do what they say. -/
import Derived.Test.YtmbejkchgdcdhaaDoorGAp0
import Derived.Test.YtmbejkchgdcdhaaDoorKA
import Derived.Test.YtmbejkchgdcdhaaDoorKR
import Derived.Test.YtmbejkchgdcdhaaDoorH1
namespace Go.Proofs.YtmbejkchgdcdhaaDoor.Sh
open Go.RowKit
noncomputable def impl_MayBeSame (aN : Int) (aList : (List Tie)) (aA : Int) (aB : Int) : Option (Bool × Int) :=
  ((impl_recordCode aN aList ([aA, aB] : List Int)).bind fun x1 => (((bif (x1 != 0) then some (.inr (false, x1)) else ((impl_refuted aN aList).bind fun x4 => (bif (decide (x4 ≥ 0)) then some (.inr (false, 5)) else some (.inl ()))))).bind (Sum.elim (fun (_ : Unit) => (bif (aA == aB) then some (true, 0) else ((slices_Clone_Tie aList).bind fun x5 => ((app' x5 ([(Tie.mk (minI aA aB) (maxI aA aB) true (ByteArray.mk #[]))] : List Tie)).bind fun x6 => ((impl_refuted aN x6).bind fun x7 => some ((decide (x7 < 0)), 0)))))) some)))
set_option maxRecDepth 100000 in
set_option maxHeartbeats 4000000 in
theorem impl_MayBeSame_run (aN : Int) (aList : (List Tie)) (aA : Int) (aB : Int) (r : Bool × Int) (h : impl_MayBeSame aN aList aA aB = some r) : SCall Tryd.prog 26 [.v (vi aN), .v (vl eTie aList), .v (vi aA), .v (vi aB)] ⟨[.v (vb r.1), .v (vi r.2)], [], false⟩ := by
  refine scall_in Tryd.func26 rfl [(.tmp 8), (.tmp 9)] rfl (fun r => ⟨[.v (vb r.1), .v (vi r.2)], [], false⟩) (r := r) ?_
  unfold impl_MayBeSame at h
  refine swp_seq ?_
  refine swp_reg ?_
  refine SRun.ck tbok 2 ⟨47, [(0, vi aN), (1, vl eTie aList), (2, vi aA), (3, vi aB)], []⟩ ?_
  refine SRun.nil ?_
  refine nx_n ?_
  refine swp_seq ?_
  refine swp_reg ?_
  refine SRun.ck tbok 5 ⟨47, [(0, vi aN), (1, vl eTie aList), (2, vi aA), (3, vi aB), (12, vi aN), (13, vl eTie aList), (16, .own 16)], [(16, .arr 2 1 ([aA, aB] : List Int).length (([aA, aB] : List Int).map (eI .i64)))]⟩ ?_
  obtain ⟨x1, hx1, h⟩ := bind_some h
  refine SRun.ls (x_lstep_call (f := 68) (caps := []) (xs := [vi aN, vl eTie aList, .own 16]) (ys := [vi aN, vl eTie aList, vl (eI .i64) ([aA, aB] : List Int)]) (res := ⟨[.v (vi x1)], [], false⟩) (x := vi x1) (y := none) rfl ents68 (impl_recordCode_run aN aList ([aA, aB] : List Int) _ hx1) rfl (by intro hc; cases hc)) ?_
  refine SRun.ck tbok 1 ⟨47, [(0, vi aN), (1, vl eTie aList), (2, vi aA), (3, vi aB), (10, vi x1)], []⟩ ?_
  refine SRun.nil ?_
  refine nx_n ?_
  refine swp_seq ?_
  refine swp_seqE (r := r) h (fun j2 => ⟨47, [(0, vi aN), (1, vl eTie aList), (2, vi aA), (3, vi aB)], []⟩) (fun v3 h => ?_) (fun j2 h => ?_)
  refine swp_blk (a := v3) ?_
  refine swp_seq ?_
  refine swp_reg ?_
  refine SRun.ck tbok 3 ⟨47, [(0, vi aN), (1, vl eTie aList), (2, vi aA), (3, vi aB), (10, vi x1), (18, vb (x1 != 0))], []⟩ ?_
  refine SRun.nil ?_
  refine nx_n ?_
  refine swp_cond (b := (x1 != 0)) (by kernel_rfl) (fun hb => ?_) (fun hb => ?_)
  replace h := cond_t hb h
  refine swp_seq ?_
  refine swp_reg ?_
  refine SRun.ck tbok 3 ⟨47, [(8, vb false), (9, vi x1)], []⟩ ?_
  refine SRun.nil ?_
  refine nx_n ?_
  refine swp_ret ?_
  replace h := Option.some.inj h
  subst h
  exact q_br (q_rr (q_fr (fin2 (by kernel_rfl) (finV rfl SV.flat_of (holds_t (by kernel_rfl))) (finV rfl SV.flat_of (holds_t (by kernel_rfl))))))
  replace h := cond_f hb h
  refine swp_seq ?_
  refine swp_reg ?_
  refine SRun.ck tbok 2 ⟨47, [(0, vi aN), (1, vl eTie aList), (2, vi aA), (3, vi aB), (23, vi aN), (24, vl eTie aList)], []⟩ ?_
  obtain ⟨x4, hx4, h⟩ := bind_some h
  refine SRun.ls (x_lstep_call (f := 66) (caps := []) (xs := [vi aN, vl eTie aList]) (ys := [vi aN, vl eTie aList]) (res := ⟨[.v (vi x4)], [], false⟩) (x := vi x4) (y := none) rfl ents66 (impl_refuted_run aN aList _ hx4) rfl (by intro hc; cases hc)) ?_
  refine SRun.ck tbok 2 ⟨47, [(0, vi aN), (1, vl eTie aList), (2, vi aA), (3, vi aB), (22, vb (decide (x4 ≥ 0)))], []⟩ ?_
  refine SRun.nil ?_
  refine nx_n ?_
  refine swp_cond (b := (decide (x4 ≥ 0))) (by kernel_rfl) (fun hb => ?_) (fun hb => ?_)
  replace h := cond_t hb h
  refine swp_seq ?_
  refine swp_reg ?_
  refine SRun.ck tbok 2 ⟨47, [(8, vb false), (9, vi 5)], []⟩ ?_
  refine SRun.nil ?_
  refine nx_n ?_
  refine swp_ret ?_
  replace h := Option.some.inj h
  subst h
  exact q_br (q_rr (q_fr (fin2 (by kernel_rfl) (finV rfl SV.flat_of (holds_t (by kernel_rfl))) (finV rfl SV.flat_of (holds_t (by kernel_rfl))))))
  replace h := cond_f hb h
  refine swp_skip ?_
  replace h := Option.some.inj h
  subst h
  exact q_bn (q_l (Le.sub0))
  refine swp_seq ?_
  refine swp_reg ?_
  refine SRun.ck tbok 6 ⟨47, [(0, vi aN), (1, vl eTie aList), (2, vi aA), (3, vi aB), (29, vi (minI aA aB)), (32, vi (maxI aA aB))], []⟩ ?_
  refine SRun.ls (x_lstep_build (v := .agg [vi (minI aA aB), vi (maxI aA aB), vb true, vs (ByteArray.mk #[])]) tbok rfl) ?_
  refine SRun.ck tbok 1 ⟨47, [(0, vi aN), (1, vl eTie aList), (2, vi aA), (3, vi aB), (11, .ref 11 0), (33, .agg [vi (minI aA aB), vi (maxI aA aB), vb true, vs (ByteArray.mk #[])])], [(11, .box [vi 0, vi 0, vb false, vs (ByteArray.mk #[])])]⟩ ?_
  refine SRun.estep (x_estep_store (d := 11) (k := 0) (ti := ti42) (cs := [vi 0, vi 0, vb false, vs (ByteArray.mk #[])]) (vs := [vi (minI aA aB), vi (maxI aA aB), vb true, vs (ByteArray.mk #[])]) (v := .agg [vi (minI aA aB), vi (maxI aA aB), vb true, vs (ByteArray.mk #[])]) tbok rfl rfl) ?_
  refine SRun.nil ?_
  refine nx_n ?_
  refine swp_seq ?_
  rcases Bool.eq_false_or_eq_true (aA == aB) with hq0 | hq0
  replace h := cond_t hq0 h
  refine swp_dr mixed ?_
  refine DGo.enum (σE := ⟨47, [(8, vb true), (9, vi 0)], []⟩) (n := 15) (L0 := #[false, false, false, false, false, false, false, false, false, false, false, false, false, false, false]) (by kernel_rfl) (by kernel_rfl) (fun K hk => ?_) ?_
  refine DE.share (fuel := 0) (L := #[true, true, true, true, true, true, true, true, true, true, true, true, true, true, true]) (σ := ⟨47, [(8, vb true), (9, vi 0)], []⟩) ?_ (fun d28 => ?_)
  exact DE.done (by kernel_rfl) hk
  refine DE.share (fuel := 1) (L := #[true, true, true, true, true, true, true, true, true, true, true, true, true, true, false]) (σ := ⟨47, [(8, vb true)], []⟩) ?_ (fun d27 => ?_)
  exact DE.take (i := 14) (L' := #[true, true, true, true, true, true, true, true, true, true, true, true, true, true, true]) rfl (.inr rfl) rfl (by kernel_rfl) (by kernel_rfl) (by kernel_rfl) (EStep.le (EStep.ofN2 tbok (σ' := ⟨47, [(9, vi 0), (8, vb true)], []⟩) (by kernel_rfl)) Le.sub0) (by kernel_rfl) d28
  refine DE.share (fuel := 2) (L := #[true, true, true, true, true, true, true, true, true, true, true, true, true, false, false]) (σ := ⟨47, [(46, vb true)], []⟩) ?_ (fun d26 => ?_)
  exact DE.take (i := 13) (L' := #[true, true, true, true, true, true, true, true, true, true, true, true, true, true, false]) rfl (.inr rfl) rfl (by kernel_rfl) (by kernel_rfl) (by kernel_rfl) (EStep.le (EStep.ofN2 tbok (σ' := ⟨47, [(8, vb true), (46, vb true)], []⟩) (by kernel_rfl)) Le.sub0) (by kernel_rfl) d27
  refine DE.share (fuel := 3) (L := #[true, true, true, true, true, true, true, true, true, true, true, true, false, false, false]) (σ := ⟨47, [(37, vb true), (45, .tup [])], []⟩) ?_ (fun d25 => ?_)
  exact DE.all [12] (by kernel_rfl) (by simp) (List.forall_mem_cons.2 ⟨DEs.mk (i := 12) (L' := #[true, true, true, true, true, true, true, true, true, true, true, true, true, false, false]) rfl (EStep.le (EStep.ofN2 tbok (σ' := ⟨47, [(46, vb true), (37, vb true), (45, .tup [])], []⟩) (by kernel_rfl)) Le.sub0) (by kernel_rfl) d26, (fun _ h => absurd h List.not_mem_nil)⟩)
  refine DE.share (fuel := 4) (L := #[true, true, true, true, true, true, true, true, true, true, true, false, false, false, false]) (σ := ⟨47, [(37, vb true), (44, .tup [])], []⟩) ?_ (fun d24 => ?_)
  exact DE.all [11] (by kernel_rfl) (by simp) (List.forall_mem_cons.2 ⟨DEs.mk (i := 11) (L' := #[true, true, true, true, true, true, true, true, true, true, true, true, false, false, false]) rfl (EStep.le (EStep.ofN2 tbok (σ' := ⟨47, [(45, .tup []), (37, vb true), (44, .tup [])], []⟩) (by kernel_rfl)) Le.sub0) (by kernel_rfl) d25, (fun _ h => absurd h List.not_mem_nil)⟩)
  refine DE.share (fuel := 5) (L := #[true, true, true, true, true, true, true, true, true, true, false, false, false, false, false]) (σ := ⟨47, [(37, vb true), (38, .tup []), (43, .tup [])], []⟩) ?_ (fun d23 => ?_)
  exact DE.all [10] (by kernel_rfl) (by simp) (List.forall_mem_cons.2 ⟨DEs.mk (i := 10) (L' := #[true, true, true, true, true, true, true, true, true, true, true, false, false, false, false]) rfl (EStep.le (EStep.ofN2 tbok (σ' := ⟨47, [(44, .tup []), (37, vb true), (38, .tup []), (43, .tup [])], []⟩) (by kernel_rfl)) Le.sub0) (by kernel_rfl) d24, (fun _ h => absurd h List.not_mem_nil)⟩)
  refine DE.share (fuel := 6) (L := #[true, true, true, true, false, true, true, true, true, true, false, false, false, false, false]) (σ := ⟨47, [(0, vi aN), (37, vb true), (43, .tup [])], []⟩) ?_ (fun d22 => ?_)
  exact DE.all [4] (by kernel_rfl) (by simp) (List.forall_mem_cons.2 ⟨DEs.mk (i := 4) (L' := #[true, true, true, true, true, true, true, true, true, true, false, false, false, false, false]) rfl (EStep.le (EStep.ofN2 tbok (σ' := ⟨47, [(38, .tup []), (0, vi aN), (37, vb true), (43, .tup [])], []⟩) (by kernel_rfl)) Le.sub0) (by kernel_rfl) d23, (fun _ h => absurd h List.not_mem_nil)⟩)
  refine DE.share (fuel := 6) (L := #[true, true, true, true, true, true, true, true, true, false, false, false, false, false, false]) (σ := ⟨47, [(37, vb true), (38, .tup []), (40, .tup []), (42, .tup [])], []⟩) ?_ (fun d21 => ?_)
  exact DE.all [9] (by kernel_rfl) (by simp) (List.forall_mem_cons.2 ⟨DEs.mk (i := 9) (L' := #[true, true, true, true, true, true, true, true, true, true, false, false, false, false, false]) rfl (EStep.le (EStep.ofN2 tbok (σ' := ⟨47, [(43, .tup []), (37, vb true), (38, .tup []), (40, .tup []), (42, .tup [])], []⟩) (by kernel_rfl)) Le.sub0) (by kernel_rfl) d23, (fun _ h => absurd h List.not_mem_nil)⟩)
  refine DE.share (fuel := 7) (L := #[true, true, true, true, false, true, true, true, true, false, false, false, false, false, false]) (σ := ⟨47, [(0, vi aN), (37, vb true), (40, .tup []), (42, .tup [])], []⟩) ?_ (fun d20 => ?_)
  exact DE.all [4, 9] (by kernel_rfl) (by simp) (List.forall_mem_cons.2 ⟨DEs.mk (i := 4) (L' := #[true, true, true, true, true, true, true, true, true, false, false, false, false, false, false]) rfl (EStep.le (EStep.ofN2 tbok (σ' := ⟨47, [(38, .tup []), (0, vi aN), (37, vb true), (40, .tup []), (42, .tup [])], []⟩) (by kernel_rfl)) Le.sub0) (by kernel_rfl) d21, (List.forall_mem_cons.2 ⟨DEs.mk (i := 9) (L' := #[true, true, true, true, false, true, true, true, true, true, false, false, false, false, false]) rfl (EStep.le (EStep.ofN2 tbok (σ' := ⟨47, [(43, .tup []), (0, vi aN), (37, vb true), (40, .tup []), (42, .tup [])], []⟩) (by kernel_rfl)) Le.sub0) (by kernel_rfl) d22, (fun _ h => absurd h List.not_mem_nil)⟩)⟩)
  refine DE.share (fuel := 7) (L := #[true, true, true, true, true, true, false, true, true, false, false, false, false, false, false]) (σ := ⟨47, [(37, vb true), (38, .tup []), (39, .tup []), (42, .tup [])], []⟩) ?_ (fun d19 => ?_)
  exact DE.all [6] (by kernel_rfl) (by simp) (List.forall_mem_cons.2 ⟨DEs.mk (i := 6) (L' := #[true, true, true, true, true, true, true, true, true, false, false, false, false, false, false]) rfl (EStep.le (EStep.ofN2 tbok (σ' := ⟨47, [(40, .tup []), (37, vb true), (38, .tup []), (39, .tup []), (42, .tup [])], []⟩) (by kernel_rfl)) Le.sub0) (by kernel_rfl) d21, (fun _ h => absurd h List.not_mem_nil)⟩)
  refine DE.share (fuel := 7) (L := #[true, true, true, true, true, true, true, true, false, false, false, false, false, false, false]) (σ := ⟨47, [(37, vb true), (38, .tup []), (40, .tup []), (41, .tup [])], []⟩) ?_ (fun d18 => ?_)
  exact DE.all [8] (by kernel_rfl) (by simp) (List.forall_mem_cons.2 ⟨DEs.mk (i := 8) (L' := #[true, true, true, true, true, true, true, true, true, false, false, false, false, false, false]) rfl (EStep.le (EStep.ofN2 tbok (σ' := ⟨47, [(42, .tup []), (37, vb true), (38, .tup []), (40, .tup []), (41, .tup [])], []⟩) (by kernel_rfl)) Le.sub0) (by kernel_rfl) d21, (fun _ h => absurd h List.not_mem_nil)⟩)
  refine DE.share (fuel := 8) (L := #[true, true, true, true, false, true, false, true, true, false, false, false, false, false, false]) (σ := ⟨47, [(0, vi aN), (37, vb true), (39, .tup []), (42, .tup [])], []⟩) ?_ (fun d17 => ?_)
  exact DE.all [4, 6] (by kernel_rfl) (by simp) (List.forall_mem_cons.2 ⟨DEs.mk (i := 4) (L' := #[true, true, true, true, true, true, false, true, true, false, false, false, false, false, false]) rfl (EStep.le (EStep.ofN2 tbok (σ' := ⟨47, [(38, .tup []), (0, vi aN), (37, vb true), (39, .tup []), (42, .tup [])], []⟩) (by kernel_rfl)) Le.sub0) (by kernel_rfl) d19, (List.forall_mem_cons.2 ⟨DEs.mk (i := 6) (L' := #[true, true, true, true, false, true, true, true, true, false, false, false, false, false, false]) rfl (EStep.le (EStep.ofN2 tbok (σ' := ⟨47, [(40, .tup []), (0, vi aN), (37, vb true), (39, .tup []), (42, .tup [])], []⟩) (by kernel_rfl)) Le.sub0) (by kernel_rfl) d20, (fun _ h => absurd h List.not_mem_nil)⟩)⟩)
  refine DE.share (fuel := 8) (L := #[true, true, true, true, false, true, true, true, false, false, false, false, false, false, false]) (σ := ⟨47, [(0, vi aN), (37, vb true), (40, .tup []), (41, .tup [])], []⟩) ?_ (fun d16 => ?_)
  exact DE.all [4, 8] (by kernel_rfl) (by simp) (List.forall_mem_cons.2 ⟨DEs.mk (i := 4) (L' := #[true, true, true, true, true, true, true, true, false, false, false, false, false, false, false]) rfl (EStep.le (EStep.ofN2 tbok (σ' := ⟨47, [(38, .tup []), (0, vi aN), (37, vb true), (40, .tup []), (41, .tup [])], []⟩) (by kernel_rfl)) Le.sub0) (by kernel_rfl) d18, (List.forall_mem_cons.2 ⟨DEs.mk (i := 8) (L' := #[true, true, true, true, false, true, true, true, true, false, false, false, false, false, false]) rfl (EStep.le (EStep.ofN2 tbok (σ' := ⟨47, [(42, .tup []), (0, vi aN), (37, vb true), (40, .tup []), (41, .tup [])], []⟩) (by kernel_rfl)) Le.sub0) (by kernel_rfl) d20, (fun _ h => absurd h List.not_mem_nil)⟩)⟩)
  refine DE.share (fuel := 8) (L := #[true, true, true, true, true, false, false, true, true, false, false, false, false, false, false]) (σ := ⟨47, [(1, vl eTie aList), (37, vb true), (38, .tup []), (42, .tup [])], []⟩) ?_ (fun d15 => ?_)
  exact DE.all [5] (by kernel_rfl) (by simp) (List.forall_mem_cons.2 ⟨DEs.mk (i := 5) (L' := #[true, true, true, true, true, true, false, true, true, false, false, false, false, false, false]) rfl (EStep.le (EStep.ofN2 tbok (σ' := ⟨47, [(39, .tup []), (1, vl eTie aList), (37, vb true), (38, .tup []), (42, .tup [])], []⟩) (by kernel_rfl)) Le.sub0) (by kernel_rfl) d19, (fun _ h => absurd h List.not_mem_nil)⟩)
  refine DE.share (fuel := 8) (L := #[true, true, true, true, true, true, false, true, false, false, false, false, false, false, false]) (σ := ⟨47, [(37, vb true), (38, .tup []), (39, .tup []), (41, .tup [])], []⟩) ?_ (fun d14 => ?_)
  exact DE.all [6, 8] (by kernel_rfl) (by simp) (List.forall_mem_cons.2 ⟨DEs.mk (i := 6) (L' := #[true, true, true, true, true, true, true, true, false, false, false, false, false, false, false]) rfl (EStep.le (EStep.ofN2 tbok (σ' := ⟨47, [(40, .tup []), (37, vb true), (38, .tup []), (39, .tup []), (41, .tup [])], []⟩) (by kernel_rfl)) Le.sub0) (by kernel_rfl) d18, (List.forall_mem_cons.2 ⟨DEs.mk (i := 8) (L' := #[true, true, true, true, true, true, false, true, true, false, false, false, false, false, false]) rfl (EStep.le (EStep.ofN2 tbok (σ' := ⟨47, [(42, .tup []), (37, vb true), (38, .tup []), (39, .tup []), (41, .tup [])], []⟩) (by kernel_rfl)) Le.sub0) (by kernel_rfl) d19, (fun _ h => absurd h List.not_mem_nil)⟩)⟩)
  refine DE.share (fuel := 8) (L := #[true, true, true, true, true, true, true, false, false, false, false, false, false, false, false]) (σ := ⟨47, [(11, .ref 11 0), (37, vb true), (38, .tup []), (40, .tup [])], [(11, .box [vi (minI aA aB), vi (maxI aA aB), vb true, vs (ByteArray.mk #[])])]⟩) ?_ (fun d13 => ?_)
  exact DE.all [7] (by kernel_rfl) (by simp) (List.forall_mem_cons.2 ⟨DEs.mk (i := 7) (L' := #[true, true, true, true, true, true, true, true, false, false, false, false, false, false, false]) rfl (EStep.le (EStep.ofN2 tbok (σ' := ⟨47, [(41, .tup []), (11, .ref 11 0), (37, vb true), (38, .tup []), (40, .tup [])], [(11, .box [vi (minI aA aB), vi (maxI aA aB), vb true, vs (ByteArray.mk #[])])]⟩) (by kernel_rfl)) Le.sub0) (by kernel_rfl) d18, (fun _ h => absurd h List.not_mem_nil)⟩)
  refine DE.share (fuel := 9) (L := #[true, true, true, true, false, false, false, true, true, false, false, false, false, false, false]) (σ := ⟨47, [(0, vi aN), (1, vl eTie aList), (37, vb true), (42, .tup [])], []⟩) ?_ (fun d12 => ?_)
  exact DE.all [4, 5] (by kernel_rfl) (by simp) (List.forall_mem_cons.2 ⟨DEs.mk (i := 4) (L' := #[true, true, true, true, true, false, false, true, true, false, false, false, false, false, false]) rfl (EStep.le (EStep.ofN2 tbok (σ' := ⟨47, [(38, .tup []), (0, vi aN), (1, vl eTie aList), (37, vb true), (42, .tup [])], []⟩) (by kernel_rfl)) Le.sub0) (by kernel_rfl) d15, (List.forall_mem_cons.2 ⟨DEs.mk (i := 5) (L' := #[true, true, true, true, false, true, false, true, true, false, false, false, false, false, false]) rfl (EStep.le (EStep.ofN2 tbok (σ' := ⟨47, [(39, .tup []), (0, vi aN), (1, vl eTie aList), (37, vb true), (42, .tup [])], []⟩) (by kernel_rfl)) Le.sub0) (by kernel_rfl) d17, (fun _ h => absurd h List.not_mem_nil)⟩)⟩)
  refine DE.share (fuel := 9) (L := #[true, true, true, true, false, true, false, true, false, false, false, false, false, false, false]) (σ := ⟨47, [(0, vi aN), (37, vb true), (39, .tup []), (41, .tup [])], []⟩) ?_ (fun d11 => ?_)
  exact DE.all [4, 6, 8] (by kernel_rfl) (by simp) (List.forall_mem_cons.2 ⟨DEs.mk (i := 4) (L' := #[true, true, true, true, true, true, false, true, false, false, false, false, false, false, false]) rfl (EStep.le (EStep.ofN2 tbok (σ' := ⟨47, [(38, .tup []), (0, vi aN), (37, vb true), (39, .tup []), (41, .tup [])], []⟩) (by kernel_rfl)) Le.sub0) (by kernel_rfl) d14, (List.forall_mem_cons.2 ⟨DEs.mk (i := 6) (L' := #[true, true, true, true, false, true, true, true, false, false, false, false, false, false, false]) rfl (EStep.le (EStep.ofN2 tbok (σ' := ⟨47, [(40, .tup []), (0, vi aN), (37, vb true), (39, .tup []), (41, .tup [])], []⟩) (by kernel_rfl)) Le.sub0) (by kernel_rfl) d16, (List.forall_mem_cons.2 ⟨DEs.mk (i := 8) (L' := #[true, true, true, true, false, true, false, true, true, false, false, false, false, false, false]) rfl (EStep.le (EStep.ofN2 tbok (σ' := ⟨47, [(42, .tup []), (0, vi aN), (37, vb true), (39, .tup []), (41, .tup [])], []⟩) (by kernel_rfl)) Le.sub0) (by kernel_rfl) d17, (fun _ h => absurd h List.not_mem_nil)⟩)⟩)⟩)
  refine DE.share (fuel := 9) (L := #[true, true, true, true, false, true, true, false, false, false, false, false, false, false, false]) (σ := ⟨47, [(0, vi aN), (11, .ref 11 0), (37, vb true), (40, .tup [])], [(11, .box [vi (minI aA aB), vi (maxI aA aB), vb true, vs (ByteArray.mk #[])])]⟩) ?_ (fun d10 => ?_)
  exact DE.all [4, 7] (by kernel_rfl) (by simp) (List.forall_mem_cons.2 ⟨DEs.mk (i := 4) (L' := #[true, true, true, true, true, true, true, false, false, false, false, false, false, false, false]) rfl (EStep.le (EStep.ofN2 tbok (σ' := ⟨47, [(38, .tup []), (0, vi aN), (11, .ref 11 0), (37, vb true), (40, .tup [])], [(11, .box [vi (minI aA aB), vi (maxI aA aB), vb true, vs (ByteArray.mk #[])])]⟩) (by kernel_rfl)) Le.sub0) (by kernel_rfl) d13, (List.forall_mem_cons.2 ⟨DEs.mk (i := 7) (L' := #[true, true, true, true, false, true, true, true, false, false, false, false, false, false, false]) rfl (EStep.le (EStep.ofN2 tbok (σ' := ⟨47, [(41, .tup []), (0, vi aN), (11, .ref 11 0), (37, vb true), (40, .tup [])], [(11, .box [vi (minI aA aB), vi (maxI aA aB), vb true, vs (ByteArray.mk #[])])]⟩) (by kernel_rfl)) Le.sub0) (by kernel_rfl) d16, (fun _ h => absurd h List.not_mem_nil)⟩)⟩)
  refine DE.share (fuel := 9) (L := #[true, true, true, true, true, false, false, true, false, false, false, false, false, false, false]) (σ := ⟨47, [(1, vl eTie aList), (37, vb true), (38, .tup []), (41, .tup [])], []⟩) ?_ (fun d9 => ?_)
  exact DE.all [5, 8] (by kernel_rfl) (by simp) (List.forall_mem_cons.2 ⟨DEs.mk (i := 5) (L' := #[true, true, true, true, true, true, false, true, false, false, false, false, false, false, false]) rfl (EStep.le (EStep.ofN2 tbok (σ' := ⟨47, [(39, .tup []), (1, vl eTie aList), (37, vb true), (38, .tup []), (41, .tup [])], []⟩) (by kernel_rfl)) Le.sub0) (by kernel_rfl) d14, (List.forall_mem_cons.2 ⟨DEs.mk (i := 8) (L' := #[true, true, true, true, true, false, false, true, true, false, false, false, false, false, false]) rfl (EStep.le (EStep.ofN2 tbok (σ' := ⟨47, [(42, .tup []), (1, vl eTie aList), (37, vb true), (38, .tup []), (41, .tup [])], []⟩) (by kernel_rfl)) Le.sub0) (by kernel_rfl) d15, (fun _ h => absurd h List.not_mem_nil)⟩)⟩)
  refine DE.share (fuel := 9) (L := #[true, true, true, true, true, true, false, false, false, false, false, false, false, false, false]) (σ := ⟨47, [(11, .ref 11 0), (37, vb true), (38, .tup []), (39, .tup [])], [(11, .box [vi (minI aA aB), vi (maxI aA aB), vb true, vs (ByteArray.mk #[])])]⟩) ?_ (fun d8 => ?_)
  exact DE.all [6, 7] (by kernel_rfl) (by simp) (List.forall_mem_cons.2 ⟨DEs.mk (i := 6) (L' := #[true, true, true, true, true, true, true, false, false, false, false, false, false, false, false]) rfl (EStep.le (EStep.ofN2 tbok (σ' := ⟨47, [(40, .tup []), (11, .ref 11 0), (37, vb true), (38, .tup []), (39, .tup [])], [(11, .box [vi (minI aA aB), vi (maxI aA aB), vb true, vs (ByteArray.mk #[])])]⟩) (by kernel_rfl)) Le.sub0) (by kernel_rfl) d13, (List.forall_mem_cons.2 ⟨DEs.mk (i := 7) (L' := #[true, true, true, true, true, true, false, true, false, false, false, false, false, false, false]) rfl (EStep.le (EStep.ofN2 tbok (σ' := ⟨47, [(41, .tup []), (11, .ref 11 0), (37, vb true), (38, .tup []), (39, .tup [])], [(11, .box [vi (minI aA aB), vi (maxI aA aB), vb true, vs (ByteArray.mk #[])])]⟩) (by kernel_rfl)) Le.sub0) (by kernel_rfl) d14, (fun _ h => absurd h List.not_mem_nil)⟩)⟩)
  refine DE.share (fuel := 10) (L := #[true, true, true, true, false, false, false, true, false, false, false, false, false, false, false]) (σ := ⟨47, [(0, vi aN), (1, vl eTie aList), (37, vb true), (41, .tup [])], []⟩) ?_ (fun d7 => ?_)
  exact DE.all [4, 5, 8] (by kernel_rfl) (by simp) (List.forall_mem_cons.2 ⟨DEs.mk (i := 4) (L' := #[true, true, true, true, true, false, false, true, false, false, false, false, false, false, false]) rfl (EStep.le (EStep.ofN2 tbok (σ' := ⟨47, [(38, .tup []), (0, vi aN), (1, vl eTie aList), (37, vb true), (41, .tup [])], []⟩) (by kernel_rfl)) Le.sub0) (by kernel_rfl) d9, (List.forall_mem_cons.2 ⟨DEs.mk (i := 5) (L' := #[true, true, true, true, false, true, false, true, false, false, false, false, false, false, false]) rfl (EStep.le (EStep.ofN2 tbok (σ' := ⟨47, [(39, .tup []), (0, vi aN), (1, vl eTie aList), (37, vb true), (41, .tup [])], []⟩) (by kernel_rfl)) Le.sub0) (by kernel_rfl) d11, (List.forall_mem_cons.2 ⟨DEs.mk (i := 8) (L' := #[true, true, true, true, false, false, false, true, true, false, false, false, false, false, false]) rfl (EStep.le (EStep.ofN2 tbok (σ' := ⟨47, [(42, .tup []), (0, vi aN), (1, vl eTie aList), (37, vb true), (41, .tup [])], []⟩) (by kernel_rfl)) Le.sub0) (by kernel_rfl) d12, (fun _ h => absurd h List.not_mem_nil)⟩)⟩)⟩)
  refine DE.share (fuel := 10) (L := #[true, true, true, true, false, true, false, false, false, false, false, false, false, false, false]) (σ := ⟨47, [(0, vi aN), (11, .ref 11 0), (37, vb true), (39, .tup [])], [(11, .box [vi (minI aA aB), vi (maxI aA aB), vb true, vs (ByteArray.mk #[])])]⟩) ?_ (fun d6 => ?_)
  exact DE.all [4, 6, 7] (by kernel_rfl) (by simp) (List.forall_mem_cons.2 ⟨DEs.mk (i := 4) (L' := #[true, true, true, true, true, true, false, false, false, false, false, false, false, false, false]) rfl (EStep.le (EStep.ofN2 tbok (σ' := ⟨47, [(38, .tup []), (0, vi aN), (11, .ref 11 0), (37, vb true), (39, .tup [])], [(11, .box [vi (minI aA aB), vi (maxI aA aB), vb true, vs (ByteArray.mk #[])])]⟩) (by kernel_rfl)) Le.sub0) (by kernel_rfl) d8, (List.forall_mem_cons.2 ⟨DEs.mk (i := 6) (L' := #[true, true, true, true, false, true, true, false, false, false, false, false, false, false, false]) rfl (EStep.le (EStep.ofN2 tbok (σ' := ⟨47, [(40, .tup []), (0, vi aN), (11, .ref 11 0), (37, vb true), (39, .tup [])], [(11, .box [vi (minI aA aB), vi (maxI aA aB), vb true, vs (ByteArray.mk #[])])]⟩) (by kernel_rfl)) Le.sub0) (by kernel_rfl) d10, (List.forall_mem_cons.2 ⟨DEs.mk (i := 7) (L' := #[true, true, true, true, false, true, false, true, false, false, false, false, false, false, false]) rfl (EStep.le (EStep.ofN2 tbok (σ' := ⟨47, [(41, .tup []), (0, vi aN), (11, .ref 11 0), (37, vb true), (39, .tup [])], [(11, .box [vi (minI aA aB), vi (maxI aA aB), vb true, vs (ByteArray.mk #[])])]⟩) (by kernel_rfl)) Le.sub0) (by kernel_rfl) d11, (fun _ h => absurd h List.not_mem_nil)⟩)⟩)⟩)
  refine DE.share (fuel := 10) (L := #[true, true, true, true, true, false, false, false, false, false, false, false, false, false, false]) (σ := ⟨47, [(1, vl eTie aList), (11, .ref 11 0), (37, vb true), (38, .tup [])], [(11, .box [vi (minI aA aB), vi (maxI aA aB), vb true, vs (ByteArray.mk #[])])]⟩) ?_ (fun d5 => ?_)
  exact DE.all [5, 7] (by kernel_rfl) (by simp) (List.forall_mem_cons.2 ⟨DEs.mk (i := 5) (L' := #[true, true, true, true, true, true, false, false, false, false, false, false, false, false, false]) rfl (EStep.le (EStep.ofN2 tbok (σ' := ⟨47, [(39, .tup []), (1, vl eTie aList), (11, .ref 11 0), (37, vb true), (38, .tup [])], [(11, .box [vi (minI aA aB), vi (maxI aA aB), vb true, vs (ByteArray.mk #[])])]⟩) (by kernel_rfl)) Le.sub0) (by kernel_rfl) d8, (List.forall_mem_cons.2 ⟨DEs.mk (i := 7) (L' := #[true, true, true, true, true, false, false, true, false, false, false, false, false, false, false]) rfl (EStep.le (EStep.ofN2 tbok (σ' := ⟨47, [(41, .tup []), (1, vl eTie aList), (11, .ref 11 0), (37, vb true), (38, .tup [])], [(11, .box [vi (minI aA aB), vi (maxI aA aB), vb true, vs (ByteArray.mk #[])])]⟩) (by kernel_rfl)) Le.sub0) (by kernel_rfl) d9, (fun _ h => absurd h List.not_mem_nil)⟩)⟩)
  refine DE.share (fuel := 11) (L := #[true, true, true, true, false, false, false, false, false, false, false, false, false, false, false]) (σ := ⟨47, [(0, vi aN), (1, vl eTie aList), (11, .ref 11 0), (37, vb true)], [(11, .box [vi (minI aA aB), vi (maxI aA aB), vb true, vs (ByteArray.mk #[])])]⟩) ?_ (fun d4 => ?_)
  exact DE.all [4, 5, 7] (by kernel_rfl) (by simp) (List.forall_mem_cons.2 ⟨DEs.mk (i := 4) (L' := #[true, true, true, true, true, false, false, false, false, false, false, false, false, false, false]) rfl (EStep.le (EStep.ofN2 tbok (σ' := ⟨47, [(38, .tup []), (0, vi aN), (1, vl eTie aList), (11, .ref 11 0), (37, vb true)], [(11, .box [vi (minI aA aB), vi (maxI aA aB), vb true, vs (ByteArray.mk #[])])]⟩) (by kernel_rfl)) Le.sub0) (by kernel_rfl) d5, (List.forall_mem_cons.2 ⟨DEs.mk (i := 5) (L' := #[true, true, true, true, false, true, false, false, false, false, false, false, false, false, false]) rfl (EStep.le (EStep.ofN2 tbok (σ' := ⟨47, [(39, .tup []), (0, vi aN), (1, vl eTie aList), (11, .ref 11 0), (37, vb true)], [(11, .box [vi (minI aA aB), vi (maxI aA aB), vb true, vs (ByteArray.mk #[])])]⟩) (by kernel_rfl)) Le.sub0) (by kernel_rfl) d6, (List.forall_mem_cons.2 ⟨DEs.mk (i := 7) (L' := #[true, true, true, true, false, false, false, true, false, false, false, false, false, false, false]) rfl (EStep.le (EStep.ofN2 tbok (σ' := ⟨47, [(41, .tup []), (0, vi aN), (1, vl eTie aList), (11, .ref 11 0), (37, vb true)], [(11, .box [vi (minI aA aB), vi (maxI aA aB), vb true, vs (ByteArray.mk #[])])]⟩) (by kernel_rfl)) Le.sub0) (by kernel_rfl) d7, (fun _ h => absurd h List.not_mem_nil)⟩)⟩)⟩)
  refine DE.share (fuel := 12) (L := #[true, true, true, false, false, false, false, false, false, false, false, false, false, false, false]) (σ := ⟨47, [(0, vi aN), (1, vl eTie aList), (11, .ref 11 0), (36, vb true)], [(11, .box [vi (minI aA aB), vi (maxI aA aB), vb true, vs (ByteArray.mk #[])])]⟩) ?_ (fun d3 => ?_)
  exact DE.take (i := 3) (L' := #[true, true, true, true, false, false, false, false, false, false, false, false, false, false, false]) rfl (.inl rfl) rfl (by kernel_rfl) (by kernel_rfl) (by kernel_rfl) (EStep.le (EStep.ofN2 tbok (σ' := ⟨47, [(37, vb true), (0, vi aN), (1, vl eTie aList), (11, .ref 11 0), (36, vb true)], [(11, .box [vi (minI aA aB), vi (maxI aA aB), vb true, vs (ByteArray.mk #[])])]⟩) (by kernel_rfl)) Le.sub0) (by kernel_rfl) d4
  refine DE.share (fuel := 13) (L := #[true, true, false, false, false, false, false, false, false, false, false, false, false, false, false]) (σ := ⟨47, [(0, vi aN), (1, vl eTie aList), (11, .ref 11 0), (34, vi aA), (35, vi aB)], [(11, .box [vi (minI aA aB), vi (maxI aA aB), vb true, vs (ByteArray.mk #[])])]⟩) ?_ (fun d2 => ?_)
  exact DE.all [2] (by kernel_rfl) (by simp) (List.forall_mem_cons.2 ⟨DEs.mk (i := 2) (L' := #[true, true, true, false, false, false, false, false, false, false, false, false, false, false, false]) rfl (EStep.le (EStep.setb [(36, fun b => b)] hq0 (by kernel_rfl) (EStep.ofN2 tbok (σ' := ⟨47, [(36, vb (aA == aB)), (0, vi aN), (1, vl eTie aList), (11, .ref 11 0), (34, vi aA), (35, vi aB)], [(11, .box [vi (minI aA aB), vi (maxI aA aB), vb true, vs (ByteArray.mk #[])])]⟩) (by kernel_rfl))) Le.sub0) (by kernel_rfl) d3, (fun _ h => absurd h List.not_mem_nil)⟩)
  refine DE.share (fuel := 14) (L := #[true, false, false, false, false, false, false, false, false, false, false, false, false, false, false]) (σ := ⟨47, [(0, vi aN), (1, vl eTie aList), (3, vi aB), (11, .ref 11 0), (34, vi aA)], [(11, .box [vi (minI aA aB), vi (maxI aA aB), vb true, vs (ByteArray.mk #[])])]⟩) ?_ (fun d1 => ?_)
  exact DE.take (i := 1) (L' := #[true, true, false, false, false, false, false, false, false, false, false, false, false, false, false]) rfl (.inl rfl) rfl (by kernel_rfl) (by kernel_rfl) (by kernel_rfl) (EStep.le (EStep.ofN2 tbok (σ' := ⟨47, [(35, vi aB), (0, vi aN), (1, vl eTie aList), (3, vi aB), (11, .ref 11 0), (34, vi aA)], [(11, .box [vi (minI aA aB), vi (maxI aA aB), vb true, vs (ByteArray.mk #[])])]⟩) (by kernel_rfl)) Le.sub0) (by kernel_rfl) d2
  exact DE.take (i := 0) (L' := #[true, false, false, false, false, false, false, false, false, false, false, false, false, false, false]) rfl (.inl rfl) rfl (by kernel_rfl) (by kernel_rfl) (by kernel_rfl) (EStep.le (EStep.ofN2 tbok (σ' := ⟨47, [(34, vi aA), (0, vi aN), (1, vl eTie aList), (2, vi aA), (3, vi aB), (11, .ref 11 0), (33, .agg [vi (minI aA aB), vi (maxI aA aB), vb true, vs (ByteArray.mk #[])])], [(11, .box [vi (minI aA aB), vi (maxI aA aB), vb true, vs (ByteArray.mk #[])])]⟩) (by kernel_rfl)) Le.sub0) (by kernel_rfl) d1
  refine nx_n ?_
  refine swp_ret ?_
  replace h := Option.some.inj h
  subst h
  exact q_fr (fin2 (by kernel_rfl) (finV rfl SV.flat_of (holds_t (by kernel_rfl))) (finV rfl SV.flat_of (holds_t (by kernel_rfl))))
  replace h := cond_f hq0 h
  obtain ⟨x5, hx5, h⟩ := bind_some h
  obtain ⟨x6, hx6, h⟩ := bind_some h
  obtain ⟨x7, hx7, h⟩ := bind_some h
  refine swp_dr mixed ?_
  refine DGo.enum (σE := ⟨47, [(8, vb (decide (x7 < 0))), (9, vi 0)], []⟩) (n := 15) (L0 := #[false, false, false, false, false, false, false, false, false, false, false, false, false, false, false]) (by kernel_rfl) (by kernel_rfl) (fun K hk => ?_) ?_
  refine DE.share (fuel := 0) (L := #[true, true, true, true, true, true, true, true, true, true, true, true, true, true, true]) (σ := ⟨47, [(8, vb (decide (x7 < 0))), (9, vi 0)], []⟩) ?_ (fun d28 => ?_)
  exact DE.done (by kernel_rfl) hk
  refine DE.share (fuel := 1) (L := #[true, true, true, true, true, true, true, true, true, true, true, true, true, true, false]) (σ := ⟨47, [(8, vb (decide (x7 < 0)))], []⟩) ?_ (fun d27 => ?_)
  exact DE.take (i := 14) (L' := #[true, true, true, true, true, true, true, true, true, true, true, true, true, true, true]) rfl (.inr rfl) rfl (by kernel_rfl) (by kernel_rfl) (by kernel_rfl) (EStep.le (EStep.ofN2 tbok (σ' := ⟨47, [(9, vi 0), (8, vb (decide (x7 < 0)))], []⟩) (by kernel_rfl)) Le.sub0) (by kernel_rfl) d28
  refine DE.share (fuel := 2) (L := #[true, true, true, true, true, true, true, true, true, true, true, true, true, false, false]) (σ := ⟨47, [(46, vb (decide (x7 < 0)))], []⟩) ?_ (fun d26 => ?_)
  exact DE.take (i := 13) (L' := #[true, true, true, true, true, true, true, true, true, true, true, true, true, true, false]) rfl (.inr rfl) rfl (by kernel_rfl) (by kernel_rfl) (by kernel_rfl) (EStep.le (EStep.ofN2 tbok (σ' := ⟨47, [(8, vb (decide (x7 < 0))), (46, vb (decide (x7 < 0)))], []⟩) (by kernel_rfl)) Le.sub0) (by kernel_rfl) d27
  refine DE.share (fuel := 3) (L := #[true, true, true, true, true, true, true, true, true, true, true, true, false, false, false]) (σ := ⟨47, [(37, vb false), (45, vb (decide (x7 < 0)))], []⟩) ?_ (fun d25 => ?_)
  exact DE.all [12] (by kernel_rfl) (by simp) (List.forall_mem_cons.2 ⟨DEs.mk (i := 12) (L' := #[true, true, true, true, true, true, true, true, true, true, true, true, true, false, false]) rfl (EStep.le (EStep.ofN2 tbok (σ' := ⟨47, [(46, vb (decide (x7 < 0))), (37, vb false), (45, vb (decide (x7 < 0)))], []⟩) (by kernel_rfl)) Le.sub0) (by kernel_rfl) d26, (fun _ h => absurd h List.not_mem_nil)⟩)
  refine DE.share (fuel := 4) (L := #[true, true, true, true, true, true, true, true, true, true, true, false, false, false, false]) (σ := ⟨47, [(37, vb false), (44, vi x7)], []⟩) ?_ (fun d24 => ?_)
  exact DE.all [11] (by kernel_rfl) (by simp) (List.forall_mem_cons.2 ⟨DEs.mk (i := 11) (L' := #[true, true, true, true, true, true, true, true, true, true, true, true, false, false, false]) rfl (EStep.le (EStep.ofN2 tbok (σ' := ⟨47, [(45, vb (decide (x7 < 0))), (37, vb false), (44, vi x7)], []⟩) (by kernel_rfl)) Le.sub0) (by kernel_rfl) d25, (fun _ h => absurd h List.not_mem_nil)⟩)
  refine DE.share (fuel := 5) (L := #[true, true, true, true, true, true, true, true, true, true, false, false, false, false, false]) (σ := ⟨47, [(37, vb false), (38, vi aN), (43, .own 43)], [(43, .arr 42 4 x6.length (x6.map eTie))]⟩) ?_ (fun d23 => ?_)
  exact DE.all [10] (by kernel_rfl) (by simp) (List.forall_mem_cons.2 ⟨DEs.mk (i := 10) (L' := #[true, true, true, true, true, true, true, true, true, true, true, false, false, false, false]) rfl (EStep.le (EStep.ofL (x_lstep_call (f := 66) (caps := []) (xs := [vi aN, .own 43]) (ys := [vi aN, vl eTie x6]) (res := ⟨[.v (vi x7)], [], false⟩) (x := vi x7) (y := none) rfl ents66 (impl_refuted_run aN x6 _ hx7) rfl (by intro hc; cases hc)) (by kernel_rfl)) Le.sub0) (by kernel_rfl) d24, (fun _ h => absurd h List.not_mem_nil)⟩)
  refine DE.share (fuel := 6) (L := #[true, true, true, true, false, true, true, true, true, true, false, false, false, false, false]) (σ := ⟨47, [(0, vi aN), (37, vb false), (43, .own 43)], [(43, .arr 42 4 x6.length (x6.map eTie))]⟩) ?_ (fun d22 => ?_)
  exact DE.all [4] (by kernel_rfl) (by simp) (List.forall_mem_cons.2 ⟨DEs.mk (i := 4) (L' := #[true, true, true, true, true, true, true, true, true, true, false, false, false, false, false]) rfl (EStep.le (EStep.ofN2 tbok (σ' := ⟨47, [(38, vi aN), (0, vi aN), (37, vb false), (43, .own 43)], [(43, .arr 42 4 x6.length (x6.map eTie))]⟩) (by kernel_rfl)) Le.sub0) (by kernel_rfl) d23, (fun _ h => absurd h List.not_mem_nil)⟩)
  refine DE.share (fuel := 6) (L := #[true, true, true, true, true, true, true, true, true, false, false, false, false, false, false]) (σ := ⟨47, [(37, vb false), (38, vi aN), (40, .own 40), (42, .own 42)], [(40, .arr 42 4 x5.length (x5.map eTie)), (42, .arr 42 4 ([(Tie.mk (minI aA aB) (maxI aA aB) true (ByteArray.mk #[]))] : List Tie).length (([(Tie.mk (minI aA aB) (maxI aA aB) true (ByteArray.mk #[]))] : List Tie).map eTie))]⟩) ?_ (fun d21 => ?_)
  exact DE.all [9] (by kernel_rfl) (by simp) (List.forall_mem_cons.2 ⟨DEs.mk (i := 9) (L' := #[true, true, true, true, true, true, true, true, true, true, false, false, false, false, false]) rfl (EStep.le (x_append (f := eTie) (t := 25) (ti := ti25) (tj := ti42) (zs := [.int .i64 0, .int .i64 0, .bool false, .string (ByteArray.mk #[])]) (e := 42) (m := 4) (d := 40) (xv := .own 42) hx6 tbok rfl rfl rfl rfl (x_src_o (e := 42))) Le.sub0) (by kernel_rfl) d23, (fun _ h => absurd h List.not_mem_nil)⟩)
  refine DE.share (fuel := 7) (L := #[true, true, true, true, false, true, true, true, true, false, false, false, false, false, false]) (σ := ⟨47, [(0, vi aN), (37, vb false), (40, .own 40), (42, .own 42)], [(40, .arr 42 4 x5.length (x5.map eTie)), (42, .arr 42 4 ([(Tie.mk (minI aA aB) (maxI aA aB) true (ByteArray.mk #[]))] : List Tie).length (([(Tie.mk (minI aA aB) (maxI aA aB) true (ByteArray.mk #[]))] : List Tie).map eTie))]⟩) ?_ (fun d20 => ?_)
  exact DE.all [4, 9] (by kernel_rfl) (by simp) (List.forall_mem_cons.2 ⟨DEs.mk (i := 4) (L' := #[true, true, true, true, true, true, true, true, true, false, false, false, false, false, false]) rfl (EStep.le (EStep.ofN2 tbok (σ' := ⟨47, [(38, vi aN), (0, vi aN), (37, vb false), (40, .own 40), (42, .own 42)], [(40, .arr 42 4 x5.length (x5.map eTie)), (42, .arr 42 4 ([(Tie.mk (minI aA aB) (maxI aA aB) true (ByteArray.mk #[]))] : List Tie).length (([(Tie.mk (minI aA aB) (maxI aA aB) true (ByteArray.mk #[]))] : List Tie).map eTie))]⟩) (by kernel_rfl)) Le.sub0) (by kernel_rfl) d21, (List.forall_mem_cons.2 ⟨DEs.mk (i := 9) (L' := #[true, true, true, true, false, true, true, true, true, true, false, false, false, false, false]) rfl (EStep.le (x_append (f := eTie) (t := 25) (ti := ti25) (tj := ti42) (zs := [.int .i64 0, .int .i64 0, .bool false, .string (ByteArray.mk #[])]) (e := 42) (m := 4) (d := 40) (xv := .own 42) hx6 tbok rfl rfl rfl rfl (x_src_o (e := 42))) Le.sub0) (by kernel_rfl) d22, (fun _ h => absurd h List.not_mem_nil)⟩)⟩)
  refine DE.share (fuel := 7) (L := #[true, true, true, true, true, true, false, true, true, false, false, false, false, false, false]) (σ := ⟨47, [(37, vb false), (38, vi aN), (39, vl eTie aList), (42, .own 42)], [(42, .arr 42 4 ([(Tie.mk (minI aA aB) (maxI aA aB) true (ByteArray.mk #[]))] : List Tie).length (([(Tie.mk (minI aA aB) (maxI aA aB) true (ByteArray.mk #[]))] : List Tie).map eTie))]⟩) ?_ (fun d19 => ?_)
  exact DE.all [6] (by kernel_rfl) (by simp) (List.forall_mem_cons.2 ⟨DEs.mk (i := 6) (L' := #[true, true, true, true, true, true, true, true, true, false, false, false, false, false, false]) rfl (EStep.le (EStep.ofL (x_lstep_call (f := 69) (caps := []) (xs := [vl eTie aList]) (ys := [vl eTie aList]) (res := ⟨[.own 42 4 x5.length (x5.map eTie)], [], true⟩) (x := .own 40) (y := some (.arr 42 4 x5.length (x5.map eTie))) rfl ents69 (slices_Clone_Tie_run aList _ hx5) rfl (fun _ => rfl)) (by kernel_rfl)) Le.sub0) (by kernel_rfl) d21, (fun _ h => absurd h List.not_mem_nil)⟩)
  refine DE.share (fuel := 7) (L := #[true, true, true, true, true, true, true, true, false, false, false, false, false, false, false]) (σ := ⟨47, [(37, vb false), (38, vi aN), (40, .own 40), (41, .agg [vi (minI aA aB), vi (maxI aA aB), vb true, vs (ByteArray.mk #[])])], [(40, .arr 42 4 x5.length (x5.map eTie))]⟩) ?_ (fun d18 => ?_)
  exact DE.all [8] (by kernel_rfl) (by simp) (List.forall_mem_cons.2 ⟨DEs.mk (i := 8) (L' := #[true, true, true, true, true, true, true, true, true, false, false, false, false, false, false]) rfl (EStep.le (EStep.ofN2 tbok (σ' := ⟨47, [(42, .own 42), (37, vb false), (38, vi aN), (40, .own 40), (41, .agg [vi (minI aA aB), vi (maxI aA aB), vb true, vs (ByteArray.mk #[])])], [(42, .arr 42 4 ([(Tie.mk (minI aA aB) (maxI aA aB) true (ByteArray.mk #[]))] : List Tie).length (([(Tie.mk (minI aA aB) (maxI aA aB) true (ByteArray.mk #[]))] : List Tie).map eTie)), (40, .arr 42 4 x5.length (x5.map eTie))]⟩) (by kernel_rfl)) Le.sub0) (by kernel_rfl) d21, (fun _ h => absurd h List.not_mem_nil)⟩)
  refine DE.share (fuel := 8) (L := #[true, true, true, true, false, true, false, true, true, false, false, false, false, false, false]) (σ := ⟨47, [(0, vi aN), (37, vb false), (39, vl eTie aList), (42, .own 42)], [(42, .arr 42 4 ([(Tie.mk (minI aA aB) (maxI aA aB) true (ByteArray.mk #[]))] : List Tie).length (([(Tie.mk (minI aA aB) (maxI aA aB) true (ByteArray.mk #[]))] : List Tie).map eTie))]⟩) ?_ (fun d17 => ?_)
  exact DE.all [4, 6] (by kernel_rfl) (by simp) (List.forall_mem_cons.2 ⟨DEs.mk (i := 4) (L' := #[true, true, true, true, true, true, false, true, true, false, false, false, false, false, false]) rfl (EStep.le (EStep.ofN2 tbok (σ' := ⟨47, [(38, vi aN), (0, vi aN), (37, vb false), (39, vl eTie aList), (42, .own 42)], [(42, .arr 42 4 ([(Tie.mk (minI aA aB) (maxI aA aB) true (ByteArray.mk #[]))] : List Tie).length (([(Tie.mk (minI aA aB) (maxI aA aB) true (ByteArray.mk #[]))] : List Tie).map eTie))]⟩) (by kernel_rfl)) Le.sub0) (by kernel_rfl) d19, (List.forall_mem_cons.2 ⟨DEs.mk (i := 6) (L' := #[true, true, true, true, false, true, true, true, true, false, false, false, false, false, false]) rfl (EStep.le (EStep.ofL (x_lstep_call (f := 69) (caps := []) (xs := [vl eTie aList]) (ys := [vl eTie aList]) (res := ⟨[.own 42 4 x5.length (x5.map eTie)], [], true⟩) (x := .own 40) (y := some (.arr 42 4 x5.length (x5.map eTie))) rfl ents69 (slices_Clone_Tie_run aList _ hx5) rfl (fun _ => rfl)) (by kernel_rfl)) Le.sub0) (by kernel_rfl) d20, (fun _ h => absurd h List.not_mem_nil)⟩)⟩)
  refine DE.share (fuel := 8) (L := #[true, true, true, true, false, true, true, true, false, false, false, false, false, false, false]) (σ := ⟨47, [(0, vi aN), (37, vb false), (40, .own 40), (41, .agg [vi (minI aA aB), vi (maxI aA aB), vb true, vs (ByteArray.mk #[])])], [(40, .arr 42 4 x5.length (x5.map eTie))]⟩) ?_ (fun d16 => ?_)
  exact DE.all [4, 8] (by kernel_rfl) (by simp) (List.forall_mem_cons.2 ⟨DEs.mk (i := 4) (L' := #[true, true, true, true, true, true, true, true, false, false, false, false, false, false, false]) rfl (EStep.le (EStep.ofN2 tbok (σ' := ⟨47, [(38, vi aN), (0, vi aN), (37, vb false), (40, .own 40), (41, .agg [vi (minI aA aB), vi (maxI aA aB), vb true, vs (ByteArray.mk #[])])], [(40, .arr 42 4 x5.length (x5.map eTie))]⟩) (by kernel_rfl)) Le.sub0) (by kernel_rfl) d18, (List.forall_mem_cons.2 ⟨DEs.mk (i := 8) (L' := #[true, true, true, true, false, true, true, true, true, false, false, false, false, false, false]) rfl (EStep.le (EStep.ofN2 tbok (σ' := ⟨47, [(42, .own 42), (0, vi aN), (37, vb false), (40, .own 40), (41, .agg [vi (minI aA aB), vi (maxI aA aB), vb true, vs (ByteArray.mk #[])])], [(42, .arr 42 4 ([(Tie.mk (minI aA aB) (maxI aA aB) true (ByteArray.mk #[]))] : List Tie).length (([(Tie.mk (minI aA aB) (maxI aA aB) true (ByteArray.mk #[]))] : List Tie).map eTie)), (40, .arr 42 4 x5.length (x5.map eTie))]⟩) (by kernel_rfl)) Le.sub0) (by kernel_rfl) d20, (fun _ h => absurd h List.not_mem_nil)⟩)⟩)
  refine DE.share (fuel := 8) (L := #[true, true, true, true, true, false, false, true, true, false, false, false, false, false, false]) (σ := ⟨47, [(1, vl eTie aList), (37, vb false), (38, vi aN), (42, .own 42)], [(42, .arr 42 4 ([(Tie.mk (minI aA aB) (maxI aA aB) true (ByteArray.mk #[]))] : List Tie).length (([(Tie.mk (minI aA aB) (maxI aA aB) true (ByteArray.mk #[]))] : List Tie).map eTie))]⟩) ?_ (fun d15 => ?_)
  exact DE.all [5] (by kernel_rfl) (by simp) (List.forall_mem_cons.2 ⟨DEs.mk (i := 5) (L' := #[true, true, true, true, true, true, false, true, true, false, false, false, false, false, false]) rfl (EStep.le (EStep.ofN2 tbok (σ' := ⟨47, [(39, vl eTie aList), (1, vl eTie aList), (37, vb false), (38, vi aN), (42, .own 42)], [(42, .arr 42 4 ([(Tie.mk (minI aA aB) (maxI aA aB) true (ByteArray.mk #[]))] : List Tie).length (([(Tie.mk (minI aA aB) (maxI aA aB) true (ByteArray.mk #[]))] : List Tie).map eTie))]⟩) (by kernel_rfl)) Le.sub0) (by kernel_rfl) d19, (fun _ h => absurd h List.not_mem_nil)⟩)
  refine DE.share (fuel := 8) (L := #[true, true, true, true, true, true, false, true, false, false, false, false, false, false, false]) (σ := ⟨47, [(37, vb false), (38, vi aN), (39, vl eTie aList), (41, .agg [vi (minI aA aB), vi (maxI aA aB), vb true, vs (ByteArray.mk #[])])], []⟩) ?_ (fun d14 => ?_)
  exact DE.all [6, 8] (by kernel_rfl) (by simp) (List.forall_mem_cons.2 ⟨DEs.mk (i := 6) (L' := #[true, true, true, true, true, true, true, true, false, false, false, false, false, false, false]) rfl (EStep.le (EStep.ofL (x_lstep_call (f := 69) (caps := []) (xs := [vl eTie aList]) (ys := [vl eTie aList]) (res := ⟨[.own 42 4 x5.length (x5.map eTie)], [], true⟩) (x := .own 40) (y := some (.arr 42 4 x5.length (x5.map eTie))) rfl ents69 (slices_Clone_Tie_run aList _ hx5) rfl (fun _ => rfl)) (by kernel_rfl)) Le.sub0) (by kernel_rfl) d18, (List.forall_mem_cons.2 ⟨DEs.mk (i := 8) (L' := #[true, true, true, true, true, true, false, true, true, false, false, false, false, false, false]) rfl (EStep.le (EStep.ofN2 tbok (σ' := ⟨47, [(42, .own 42), (37, vb false), (38, vi aN), (39, vl eTie aList), (41, .agg [vi (minI aA aB), vi (maxI aA aB), vb true, vs (ByteArray.mk #[])])], [(42, .arr 42 4 ([(Tie.mk (minI aA aB) (maxI aA aB) true (ByteArray.mk #[]))] : List Tie).length (([(Tie.mk (minI aA aB) (maxI aA aB) true (ByteArray.mk #[]))] : List Tie).map eTie))]⟩) (by kernel_rfl)) Le.sub0) (by kernel_rfl) d19, (fun _ h => absurd h List.not_mem_nil)⟩)⟩)
  refine DE.share (fuel := 8) (L := #[true, true, true, true, true, true, true, false, false, false, false, false, false, false, false]) (σ := ⟨47, [(11, .ref 11 0), (37, vb false), (38, vi aN), (40, .own 40)], [(11, .box [vi (minI aA aB), vi (maxI aA aB), vb true, vs (ByteArray.mk #[])]), (40, .arr 42 4 x5.length (x5.map eTie))]⟩) ?_ (fun d13 => ?_)
  exact DE.all [7] (by kernel_rfl) (by simp) (List.forall_mem_cons.2 ⟨DEs.mk (i := 7) (L' := #[true, true, true, true, true, true, true, true, false, false, false, false, false, false, false]) rfl (EStep.le (EStep.ofN2 tbok (σ' := ⟨47, [(41, .agg [vi (minI aA aB), vi (maxI aA aB), vb true, vs (ByteArray.mk #[])]), (11, .ref 11 0), (37, vb false), (38, vi aN), (40, .own 40)], [(11, .box [vi (minI aA aB), vi (maxI aA aB), vb true, vs (ByteArray.mk #[])]), (40, .arr 42 4 x5.length (x5.map eTie))]⟩) (by kernel_rfl)) Le.sub0) (by kernel_rfl) d18, (fun _ h => absurd h List.not_mem_nil)⟩)
  refine DE.share (fuel := 9) (L := #[true, true, true, true, false, false, false, true, true, false, false, false, false, false, false]) (σ := ⟨47, [(0, vi aN), (1, vl eTie aList), (37, vb false), (42, .own 42)], [(42, .arr 42 4 ([(Tie.mk (minI aA aB) (maxI aA aB) true (ByteArray.mk #[]))] : List Tie).length (([(Tie.mk (minI aA aB) (maxI aA aB) true (ByteArray.mk #[]))] : List Tie).map eTie))]⟩) ?_ (fun d12 => ?_)
  exact DE.all [4, 5] (by kernel_rfl) (by simp) (List.forall_mem_cons.2 ⟨DEs.mk (i := 4) (L' := #[true, true, true, true, true, false, false, true, true, false, false, false, false, false, false]) rfl (EStep.le (EStep.ofN2 tbok (σ' := ⟨47, [(38, vi aN), (0, vi aN), (1, vl eTie aList), (37, vb false), (42, .own 42)], [(42, .arr 42 4 ([(Tie.mk (minI aA aB) (maxI aA aB) true (ByteArray.mk #[]))] : List Tie).length (([(Tie.mk (minI aA aB) (maxI aA aB) true (ByteArray.mk #[]))] : List Tie).map eTie))]⟩) (by kernel_rfl)) Le.sub0) (by kernel_rfl) d15, (List.forall_mem_cons.2 ⟨DEs.mk (i := 5) (L' := #[true, true, true, true, false, true, false, true, true, false, false, false, false, false, false]) rfl (EStep.le (EStep.ofN2 tbok (σ' := ⟨47, [(39, vl eTie aList), (0, vi aN), (1, vl eTie aList), (37, vb false), (42, .own 42)], [(42, .arr 42 4 ([(Tie.mk (minI aA aB) (maxI aA aB) true (ByteArray.mk #[]))] : List Tie).length (([(Tie.mk (minI aA aB) (maxI aA aB) true (ByteArray.mk #[]))] : List Tie).map eTie))]⟩) (by kernel_rfl)) Le.sub0) (by kernel_rfl) d17, (fun _ h => absurd h List.not_mem_nil)⟩)⟩)
  refine DE.share (fuel := 9) (L := #[true, true, true, true, false, true, false, true, false, false, false, false, false, false, false]) (σ := ⟨47, [(0, vi aN), (37, vb false), (39, vl eTie aList), (41, .agg [vi (minI aA aB), vi (maxI aA aB), vb true, vs (ByteArray.mk #[])])], []⟩) ?_ (fun d11 => ?_)
  exact DE.all [4, 6, 8] (by kernel_rfl) (by simp) (List.forall_mem_cons.2 ⟨DEs.mk (i := 4) (L' := #[true, true, true, true, true, true, false, true, false, false, false, false, false, false, false]) rfl (EStep.le (EStep.ofN2 tbok (σ' := ⟨47, [(38, vi aN), (0, vi aN), (37, vb false), (39, vl eTie aList), (41, .agg [vi (minI aA aB), vi (maxI aA aB), vb true, vs (ByteArray.mk #[])])], []⟩) (by kernel_rfl)) Le.sub0) (by kernel_rfl) d14, (List.forall_mem_cons.2 ⟨DEs.mk (i := 6) (L' := #[true, true, true, true, false, true, true, true, false, false, false, false, false, false, false]) rfl (EStep.le (EStep.ofL (x_lstep_call (f := 69) (caps := []) (xs := [vl eTie aList]) (ys := [vl eTie aList]) (res := ⟨[.own 42 4 x5.length (x5.map eTie)], [], true⟩) (x := .own 40) (y := some (.arr 42 4 x5.length (x5.map eTie))) rfl ents69 (slices_Clone_Tie_run aList _ hx5) rfl (fun _ => rfl)) (by kernel_rfl)) Le.sub0) (by kernel_rfl) d16, (List.forall_mem_cons.2 ⟨DEs.mk (i := 8) (L' := #[true, true, true, true, false, true, false, true, true, false, false, false, false, false, false]) rfl (EStep.le (EStep.ofN2 tbok (σ' := ⟨47, [(42, .own 42), (0, vi aN), (37, vb false), (39, vl eTie aList), (41, .agg [vi (minI aA aB), vi (maxI aA aB), vb true, vs (ByteArray.mk #[])])], [(42, .arr 42 4 ([(Tie.mk (minI aA aB) (maxI aA aB) true (ByteArray.mk #[]))] : List Tie).length (([(Tie.mk (minI aA aB) (maxI aA aB) true (ByteArray.mk #[]))] : List Tie).map eTie))]⟩) (by kernel_rfl)) Le.sub0) (by kernel_rfl) d17, (fun _ h => absurd h List.not_mem_nil)⟩)⟩)⟩)
  refine DE.share (fuel := 9) (L := #[true, true, true, true, false, true, true, false, false, false, false, false, false, false, false]) (σ := ⟨47, [(0, vi aN), (11, .ref 11 0), (37, vb false), (40, .own 40)], [(11, .box [vi (minI aA aB), vi (maxI aA aB), vb true, vs (ByteArray.mk #[])]), (40, .arr 42 4 x5.length (x5.map eTie))]⟩) ?_ (fun d10 => ?_)
  exact DE.all [4, 7] (by kernel_rfl) (by simp) (List.forall_mem_cons.2 ⟨DEs.mk (i := 4) (L' := #[true, true, true, true, true, true, true, false, false, false, false, false, false, false, false]) rfl (EStep.le (EStep.ofN2 tbok (σ' := ⟨47, [(38, vi aN), (0, vi aN), (11, .ref 11 0), (37, vb false), (40, .own 40)], [(11, .box [vi (minI aA aB), vi (maxI aA aB), vb true, vs (ByteArray.mk #[])]), (40, .arr 42 4 x5.length (x5.map eTie))]⟩) (by kernel_rfl)) Le.sub0) (by kernel_rfl) d13, (List.forall_mem_cons.2 ⟨DEs.mk (i := 7) (L' := #[true, true, true, true, false, true, true, true, false, false, false, false, false, false, false]) rfl (EStep.le (EStep.ofN2 tbok (σ' := ⟨47, [(41, .agg [vi (minI aA aB), vi (maxI aA aB), vb true, vs (ByteArray.mk #[])]), (0, vi aN), (11, .ref 11 0), (37, vb false), (40, .own 40)], [(11, .box [vi (minI aA aB), vi (maxI aA aB), vb true, vs (ByteArray.mk #[])]), (40, .arr 42 4 x5.length (x5.map eTie))]⟩) (by kernel_rfl)) Le.sub0) (by kernel_rfl) d16, (fun _ h => absurd h List.not_mem_nil)⟩)⟩)
  refine DE.share (fuel := 9) (L := #[true, true, true, true, true, false, false, true, false, false, false, false, false, false, false]) (σ := ⟨47, [(1, vl eTie aList), (37, vb false), (38, vi aN), (41, .agg [vi (minI aA aB), vi (maxI aA aB), vb true, vs (ByteArray.mk #[])])], []⟩) ?_ (fun d9 => ?_)
  exact DE.all [5, 8] (by kernel_rfl) (by simp) (List.forall_mem_cons.2 ⟨DEs.mk (i := 5) (L' := #[true, true, true, true, true, true, false, true, false, false, false, false, false, false, false]) rfl (EStep.le (EStep.ofN2 tbok (σ' := ⟨47, [(39, vl eTie aList), (1, vl eTie aList), (37, vb false), (38, vi aN), (41, .agg [vi (minI aA aB), vi (maxI aA aB), vb true, vs (ByteArray.mk #[])])], []⟩) (by kernel_rfl)) Le.sub0) (by kernel_rfl) d14, (List.forall_mem_cons.2 ⟨DEs.mk (i := 8) (L' := #[true, true, true, true, true, false, false, true, true, false, false, false, false, false, false]) rfl (EStep.le (EStep.ofN2 tbok (σ' := ⟨47, [(42, .own 42), (1, vl eTie aList), (37, vb false), (38, vi aN), (41, .agg [vi (minI aA aB), vi (maxI aA aB), vb true, vs (ByteArray.mk #[])])], [(42, .arr 42 4 ([(Tie.mk (minI aA aB) (maxI aA aB) true (ByteArray.mk #[]))] : List Tie).length (([(Tie.mk (minI aA aB) (maxI aA aB) true (ByteArray.mk #[]))] : List Tie).map eTie))]⟩) (by kernel_rfl)) Le.sub0) (by kernel_rfl) d15, (fun _ h => absurd h List.not_mem_nil)⟩)⟩)
  refine DE.share (fuel := 9) (L := #[true, true, true, true, true, true, false, false, false, false, false, false, false, false, false]) (σ := ⟨47, [(11, .ref 11 0), (37, vb false), (38, vi aN), (39, vl eTie aList)], [(11, .box [vi (minI aA aB), vi (maxI aA aB), vb true, vs (ByteArray.mk #[])])]⟩) ?_ (fun d8 => ?_)
  exact DE.all [6, 7] (by kernel_rfl) (by simp) (List.forall_mem_cons.2 ⟨DEs.mk (i := 6) (L' := #[true, true, true, true, true, true, true, false, false, false, false, false, false, false, false]) rfl (EStep.le (EStep.ofL (x_lstep_call (f := 69) (caps := []) (xs := [vl eTie aList]) (ys := [vl eTie aList]) (res := ⟨[.own 42 4 x5.length (x5.map eTie)], [], true⟩) (x := .own 40) (y := some (.arr 42 4 x5.length (x5.map eTie))) rfl ents69 (slices_Clone_Tie_run aList _ hx5) rfl (fun _ => rfl)) (by kernel_rfl)) Le.sub0) (by kernel_rfl) d13, (List.forall_mem_cons.2 ⟨DEs.mk (i := 7) (L' := #[true, true, true, true, true, true, false, true, false, false, false, false, false, false, false]) rfl (EStep.le (EStep.ofN2 tbok (σ' := ⟨47, [(41, .agg [vi (minI aA aB), vi (maxI aA aB), vb true, vs (ByteArray.mk #[])]), (11, .ref 11 0), (37, vb false), (38, vi aN), (39, vl eTie aList)], [(11, .box [vi (minI aA aB), vi (maxI aA aB), vb true, vs (ByteArray.mk #[])])]⟩) (by kernel_rfl)) Le.sub0) (by kernel_rfl) d14, (fun _ h => absurd h List.not_mem_nil)⟩)⟩)
  refine DE.share (fuel := 10) (L := #[true, true, true, true, false, false, false, true, false, false, false, false, false, false, false]) (σ := ⟨47, [(0, vi aN), (1, vl eTie aList), (37, vb false), (41, .agg [vi (minI aA aB), vi (maxI aA aB), vb true, vs (ByteArray.mk #[])])], []⟩) ?_ (fun d7 => ?_)
  exact DE.all [4, 5, 8] (by kernel_rfl) (by simp) (List.forall_mem_cons.2 ⟨DEs.mk (i := 4) (L' := #[true, true, true, true, true, false, false, true, false, false, false, false, false, false, false]) rfl (EStep.le (EStep.ofN2 tbok (σ' := ⟨47, [(38, vi aN), (0, vi aN), (1, vl eTie aList), (37, vb false), (41, .agg [vi (minI aA aB), vi (maxI aA aB), vb true, vs (ByteArray.mk #[])])], []⟩) (by kernel_rfl)) Le.sub0) (by kernel_rfl) d9, (List.forall_mem_cons.2 ⟨DEs.mk (i := 5) (L' := #[true, true, true, true, false, true, false, true, false, false, false, false, false, false, false]) rfl (EStep.le (EStep.ofN2 tbok (σ' := ⟨47, [(39, vl eTie aList), (0, vi aN), (1, vl eTie aList), (37, vb false), (41, .agg [vi (minI aA aB), vi (maxI aA aB), vb true, vs (ByteArray.mk #[])])], []⟩) (by kernel_rfl)) Le.sub0) (by kernel_rfl) d11, (List.forall_mem_cons.2 ⟨DEs.mk (i := 8) (L' := #[true, true, true, true, false, false, false, true, true, false, false, false, false, false, false]) rfl (EStep.le (EStep.ofN2 tbok (σ' := ⟨47, [(42, .own 42), (0, vi aN), (1, vl eTie aList), (37, vb false), (41, .agg [vi (minI aA aB), vi (maxI aA aB), vb true, vs (ByteArray.mk #[])])], [(42, .arr 42 4 ([(Tie.mk (minI aA aB) (maxI aA aB) true (ByteArray.mk #[]))] : List Tie).length (([(Tie.mk (minI aA aB) (maxI aA aB) true (ByteArray.mk #[]))] : List Tie).map eTie))]⟩) (by kernel_rfl)) Le.sub0) (by kernel_rfl) d12, (fun _ h => absurd h List.not_mem_nil)⟩)⟩)⟩)
  refine DE.share (fuel := 10) (L := #[true, true, true, true, false, true, false, false, false, false, false, false, false, false, false]) (σ := ⟨47, [(0, vi aN), (11, .ref 11 0), (37, vb false), (39, vl eTie aList)], [(11, .box [vi (minI aA aB), vi (maxI aA aB), vb true, vs (ByteArray.mk #[])])]⟩) ?_ (fun d6 => ?_)
  exact DE.all [4, 6, 7] (by kernel_rfl) (by simp) (List.forall_mem_cons.2 ⟨DEs.mk (i := 4) (L' := #[true, true, true, true, true, true, false, false, false, false, false, false, false, false, false]) rfl (EStep.le (EStep.ofN2 tbok (σ' := ⟨47, [(38, vi aN), (0, vi aN), (11, .ref 11 0), (37, vb false), (39, vl eTie aList)], [(11, .box [vi (minI aA aB), vi (maxI aA aB), vb true, vs (ByteArray.mk #[])])]⟩) (by kernel_rfl)) Le.sub0) (by kernel_rfl) d8, (List.forall_mem_cons.2 ⟨DEs.mk (i := 6) (L' := #[true, true, true, true, false, true, true, false, false, false, false, false, false, false, false]) rfl (EStep.le (EStep.ofL (x_lstep_call (f := 69) (caps := []) (xs := [vl eTie aList]) (ys := [vl eTie aList]) (res := ⟨[.own 42 4 x5.length (x5.map eTie)], [], true⟩) (x := .own 40) (y := some (.arr 42 4 x5.length (x5.map eTie))) rfl ents69 (slices_Clone_Tie_run aList _ hx5) rfl (fun _ => rfl)) (by kernel_rfl)) Le.sub0) (by kernel_rfl) d10, (List.forall_mem_cons.2 ⟨DEs.mk (i := 7) (L' := #[true, true, true, true, false, true, false, true, false, false, false, false, false, false, false]) rfl (EStep.le (EStep.ofN2 tbok (σ' := ⟨47, [(41, .agg [vi (minI aA aB), vi (maxI aA aB), vb true, vs (ByteArray.mk #[])]), (0, vi aN), (11, .ref 11 0), (37, vb false), (39, vl eTie aList)], [(11, .box [vi (minI aA aB), vi (maxI aA aB), vb true, vs (ByteArray.mk #[])])]⟩) (by kernel_rfl)) Le.sub0) (by kernel_rfl) d11, (fun _ h => absurd h List.not_mem_nil)⟩)⟩)⟩)
  refine DE.share (fuel := 10) (L := #[true, true, true, true, true, false, false, false, false, false, false, false, false, false, false]) (σ := ⟨47, [(1, vl eTie aList), (11, .ref 11 0), (37, vb false), (38, vi aN)], [(11, .box [vi (minI aA aB), vi (maxI aA aB), vb true, vs (ByteArray.mk #[])])]⟩) ?_ (fun d5 => ?_)
  exact DE.all [5, 7] (by kernel_rfl) (by simp) (List.forall_mem_cons.2 ⟨DEs.mk (i := 5) (L' := #[true, true, true, true, true, true, false, false, false, false, false, false, false, false, false]) rfl (EStep.le (EStep.ofN2 tbok (σ' := ⟨47, [(39, vl eTie aList), (1, vl eTie aList), (11, .ref 11 0), (37, vb false), (38, vi aN)], [(11, .box [vi (minI aA aB), vi (maxI aA aB), vb true, vs (ByteArray.mk #[])])]⟩) (by kernel_rfl)) Le.sub0) (by kernel_rfl) d8, (List.forall_mem_cons.2 ⟨DEs.mk (i := 7) (L' := #[true, true, true, true, true, false, false, true, false, false, false, false, false, false, false]) rfl (EStep.le (EStep.ofN2 tbok (σ' := ⟨47, [(41, .agg [vi (minI aA aB), vi (maxI aA aB), vb true, vs (ByteArray.mk #[])]), (1, vl eTie aList), (11, .ref 11 0), (37, vb false), (38, vi aN)], [(11, .box [vi (minI aA aB), vi (maxI aA aB), vb true, vs (ByteArray.mk #[])])]⟩) (by kernel_rfl)) Le.sub0) (by kernel_rfl) d9, (fun _ h => absurd h List.not_mem_nil)⟩)⟩)
  refine DE.share (fuel := 11) (L := #[true, true, true, true, false, false, false, false, false, false, false, false, false, false, false]) (σ := ⟨47, [(0, vi aN), (1, vl eTie aList), (11, .ref 11 0), (37, vb false)], [(11, .box [vi (minI aA aB), vi (maxI aA aB), vb true, vs (ByteArray.mk #[])])]⟩) ?_ (fun d4 => ?_)
  exact DE.all [4, 5, 7] (by kernel_rfl) (by simp) (List.forall_mem_cons.2 ⟨DEs.mk (i := 4) (L' := #[true, true, true, true, true, false, false, false, false, false, false, false, false, false, false]) rfl (EStep.le (EStep.ofN2 tbok (σ' := ⟨47, [(38, vi aN), (0, vi aN), (1, vl eTie aList), (11, .ref 11 0), (37, vb false)], [(11, .box [vi (minI aA aB), vi (maxI aA aB), vb true, vs (ByteArray.mk #[])])]⟩) (by kernel_rfl)) Le.sub0) (by kernel_rfl) d5, (List.forall_mem_cons.2 ⟨DEs.mk (i := 5) (L' := #[true, true, true, true, false, true, false, false, false, false, false, false, false, false, false]) rfl (EStep.le (EStep.ofN2 tbok (σ' := ⟨47, [(39, vl eTie aList), (0, vi aN), (1, vl eTie aList), (11, .ref 11 0), (37, vb false)], [(11, .box [vi (minI aA aB), vi (maxI aA aB), vb true, vs (ByteArray.mk #[])])]⟩) (by kernel_rfl)) Le.sub0) (by kernel_rfl) d6, (List.forall_mem_cons.2 ⟨DEs.mk (i := 7) (L' := #[true, true, true, true, false, false, false, true, false, false, false, false, false, false, false]) rfl (EStep.le (EStep.ofN2 tbok (σ' := ⟨47, [(41, .agg [vi (minI aA aB), vi (maxI aA aB), vb true, vs (ByteArray.mk #[])]), (0, vi aN), (1, vl eTie aList), (11, .ref 11 0), (37, vb false)], [(11, .box [vi (minI aA aB), vi (maxI aA aB), vb true, vs (ByteArray.mk #[])])]⟩) (by kernel_rfl)) Le.sub0) (by kernel_rfl) d7, (fun _ h => absurd h List.not_mem_nil)⟩)⟩)⟩)
  refine DE.share (fuel := 12) (L := #[true, true, true, false, false, false, false, false, false, false, false, false, false, false, false]) (σ := ⟨47, [(0, vi aN), (1, vl eTie aList), (11, .ref 11 0), (36, vb false)], [(11, .box [vi (minI aA aB), vi (maxI aA aB), vb true, vs (ByteArray.mk #[])])]⟩) ?_ (fun d3 => ?_)
  exact DE.take (i := 3) (L' := #[true, true, true, true, false, false, false, false, false, false, false, false, false, false, false]) rfl (.inl rfl) rfl (by kernel_rfl) (by kernel_rfl) (by kernel_rfl) (EStep.le (EStep.ofN2 tbok (σ' := ⟨47, [(37, vb false), (0, vi aN), (1, vl eTie aList), (11, .ref 11 0), (36, vb false)], [(11, .box [vi (minI aA aB), vi (maxI aA aB), vb true, vs (ByteArray.mk #[])])]⟩) (by kernel_rfl)) Le.sub0) (by kernel_rfl) d4
  refine DE.share (fuel := 13) (L := #[true, true, false, false, false, false, false, false, false, false, false, false, false, false, false]) (σ := ⟨47, [(0, vi aN), (1, vl eTie aList), (11, .ref 11 0), (34, vi aA), (35, vi aB)], [(11, .box [vi (minI aA aB), vi (maxI aA aB), vb true, vs (ByteArray.mk #[])])]⟩) ?_ (fun d2 => ?_)
  exact DE.all [2] (by kernel_rfl) (by simp) (List.forall_mem_cons.2 ⟨DEs.mk (i := 2) (L' := #[true, true, true, false, false, false, false, false, false, false, false, false, false, false, false]) rfl (EStep.le (EStep.setb [(36, fun b => b)] hq0 (by kernel_rfl) (EStep.ofN2 tbok (σ' := ⟨47, [(36, vb (aA == aB)), (0, vi aN), (1, vl eTie aList), (11, .ref 11 0), (34, vi aA), (35, vi aB)], [(11, .box [vi (minI aA aB), vi (maxI aA aB), vb true, vs (ByteArray.mk #[])])]⟩) (by kernel_rfl))) Le.sub0) (by kernel_rfl) d3, (fun _ h => absurd h List.not_mem_nil)⟩)
  refine DE.share (fuel := 14) (L := #[true, false, false, false, false, false, false, false, false, false, false, false, false, false, false]) (σ := ⟨47, [(0, vi aN), (1, vl eTie aList), (3, vi aB), (11, .ref 11 0), (34, vi aA)], [(11, .box [vi (minI aA aB), vi (maxI aA aB), vb true, vs (ByteArray.mk #[])])]⟩) ?_ (fun d1 => ?_)
  exact DE.take (i := 1) (L' := #[true, true, false, false, false, false, false, false, false, false, false, false, false, false, false]) rfl (.inl rfl) rfl (by kernel_rfl) (by kernel_rfl) (by kernel_rfl) (EStep.le (EStep.ofN2 tbok (σ' := ⟨47, [(35, vi aB), (0, vi aN), (1, vl eTie aList), (3, vi aB), (11, .ref 11 0), (34, vi aA)], [(11, .box [vi (minI aA aB), vi (maxI aA aB), vb true, vs (ByteArray.mk #[])])]⟩) (by kernel_rfl)) Le.sub0) (by kernel_rfl) d2
  exact DE.take (i := 0) (L' := #[true, false, false, false, false, false, false, false, false, false, false, false, false, false, false]) rfl (.inl rfl) rfl (by kernel_rfl) (by kernel_rfl) (by kernel_rfl) (EStep.le (EStep.ofN2 tbok (σ' := ⟨47, [(34, vi aA), (0, vi aN), (1, vl eTie aList), (2, vi aA), (3, vi aB), (11, .ref 11 0), (33, .agg [vi (minI aA aB), vi (maxI aA aB), vb true, vs (ByteArray.mk #[])])], [(11, .box [vi (minI aA aB), vi (maxI aA aB), vb true, vs (ByteArray.mk #[])])]⟩) (by kernel_rfl)) Le.sub0) (by kernel_rfl) d1
  refine nx_n ?_
  refine swp_ret ?_
  replace h := Option.some.inj h
  subst h
  exact q_fr (fin2 (by kernel_rfl) (finV rfl SV.flat_of (holds_t (by kernel_rfl))) (finV rfl SV.flat_of (holds_t (by kernel_rfl))))
theorem ents26 : Ents Tryd.prog 26 := ents_of Tryd.func26 (by kernel_rfl) rfl
noncomputable def spec_l31Wrong (aN : Int) (aList : (List Tie)) : Option (Int) :=
  (((forN (aList.length : Int) (fun (i3 : Int) (_ : Unit) => ((((at' aList i3).bind fun x7 => (bif (!x7.Same) then ((at' aList i3).bind fun x8 => ((spec_l31Group aN aList x8.A).bind fun x9 => ((at' aList i3).bind fun x10 => ((spec_l01Has x9 x10.B).bind fun x11 => some x11)))) else some false))).bind fun (j12 : Bool) => (bif j12 then some (.inr (.inr i3)) else some (.inl ())))) (fun (_ : Unit) => .inl ()) 0 ())).bind (Sum.elim (fun (_ : Unit) => some (-1)) some))
set_option maxRecDepth 100000 in
set_option maxHeartbeats 4000000 in
theorem spec_l31Wrong_run (aN : Int) (aList : (List Tie)) (r : Int) (h : spec_l31Wrong aN aList = some r) : SCall Tryd.prog 65 [.v (vi aN), .v (vl eTie aList)] ⟨[.v (vi r)], [], false⟩ := by
  refine scall_in Tryd.func65 rfl [(.tmp 4)] rfl (fun r => ⟨[.v (vi r)], [], false⟩) (r := r) ?_
  unfold spec_l31Wrong at h
  refine swp_seq ?_
  refine swp_reg ?_
  refine SRun.ck tbok 1 ⟨35, [(0, vi aN), (1, vl eTie aList)], []⟩ ?_
  refine SRun.nil ?_
  refine nx_n ?_
  refine swp_seq ?_
  refine swp_seq ?_
  refine swp_reg ?_
  refine SRun.ck tbok 1 ⟨35, [(0, vi aN), (1, vl eTie aList), (5, vi 0)], []⟩ ?_
  refine SRun.nil ?_
  refine nx_n ?_
  refine swp_seqE (r := r) h (fun j1 => ⟨35, [], []⟩) (fun v2 h => ?_) (fun j1 h => ?_)
  refine swp_blk (a := v2) ?_
  refine swp_lpL (r := v2) (s := (0, ())) _ (fun s3 => ⟨35, [(0, vi aN), (1, vl eTie aList), (5, vi s3.1)], []⟩) _ (Le.sub0) h (fun s3 v4 h => ?_)
  refine swp_seq ?_
  refine swp_seq ?_
  refine swp_reg ?_
  refine SRun.ck tbok 4 ⟨35, [(0, vi aN), (1, vl eTie aList), (5, vi s3.1), (9, vb (decide (s3.1 < (aList.length : Int))))], []⟩ ?_
  refine SRun.nil ?_
  refine nx_n ?_
  refine swp_cond (b := (decide (s3.1 < (aList.length : Int)))) (by kernel_rfl) (fun hb => ?_) (fun hb => ?_)
  replace h := cond_t hb h
  refine swp_skip ?_
  refine nx_n ?_
  refine swp_seq ?_
  refine swp_seqL (r := v4) h (fun j5 => ⟨35, [(0, vi aN), (1, vl eTie aList), (5, vi s3.1)], []⟩) (fun v6 h => ?_) (fun j5 h => ?_)
  refine swp_blk (a := v6) ?_
  refine swp_seq ?_
  refine swp_drJ mixed h (fun j12 => ⟨35, [(0, vi aN), (1, vl eTie aList), (5, vi s3.1), (33, vb j12)], []⟩) (fun v13 h => ?_) (fun j12 h => ?_)
  refine DGo.chunk' tbok 2 (σ' := ⟨35, [(13, vi s3.1), (12, vl eTie aList), (0, vi aN), (1, vl eTie aList), (5, vi s3.1), (9, vb (decide (s3.1 < (aList.length : Int))))], []⟩) (by kernel_rfl) ?_
  obtain ⟨x7, hx7, h⟩ := bind_some h
  refine DGo.step (x_index (L := aList) (f := eTie) (ti := ti25) (tj := ti42) (e := 42) (k := .i64) tbok rfl hx7) ?_
  refine DGo.chunk' tbok 4 (σ' := ⟨35, [(18, vb (!x7.Same)), (17, vb (!x7.Same)), (16, vb x7.Same), (15, .ptr ((eTie x7).map .tr) 2), (14, .ptr ((eTie x7).map .tr) 0), (13, vi s3.1), (12, vl eTie aList), (0, vi aN), (1, vl eTie aList), (5, vi s3.1), (9, vb (decide (s3.1 < (aList.length : Int))))], []⟩) (by kernel_rfl) ?_
  refine DGo.cut [(18, fun b => b), (17, fun b => b)] (b := (!x7.Same)) (by kernel_rfl) (fun hb => ?_) (fun hb => ?_)
  replace h := cond_t hb h
  refine DGo.chunk' tbok 4 (σ' := ⟨35, [(22, vi s3.1), (21, vl eTie aList), (20, vl eTie aList), (19, vi aN), (18, vb true), (17, vb true), (16, vb x7.Same), (15, .ptr ((eTie x7).map .tr) 2), (14, .ptr ((eTie x7).map .tr) 0), (13, vi s3.1), (12, vl eTie aList), (0, vi aN), (1, vl eTie aList), (5, vi s3.1), (9, vb (decide (s3.1 < (aList.length : Int))))], []⟩) (by kernel_rfl) ?_
  obtain ⟨x8, hx8, h⟩ := bind_some h
  refine DGo.step (x_index (L := aList) (f := eTie) (ti := ti25) (tj := ti42) (e := 42) (k := .i64) tbok rfl hx8) ?_
  refine DGo.chunk' tbok 2 (σ' := ⟨35, [(25, vi x8.A), (24, .ptr ((eTie x8).map .tr) 0), (23, .ptr ((eTie x8).map .tr) 0), (22, vi s3.1), (21, vl eTie aList), (20, vl eTie aList), (19, vi aN), (18, vb true), (17, vb true), (16, vb x7.Same), (15, .ptr ((eTie x7).map .tr) 2), (14, .ptr ((eTie x7).map .tr) 0), (13, vi s3.1), (12, vl eTie aList), (0, vi aN), (1, vl eTie aList), (5, vi s3.1), (9, vb (decide (s3.1 < (aList.length : Int))))], []⟩) (by kernel_rfl) ?_
  obtain ⟨x9, hx9, h⟩ := bind_some h
  refine DGo.step (x_lstep_call (f := 75) (caps := []) (xs := [vi aN, vl eTie aList, vi x8.A]) (ys := [vi aN, vl eTie aList, vi x8.A]) (res := ⟨[.own 2 1 x9.length (x9.map (eI .i64))], [], false⟩) (x := .own 26) (y := some (.arr 2 1 x9.length (x9.map (eI .i64)))) rfl ents75 (spec_l31Group_run aN aList x8.A _ hx9) rfl (by intro hc; cases hc)) ?_
  refine DGo.chunk' tbok 2 (σ' := ⟨35, [(28, vi s3.1), (27, vl eTie aList), (26, .own 26), (25, vi x8.A), (24, .ptr ((eTie x8).map .tr) 0), (23, .ptr ((eTie x8).map .tr) 0), (22, vi s3.1), (21, vl eTie aList), (20, vl eTie aList), (19, vi aN), (18, vb true), (17, vb true), (16, vb x7.Same), (15, .ptr ((eTie x7).map .tr) 2), (14, .ptr ((eTie x7).map .tr) 0), (13, vi s3.1), (12, vl eTie aList), (0, vi aN), (1, vl eTie aList), (5, vi s3.1), (9, vb (decide (s3.1 < (aList.length : Int))))], [(26, .arr 2 1 x9.length (x9.map (eI .i64)))]⟩) (by kernel_rfl) ?_
  obtain ⟨x10, hx10, h⟩ := bind_some h
  refine DGo.step (x_index (L := aList) (f := eTie) (ti := ti25) (tj := ti42) (e := 42) (k := .i64) tbok rfl hx10) ?_
  refine DGo.chunk' tbok 2 (σ' := ⟨35, [(31, vi x10.B), (30, .ptr ((eTie x10).map .tr) 1), (29, .ptr ((eTie x10).map .tr) 0), (28, vi s3.1), (27, vl eTie aList), (26, .own 26), (25, vi x8.A), (24, .ptr ((eTie x8).map .tr) 0), (23, .ptr ((eTie x8).map .tr) 0), (22, vi s3.1), (21, vl eTie aList), (20, vl eTie aList), (19, vi aN), (18, vb true), (17, vb true), (16, vb x7.Same), (15, .ptr ((eTie x7).map .tr) 2), (14, .ptr ((eTie x7).map .tr) 0), (13, vi s3.1), (12, vl eTie aList), (0, vi aN), (1, vl eTie aList), (5, vi s3.1), (9, vb (decide (s3.1 < (aList.length : Int))))], [(26, .arr 2 1 x9.length (x9.map (eI .i64)))]⟩) (by kernel_rfl) ?_
  refine DGo.seq (by kernel_rfl) (by kernel_rfl) ?_
  obtain ⟨x11, hx11, h⟩ := bind_some h
  refine SRun.ls (x_lstep_call (f := 74) (caps := []) (xs := [.own 26, vi x10.B]) (ys := [vl (eI .i64) x9, vi x10.B]) (res := ⟨[.v (vb x11)], [], false⟩) (x := vb x11) (y := none) rfl ents74 (spec_l01Has_run x9 x10.B _ hx11) rfl (by intro hc; cases hc)) ?_
  refine SRun.ck tbok 1 ⟨35, [(0, vi aN), (1, vl eTie aList), (5, vi s3.1), (33, vb x11)], []⟩ ?_
  refine SRun.nil ?_
  replace h := Option.some.inj h
  subst h
  exact Le.sub0
  replace h := cond_f hb h
  refine DGo.chunk' tbok 15 (σ' := ⟨35, [(33, vb false), (32, .tup []), (31, .tup []), (30, .tup []), (29, .tup []), (28, .tup []), (27, .tup []), (26, .tup []), (25, .tup []), (24, .tup []), (23, .tup []), (22, .tup []), (21, .tup []), (20, .tup []), (19, .tup []), (18, vb false), (17, vb false), (16, vb x7.Same), (15, .ptr ((eTie x7).map .tr) 2), (14, .ptr ((eTie x7).map .tr) 0), (13, vi s3.1), (12, vl eTie aList), (0, vi aN), (1, vl eTie aList), (5, vi s3.1), (9, vb (decide (s3.1 < (aList.length : Int))))], []⟩) (by kernel_rfl) ?_
  refine DGo.nil (by kernel_rfl) ?_
  replace h := Option.some.inj h
  subst h
  exact Le.sub0
  refine swp_cond (b := j12) (by kernel_rfl) (fun hb => ?_) (fun hb => ?_)
  replace h := cond_t hb h
  refine swp_seq ?_
  refine swp_reg ?_
  refine SRun.ck tbok 2 ⟨35, [(4, vi s3.1)], []⟩ ?_
  refine SRun.nil ?_
  refine nx_n ?_
  refine swp_ret ?_
  replace h := Option.some.inj h
  subst h
  exact q_br (q_rr (q_rr (q_br (q_rr (q_fr (fin1 (by kernel_rfl) (finV rfl SV.flat_of (holds_t (by kernel_rfl)))))))))
  replace h := cond_f hb h
  refine swp_skip ?_
  replace h := Option.some.inj h
  subst h
  exact q_bn (q_l (Le.sub0))
  refine swp_reg ?_
  refine SRun.ck tbok 3 ⟨35, [(0, vi aN), (1, vl eTie aList), (5, vi (w64 (s3.1 + 1)))], []⟩ ?_
  refine SRun.nil ?_
  replace h := Option.some.inj h
  subst h
  exact q_l (Le.sub0)
  replace h := cond_f hb h
  refine swp_exit ?_
  replace h := Option.some.inj h
  subst h
  exact nx_e (q_re (q_bh (q_l (Le.sub0))))
  refine swp_seq ?_
  refine swp_reg ?_
  refine SRun.ck tbok 1 ⟨35, [(4, vi (-1))], []⟩ ?_
  refine SRun.nil ?_
  refine nx_n ?_
  refine swp_ret ?_
  replace h := Option.some.inj h
  subst h
  exact q_fr (fin1 (by kernel_rfl) (finV rfl SV.flat_of (holds_t (by kernel_rfl))))
theorem ents65 : Ents Tryd.prog 65 := ents_of Tryd.func65 (by kernel_rfl) rfl
noncomputable def spec_MayBeSame (aN : Int) (aList : (List Tie)) (aA : Int) (aB : Int) : Option (Bool × Int) :=
  ((spec_l31Code aN aList aA aB).bind fun x1 => (((bif (x1 == 0) then ((spec_l31Wrong aN aList).bind fun x2 => some (decide (x2 ≥ 0))) else some false)).bind fun (j3 : Bool) => (((bif j3 then some 5 else some x1)).bind fun (j5 : Int) => (bif (j5 != 0) then some (false, j5) else (bif (aA == aB) then some (true, 0) else ((app' ([] : List Tie) aList).bind fun x7 => ((app' x7 ([(Tie.mk (minI aA aB) (maxI aA aB) true (ByteArray.mk #[]))] : List Tie)).bind fun x8 => ((spec_l31Wrong aN x8).bind fun x9 => some ((decide (x9 < 0)), 0)))))))))
set_option maxRecDepth 100000 in
set_option maxHeartbeats 4000000 in
theorem spec_MayBeSame_run (aN : Int) (aList : (List Tie)) (aA : Int) (aB : Int) (r : Bool × Int) (h : spec_MayBeSame aN aList aA aB = some r) : SCall Tryd.prog 25 [.v (vi aN), .v (vl eTie aList), .v (vi aA), .v (vi aB)] ⟨[.v (vb r.1), .v (vi r.2)], [], false⟩ := by
  refine scall_in Tryd.func25 rfl [(.tmp 8), (.tmp 9)] rfl (fun r => ⟨[.v (vb r.1), .v (vi r.2)], [], false⟩) (r := r) ?_
  unfold spec_MayBeSame at h
  refine swp_seq ?_
  refine swp_reg ?_
  refine SRun.ck tbok 2 ⟨45, [(0, vi aN), (1, vl eTie aList), (2, vi aA), (3, vi aB)], []⟩ ?_
  refine SRun.nil ?_
  refine nx_n ?_
  refine swp_seq ?_
  refine swp_reg ?_
  refine SRun.ck tbok 4 ⟨45, [(0, vi aN), (1, vl eTie aList), (2, vi aA), (3, vi aB), (11, vi aN), (12, vl eTie aList), (13, vi aA), (14, vi aB)], []⟩ ?_
  obtain ⟨x1, hx1, h⟩ := bind_some h
  refine SRun.ls (x_lstep_call (f := 67) (caps := []) (xs := [vi aN, vl eTie aList, vi aA, vi aB]) (ys := [vi aN, vl eTie aList, vi aA, vi aB]) (res := ⟨[.v (vi x1)], [], false⟩) (x := vi x1) (y := none) rfl ents67 (spec_l31Code_run aN aList aA aB _ hx1) rfl (by intro hc; cases hc)) ?_
  refine SRun.ck tbok 1 ⟨45, [(0, vi aN), (1, vl eTie aList), (2, vi aA), (3, vi aB), (10, vi x1)], []⟩ ?_
  refine SRun.nil ?_
  refine nx_n ?_
  refine swp_seq ?_
  refine swp_seq ?_
  refine swp_regJ h (fun j3 => ⟨45, [(0, vi aN), (1, vl eTie aList), (2, vi aA), (3, vi aB), (10, vi x1), (23, vb j3)], []⟩) (fun v4 h => ?_) (fun j3 h => ?_)
  refine SRun.ck tbok 3 ⟨45, [(0, vi aN), (1, vl eTie aList), (2, vi aA), (3, vi aB), (10, vi x1), (18, vb (x1 == 0))], []⟩ ?_
  refine SRun.cut [(18, fun b => b)] (b := (x1 == 0)) (by kernel_rfl) (fun hb => ?_) (fun hb => ?_)
  replace h := cond_t hb h
  refine SRun.ck tbok 2 ⟨45, [(0, vi aN), (1, vl eTie aList), (2, vi aA), (3, vi aB), (10, vi x1), (18, vb true), (19, vi aN), (20, vl eTie aList)], []⟩ ?_
  obtain ⟨x2, hx2, h⟩ := bind_some h
  refine SRun.ls (x_lstep_call (f := 65) (caps := []) (xs := [vi aN, vl eTie aList]) (ys := [vi aN, vl eTie aList]) (res := ⟨[.v (vi x2)], [], false⟩) (x := vi x2) (y := none) rfl ents65 (spec_l31Wrong_run aN aList _ hx2) rfl (by intro hc; cases hc)) ?_
  refine SRun.ck tbok 2 ⟨45, [(0, vi aN), (1, vl eTie aList), (2, vi aA), (3, vi aB), (10, vi x1), (23, vb (decide (x2 ≥ 0)))], []⟩ ?_
  refine SRun.nil ?_
  replace h := Option.some.inj h
  subst h
  exact Le.sub0
  replace h := cond_f hb h
  refine SRun.ck tbok 5 ⟨45, [(0, vi aN), (1, vl eTie aList), (2, vi aA), (3, vi aB), (10, vi x1), (23, vb false)], []⟩ ?_
  refine SRun.nil ?_
  replace h := Option.some.inj h
  subst h
  exact Le.sub0
  refine swp_seqJ h (fun j5 => ⟨45, [(0, vi aN), (1, vl eTie aList), (2, vi aA), (3, vi aB), (10, vi j5)], []⟩) (fun v6 h => ?_) (fun j5 h => ?_)
  refine swp_cond (b := j3) (by kernel_rfl) (fun hb => ?_) (fun hb => ?_)
  replace h := cond_t hb h
  refine swp_reg ?_
  refine SRun.ck tbok 1 ⟨45, [(0, vi aN), (1, vl eTie aList), (2, vi aA), (3, vi aB), (10, vi 5)], []⟩ ?_
  refine SRun.nil ?_
  replace h := Option.some.inj h
  subst h
  exact q_j (Le.sub0)
  replace h := cond_f hb h
  refine swp_skip ?_
  replace h := Option.some.inj h
  subst h
  exact q_j (Le.sub0)
  refine swp_seq ?_
  refine swp_seq ?_
  refine swp_reg ?_
  refine SRun.ck tbok 2 ⟨45, [(0, vi aN), (1, vl eTie aList), (2, vi aA), (3, vi aB), (10, vi j5), (25, vb (j5 != 0))], []⟩ ?_
  refine SRun.nil ?_
  refine nx_n ?_
  refine swp_cond (b := (j5 != 0)) (by kernel_rfl) (fun hb => ?_) (fun hb => ?_)
  replace h := cond_t hb h
  refine swp_seq ?_
  refine swp_reg ?_
  refine SRun.ck tbok 3 ⟨45, [(8, vb false), (9, vi j5)], []⟩ ?_
  refine SRun.nil ?_
  refine nx_n ?_
  refine swp_ret ?_
  replace h := Option.some.inj h
  subst h
  exact nx_r (q_fr (fin2 (by kernel_rfl) (finV rfl SV.flat_of (holds_t (by kernel_rfl))) (finV rfl SV.flat_of (holds_t (by kernel_rfl)))))
  replace h := cond_f hb h
  refine swp_skip ?_
  refine nx_n ?_
  refine swp_seq ?_
  refine swp_seq ?_
  refine swp_reg ?_
  refine SRun.ck tbok 3 ⟨45, [(0, vi aN), (1, vl eTie aList), (2, vi aA), (3, vi aB), (29, vb (aA == aB))], []⟩ ?_
  refine SRun.nil ?_
  refine nx_n ?_
  refine swp_cond (b := (aA == aB)) (by kernel_rfl) (fun hb => ?_) (fun hb => ?_)
  replace h := cond_t hb h
  refine swp_seq ?_
  refine swp_reg ?_
  refine SRun.ck tbok 2 ⟨45, [(8, vb true), (9, vi 0)], []⟩ ?_
  refine SRun.nil ?_
  refine nx_n ?_
  refine swp_ret ?_
  replace h := Option.some.inj h
  subst h
  exact nx_r (q_fr (fin2 (by kernel_rfl) (finV rfl SV.flat_of (holds_t (by kernel_rfl))) (finV rfl SV.flat_of (holds_t (by kernel_rfl)))))
  replace h := cond_f hb h
  refine swp_skip ?_
  refine nx_n ?_
  refine swp_seq ?_
  refine swp_reg ?_
  refine SRun.ck tbok 3 ⟨45, [(2, vi aA), (3, vi aB), (30, vi aN), (31, .own 31), (32, vl eTie aList)], [(31, .arr 42 4 ([] : List Tie).length (([] : List Tie).map eTie))]⟩ ?_
  obtain ⟨x7, hx7, h⟩ := bind_some h
  refine SRun.estep (x_append (f := eTie) (t := 25) (ti := ti25) (tj := ti42) (zs := [.int .i64 0, .int .i64 0, .bool false, .string (ByteArray.mk #[])]) (e := 42) (m := 4) (d := 31) (xv := vl eTie aList) hx7 tbok rfl rfl rfl rfl (src_e (fun _ => rfl))) ?_
  refine SRun.ck tbok 6 ⟨45, [(30, vi aN), (33, .own 33), (36, vi (minI aA aB)), (39, vi (maxI aA aB))], [(33, .arr 42 4 x7.length (x7.map eTie))]⟩ ?_
  refine SRun.ls (x_lstep_build (v := .agg [vi (minI aA aB), vi (maxI aA aB), vb true, vs (ByteArray.mk #[])]) tbok rfl) ?_
  refine SRun.ck tbok 1 ⟨45, [(30, vi aN), (33, .own 33), (41, .own 41)], [(33, .arr 42 4 x7.length (x7.map eTie)), (41, .arr 42 4 ([(Tie.mk (minI aA aB) (maxI aA aB) true (ByteArray.mk #[]))] : List Tie).length (([(Tie.mk (minI aA aB) (maxI aA aB) true (ByteArray.mk #[]))] : List Tie).map eTie))]⟩ ?_
  obtain ⟨x8, hx8, h⟩ := bind_some h
  refine SRun.estep (x_append (f := eTie) (t := 25) (ti := ti25) (tj := ti42) (zs := [.int .i64 0, .int .i64 0, .bool false, .string (ByteArray.mk #[])]) (e := 42) (m := 4) (d := 33) (xv := .own 41) hx8 tbok rfl rfl rfl rfl (x_src_o (e := 42))) ?_
  obtain ⟨x9, hx9, h⟩ := bind_some h
  refine SRun.ls (x_lstep_call (f := 65) (caps := []) (xs := [vi aN, .own 42]) (ys := [vi aN, vl eTie x8]) (res := ⟨[.v (vi x9)], [], false⟩) (x := vi x9) (y := none) rfl ents65 (spec_l31Wrong_run aN x8 _ hx9) rfl (by intro hc; cases hc)) ?_
  refine SRun.ck tbok 3 ⟨45, [(8, vb (decide (x9 < 0))), (9, vi 0)], []⟩ ?_
  refine SRun.nil ?_
  refine nx_n ?_
  refine swp_ret ?_
  replace h := Option.some.inj h
  subst h
  exact q_fr (fin2 (by kernel_rfl) (finV rfl SV.flat_of (holds_t (by kernel_rfl))) (finV rfl SV.flat_of (holds_t (by kernel_rfl))))
theorem ents25 : Ents Tryd.prog 25 := ents_of Tryd.func25 (by kernel_rfl) rfl
noncomputable def impl_AddTie (aN : Int) (aList : (List Tie)) (aT : Tie) : Option ((List Tie) × Int) :=
  ((slices_Clone_Tie aList).bind fun x1 => ((app' x1 ([aT] : List Tie)).bind fun x2 => ((((((impl_AreTies aN aList).bind fun x5 => (bif (!x5) then some true else ((impl_AreTies aN x2).bind fun x6 => some (!x6))))).bind fun (j7 : Bool) => (bif j7 then some (.inr (([] : List Tie), 1)) else ((impl_refuted aN aList).bind fun x9 => (bif (decide (x9 ≥ 0)) then some (.inr (([] : List Tie), 5)) else ((impl_refuted aN x2).bind fun x10 => (bif (decide (x10 ≥ 0)) then some (.inr (([] : List Tie), 4)) else some (.inl ())))))))).bind (Sum.elim (fun (_ : Unit) => some (x2, 0)) some))))
set_option maxRecDepth 100000 in
set_option maxHeartbeats 4000000 in
theorem impl_AddTie_run (aN : Int) (aList : (List Tie)) (aT : Tie) (r : (List Tie) × Int) (h : impl_AddTie aN aList aT = some r) : SCall Tryd.prog 32 [.v (vi aN), .v (vl eTie aList), .v (.agg [vi aT.A, vi aT.B, vb aT.Same, vs aT.Reason])] ⟨[.own 42 4 r.1.length (r.1.map eTie), .v (vi r.2)], [], false⟩ := by
  refine scall_in Tryd.func32 rfl [(.tmp 6), (.tmp 7)] rfl (fun r => ⟨[.own 42 4 r.1.length (r.1.map eTie), .v (vi r.2)], [], false⟩) (r := r) ?_
  unfold impl_AddTie at h
  refine swp_seq ?_
  refine swp_reg ?_
  refine SRun.ck tbok 3 ⟨36, [(0, vi aN), (1, vl eTie aList), (5, .ref 5 0)], [(5, .box [vi aT.A, vi aT.B, vb aT.Same, vs aT.Reason])]⟩ ?_
  refine SRun.nil ?_
  refine nx_n ?_
  refine swp_seq ?_
  refine swp_dr mixed ?_
  refine DGo.chunk' tbok 1 (σ' := ⟨36, [(9, vl eTie aList), (0, vi aN), (1, vl eTie aList), (5, .ref 5 0)], [(5, .box [vi aT.A, vi aT.B, vb aT.Same, vs aT.Reason])]⟩) (by kernel_rfl) ?_
  obtain ⟨x1, hx1, h⟩ := bind_some h
  refine DGo.step (x_lstep_call (f := 69) (caps := []) (xs := [vl eTie aList]) (ys := [vl eTie aList]) (res := ⟨[.own 42 4 x1.length (x1.map eTie)], [], true⟩) (x := .own 10) (y := some (.arr 42 4 x1.length (x1.map eTie))) rfl ents69 (slices_Clone_Tie_run aList _ hx1) rfl (fun _ => rfl)) ?_
  refine DGo.chunk' tbok 2 (σ' := ⟨36, [(12, .own 12), (11, .agg [vi aT.A, vi aT.B, vb aT.Same, vs aT.Reason]), (10, .own 10), (9, vl eTie aList), (0, vi aN), (1, vl eTie aList), (5, .ref 5 0)], [(12, .arr 42 4 ([aT] : List Tie).length (([aT] : List Tie).map eTie)), (10, .arr 42 4 x1.length (x1.map eTie)), (5, .box [vi aT.A, vi aT.B, vb aT.Same, vs aT.Reason])]⟩) (by kernel_rfl) ?_
  refine DGo.seq (by kernel_rfl) (by kernel_rfl) ?_
  obtain ⟨x2, hx2, h⟩ := bind_some h
  refine SRun.estep (x_append (f := eTie) (t := 25) (ti := ti25) (tj := ti42) (zs := [.int .i64 0, .int .i64 0, .bool false, .string (ByteArray.mk #[])]) (e := 42) (m := 4) (d := 10) (xv := .own 12) hx2 tbok rfl rfl rfl rfl (x_src_o (e := 42))) ?_
  refine SRun.ck tbok 1 ⟨36, [(0, vi aN), (1, vl eTie aList), (8, .own 13)], [(13, .arr 42 4 x2.length (x2.map eTie))]⟩ ?_
  refine SRun.nil ?_
  refine nx_n ?_
  refine swp_seq ?_
  refine swp_seqE (r := r) h (fun j3 => ⟨36, [(8, .own 8)], [(8, .arr 42 4 x2.length (x2.map eTie))]⟩) (fun v4 h => ?_) (fun j3 h => ?_)
  refine swp_blk (a := v4) ?_
  refine swp_seq ?_
  refine swp_regJ h (fun j7 => ⟨36, [(0, vi aN), (1, vl eTie aList), (8, .own 8), (14, vb j7)], [(8, .arr 42 4 x2.length (x2.map eTie))]⟩) (fun v8 h => ?_) (fun j7 h => ?_)
  refine SRun.ck tbok 2 ⟨36, [(0, vi aN), (1, vl eTie aList), (8, .own 13), (15, vi aN), (16, vl eTie aList)], [(13, .arr 42 4 x2.length (x2.map eTie))]⟩ ?_
  obtain ⟨x5, hx5, h⟩ := bind_some h
  refine SRun.ls (x_lstep_call (f := 17) (caps := []) (xs := [vi aN, vl eTie aList]) (ys := [vi aN, vl eTie aList]) (res := ⟨[.v (vb x5)], [], false⟩) (x := vb x5) (y := none) rfl ents17 (impl_AreTies_run aN aList _ hx5) rfl (by intro hc; cases hc)) ?_
  refine SRun.ck tbok 2 ⟨36, [(0, vi aN), (1, vl eTie aList), (8, .own 13), (19, vb (!x5))], [(13, .arr 42 4 x2.length (x2.map eTie))]⟩ ?_
  refine SRun.cut [(19, fun b => b)] (b := (!x5)) (by kernel_rfl) (fun hb => ?_) (fun hb => ?_)
  replace h := cond_t hb h
  refine SRun.ck tbok 6 ⟨36, [(0, vi aN), (1, vl eTie aList), (8, .own 13), (14, vb true)], [(13, .arr 42 4 x2.length (x2.map eTie))]⟩ ?_
  refine SRun.nil ?_
  replace h := Option.some.inj h
  subst h
  exact (Le.sub' ([(0, vi aN), (1, vl eTie aList), (8, .own 13), (14, vb true)] : List (Nat × SV)) ([(13, .arr 42 4 x2.length (x2.map eTie))] : List (Nat × SO)) (by kernel_rfl) (by kernel_rfl)).trans ((Le.ren' (d := 13) (e := 8) (by kernel_rfl) (by kernel_rfl) (by kernel_rfl)).trans (Le.sub0))
  replace h := cond_f hb h
  refine SRun.ck tbok 2 ⟨36, [(0, vi aN), (1, vl eTie aList), (8, .own 13), (19, vb false), (20, vi aN), (21, .own 13)], [(13, .arr 42 4 x2.length (x2.map eTie))]⟩ ?_
  obtain ⟨x6, hx6, h⟩ := bind_some h
  refine SRun.ls (x_lstep_call (f := 17) (caps := []) (xs := [vi aN, .own 13]) (ys := [vi aN, vl eTie x2]) (res := ⟨[.v (vb x6)], [], false⟩) (x := vb x6) (y := none) rfl ents17 (impl_AreTies_run aN x2 _ hx6) rfl (by intro hc; cases hc)) ?_
  refine SRun.ck tbok 3 ⟨36, [(0, vi aN), (1, vl eTie aList), (8, .own 13), (14, vb (!x6))], [(13, .arr 42 4 x2.length (x2.map eTie))]⟩ ?_
  refine SRun.nil ?_
  replace h := Option.some.inj h
  subst h
  exact (Le.sub' ([(0, vi aN), (1, vl eTie aList), (8, .own 13), (14, vb (!x6))] : List (Nat × SV)) ([(13, .arr 42 4 x2.length (x2.map eTie))] : List (Nat × SO)) (by kernel_rfl) (by kernel_rfl)).trans ((Le.ren' (d := 13) (e := 8) (by kernel_rfl) (by kernel_rfl) (by kernel_rfl)).trans (Le.sub0))
  refine swp_cond (b := j7) (by kernel_rfl) (fun hb => ?_) (fun hb => ?_)
  replace h := cond_t hb h
  refine swp_seq ?_
  refine swp_reg ?_
  refine SRun.ck tbok 2 ⟨36, [(6, .own 6), (7, vi 1)], [(6, .arr 42 4 ([] : List Tie).length (([] : List Tie).map eTie))]⟩ ?_
  refine SRun.nil ?_
  refine nx_n ?_
  refine swp_ret ?_
  replace h := Option.some.inj h
  subst h
  exact q_br (q_rr (q_fr (fin2 (by kernel_rfl) (finO (d := 6) (holds_t (by kernel_rfl)) (by kernel_rfl) (flat_map eTie_flat _) (by kernel_rfl)) (finV rfl SV.flat_of (holds_t (by kernel_rfl))))))
  replace h := cond_f hb h
  refine swp_seq ?_
  refine swp_reg ?_
  refine SRun.ck tbok 2 ⟨36, [(0, vi aN), (8, .own 8), (26, vi aN), (27, vl eTie aList)], [(8, .arr 42 4 x2.length (x2.map eTie))]⟩ ?_
  obtain ⟨x9, hx9, h⟩ := bind_some h
  refine SRun.ls (x_lstep_call (f := 66) (caps := []) (xs := [vi aN, vl eTie aList]) (ys := [vi aN, vl eTie aList]) (res := ⟨[.v (vi x9)], [], false⟩) (x := vi x9) (y := none) rfl ents66 (impl_refuted_run aN aList _ hx9) rfl (by intro hc; cases hc)) ?_
  refine SRun.ck tbok 2 ⟨36, [(0, vi aN), (8, .own 8), (25, vb (decide (x9 ≥ 0)))], [(8, .arr 42 4 x2.length (x2.map eTie))]⟩ ?_
  refine SRun.nil ?_
  refine nx_n ?_
  refine swp_cond (b := (decide (x9 ≥ 0))) (by kernel_rfl) (fun hb => ?_) (fun hb => ?_)
  replace h := cond_t hb h
  refine swp_seq ?_
  refine swp_reg ?_
  refine SRun.ck tbok 2 ⟨36, [(6, .own 6), (7, vi 5)], [(6, .arr 42 4 ([] : List Tie).length (([] : List Tie).map eTie))]⟩ ?_
  refine SRun.nil ?_
  refine nx_n ?_
  refine swp_ret ?_
  replace h := Option.some.inj h
  subst h
  exact q_br (q_rr (q_fr (fin2 (by kernel_rfl) (finO (d := 6) (holds_t (by kernel_rfl)) (by kernel_rfl) (flat_map eTie_flat _) (by kernel_rfl)) (finV rfl SV.flat_of (holds_t (by kernel_rfl))))))
  replace h := cond_f hb h
  refine swp_seq ?_
  refine swp_reg ?_
  refine SRun.ck tbok 2 ⟨36, [(8, .own 8), (31, vi aN), (32, .own 8)], [(8, .arr 42 4 x2.length (x2.map eTie))]⟩ ?_
  obtain ⟨x10, hx10, h⟩ := bind_some h
  refine SRun.ls (x_lstep_call (f := 66) (caps := []) (xs := [vi aN, .own 8]) (ys := [vi aN, vl eTie x2]) (res := ⟨[.v (vi x10)], [], false⟩) (x := vi x10) (y := none) rfl ents66 (impl_refuted_run aN x2 _ hx10) rfl (by intro hc; cases hc)) ?_
  refine SRun.ck tbok 2 ⟨36, [(8, .own 8), (30, vb (decide (x10 ≥ 0)))], [(8, .arr 42 4 x2.length (x2.map eTie))]⟩ ?_
  refine SRun.nil ?_
  refine nx_n ?_
  refine swp_cond (b := (decide (x10 ≥ 0))) (by kernel_rfl) (fun hb => ?_) (fun hb => ?_)
  replace h := cond_t hb h
  refine swp_seq ?_
  refine swp_reg ?_
  refine SRun.ck tbok 2 ⟨36, [(6, .own 6), (7, vi 4)], [(6, .arr 42 4 ([] : List Tie).length (([] : List Tie).map eTie))]⟩ ?_
  refine SRun.nil ?_
  refine nx_n ?_
  refine swp_ret ?_
  replace h := Option.some.inj h
  subst h
  exact q_br (q_rr (q_fr (fin2 (by kernel_rfl) (finO (d := 6) (holds_t (by kernel_rfl)) (by kernel_rfl) (flat_map eTie_flat _) (by kernel_rfl)) (finV rfl SV.flat_of (holds_t (by kernel_rfl))))))
  replace h := cond_f hb h
  refine swp_skip ?_
  replace h := Option.some.inj h
  subst h
  exact q_bn (q_l (Le.sub0))
  refine swp_seq ?_
  refine swp_reg ?_
  refine SRun.ck tbok 3 ⟨36, [(6, .own 8), (7, vi 0)], [(8, .arr 42 4 x2.length (x2.map eTie))]⟩ ?_
  refine SRun.nil ?_
  refine nx_n ?_
  refine swp_ret ?_
  replace h := Option.some.inj h
  subst h
  exact q_fr (fin2 (by kernel_rfl) (finO (d := 8) (holds_t (by kernel_rfl)) (by kernel_rfl) (flat_map eTie_flat _) (by kernel_rfl)) (finV rfl SV.flat_of (holds_t (by kernel_rfl))))
theorem ents32 : Ents Tryd.prog 32 := ents_of Tryd.func32 (by kernel_rfl) rfl
noncomputable def spec_AddTie (aN : Int) (aList : (List Tie)) (aT : Tie) : Option ((List Tie) × Int) :=
  ((spec_AreTies aN aList).bind fun x1 => (bif (!x1) then some (([] : List Tie), 1) else ((app' ([] : List Tie) aList).bind fun x2 => ((app' x2 ([aT] : List Tie)).bind fun x3 => ((spec_AreTies aN x3).bind fun x4 => (bif (!x4) then some (([] : List Tie), 1) else ((spec_l31Wrong aN aList).bind fun x5 => (bif (decide (x5 ≥ 0)) then some (([] : List Tie), 5) else ((spec_l31Wrong aN x3).bind fun x6 => (bif (decide (x6 ≥ 0)) then some (([] : List Tie), 4) else some (x3, 0)))))))))))
set_option maxRecDepth 100000 in
set_option maxHeartbeats 4000000 in
theorem spec_AddTie_run (aN : Int) (aList : (List Tie)) (aT : Tie) (r : (List Tie) × Int) (h : spec_AddTie aN aList aT = some r) : SCall Tryd.prog 30 [.v (vi aN), .v (vl eTie aList), .v (.agg [vi aT.A, vi aT.B, vb aT.Same, vs aT.Reason])] ⟨[.own 42 4 r.1.length (r.1.map eTie), .v (vi r.2)], [], false⟩ := by
  refine scall_in Tryd.func30 rfl [(.tmp 6), (.tmp 7)] rfl (fun r => ⟨[.own 42 4 r.1.length (r.1.map eTie), .v (vi r.2)], [], false⟩) (r := r) ?_
  unfold spec_AddTie at h
  refine swp_seq ?_
  refine swp_reg ?_
  refine SRun.ck tbok 3 ⟨32, [(0, vi aN), (1, vl eTie aList), (5, .ref 5 0)], [(5, .box [vi aT.A, vi aT.B, vb aT.Same, vs aT.Reason])]⟩ ?_
  refine SRun.nil ?_
  refine nx_n ?_
  refine swp_seq ?_
  refine swp_seq ?_
  refine swp_reg ?_
  refine SRun.ck tbok 2 ⟨32, [(0, vi aN), (1, vl eTie aList), (5, .ref 5 0), (9, vi aN), (10, vl eTie aList)], [(5, .box [vi aT.A, vi aT.B, vb aT.Same, vs aT.Reason])]⟩ ?_
  obtain ⟨x1, hx1, h⟩ := bind_some h
  refine SRun.ls (x_lstep_call (f := 15) (caps := []) (xs := [vi aN, vl eTie aList]) (ys := [vi aN, vl eTie aList]) (res := ⟨[.v (vb x1)], [], false⟩) (x := vb x1) (y := none) rfl ents15 (spec_AreTies_run aN aList _ hx1) rfl (by intro hc; cases hc)) ?_
  refine SRun.ck tbok 1 ⟨32, [(0, vi aN), (1, vl eTie aList), (5, .ref 5 0), (12, vb (!x1))], [(5, .box [vi aT.A, vi aT.B, vb aT.Same, vs aT.Reason])]⟩ ?_
  refine SRun.nil ?_
  refine nx_n ?_
  refine swp_cond (b := (!x1)) (by kernel_rfl) (fun hb => ?_) (fun hb => ?_)
  replace h := cond_t hb h
  refine swp_seq ?_
  refine swp_reg ?_
  refine SRun.ck tbok 2 ⟨32, [(6, .own 6), (7, vi 1)], [(6, .arr 42 4 ([] : List Tie).length (([] : List Tie).map eTie))]⟩ ?_
  refine SRun.nil ?_
  refine nx_n ?_
  refine swp_ret ?_
  replace h := Option.some.inj h
  subst h
  exact nx_r (q_fr (fin2 (by kernel_rfl) (finO (d := 6) (holds_t (by kernel_rfl)) (by kernel_rfl) (flat_map eTie_flat _) (by kernel_rfl)) (finV rfl SV.flat_of (holds_t (by kernel_rfl)))))
  replace h := cond_f hb h
  refine swp_skip ?_
  refine nx_n ?_
  refine swp_seq ?_
  obtain ⟨x2, hx2, h⟩ := bind_some h
  obtain ⟨x3, hx3, h⟩ := bind_some h
  refine swp_dr mixed ?_
  refine DGo.enum (σE := ⟨32, [(0, vi aN), (1, vl eTie aList), (8, .own 18)], [(18, .arr 42 4 x3.length (x3.map eTie))]⟩) (n := 7) (L0 := #[false, false, false, false, false, false, false]) (by kernel_rfl) (by kernel_rfl) (fun K hk => ?_) ?_
  refine DE.share (fuel := 0) (L := #[true, true, true, true, true, true, true]) (σ := ⟨32, [(0, vi aN), (1, vl eTie aList), (8, .own 18)], [(18, .arr 42 4 x3.length (x3.map eTie))]⟩) ?_ (fun d11 => ?_)
  exact DE.done (by kernel_rfl) hk
  refine DE.share (fuel := 1) (L := #[true, true, true, true, true, true, false]) (σ := ⟨32, [(0, vi aN), (1, vl eTie aList), (18, .own 18)], [(18, .arr 42 4 x3.length (x3.map eTie))]⟩) ?_ (fun d10 => ?_)
  exact DE.take (i := 6) (L' := #[true, true, true, true, true, true, true]) rfl (.inr rfl) rfl (by kernel_rfl) (by kernel_rfl) (by kernel_rfl) (EStep.le (EStep.ofN2 tbok (σ' := ⟨32, [(8, .own 18), (0, vi aN), (1, vl eTie aList), (18, .own 18)], [(18, .arr 42 4 x3.length (x3.map eTie))]⟩) (by kernel_rfl)) Le.sub0) (by kernel_rfl) d11
  refine DE.share (fuel := 2) (L := #[true, true, true, true, true, false, false]) (σ := ⟨32, [(0, vi aN), (1, vl eTie aList), (15, .own 15), (17, .own 17)], [(15, .arr 42 4 x2.length (x2.map eTie)), (17, .arr 42 4 ([aT] : List Tie).length (([aT] : List Tie).map eTie))]⟩) ?_ (fun d9 => ?_)
  exact DE.all [5] (by kernel_rfl) (by simp) (List.forall_mem_cons.2 ⟨DEs.mk (i := 5) (L' := #[true, true, true, true, true, true, false]) rfl (EStep.le (x_append (f := eTie) (t := 25) (ti := ti25) (tj := ti42) (zs := [.int .i64 0, .int .i64 0, .bool false, .string (ByteArray.mk #[])]) (e := 42) (m := 4) (d := 15) (xv := .own 17) hx3 tbok rfl rfl rfl rfl (x_src_o (e := 42))) Le.sub0) (by kernel_rfl) d10, (fun _ h => absurd h List.not_mem_nil)⟩)
  refine DE.share (fuel := 3) (L := #[true, true, false, true, true, false, false]) (σ := ⟨32, [(0, vi aN), (1, vl eTie aList), (13, .own 13), (14, vl eTie aList), (17, .own 17)], [(13, .arr 42 4 ([] : List Tie).length (([] : List Tie).map eTie)), (17, .arr 42 4 ([aT] : List Tie).length (([aT] : List Tie).map eTie))]⟩) ?_ (fun d8 => ?_)
  exact DE.all [2] (by kernel_rfl) (by simp) (List.forall_mem_cons.2 ⟨DEs.mk (i := 2) (L' := #[true, true, true, true, true, false, false]) rfl (EStep.le (x_append (f := eTie) (t := 25) (ti := ti25) (tj := ti42) (zs := [.int .i64 0, .int .i64 0, .bool false, .string (ByteArray.mk #[])]) (e := 42) (m := 4) (d := 13) (xv := vl eTie aList) hx2 tbok rfl rfl rfl rfl (src_e (fun _ => rfl))) Le.sub0) (by kernel_rfl) d9, (fun _ h => absurd h List.not_mem_nil)⟩)
  refine DE.share (fuel := 3) (L := #[true, true, true, true, false, false, false]) (σ := ⟨32, [(0, vi aN), (1, vl eTie aList), (15, .own 15), (16, .agg [vi aT.A, vi aT.B, vb aT.Same, vs aT.Reason])], [(15, .arr 42 4 x2.length (x2.map eTie))]⟩) ?_ (fun d7 => ?_)
  exact DE.all [4] (by kernel_rfl) (by simp) (List.forall_mem_cons.2 ⟨DEs.mk (i := 4) (L' := #[true, true, true, true, true, false, false]) rfl (EStep.le (EStep.ofN2 tbok (σ' := ⟨32, [(17, .own 17), (0, vi aN), (1, vl eTie aList), (15, .own 15), (16, .agg [vi aT.A, vi aT.B, vb aT.Same, vs aT.Reason])], [(17, .arr 42 4 ([aT] : List Tie).length (([aT] : List Tie).map eTie)), (15, .arr 42 4 x2.length (x2.map eTie))]⟩) (by kernel_rfl)) Le.sub0) (by kernel_rfl) d9, (fun _ h => absurd h List.not_mem_nil)⟩)
  refine DE.share (fuel := 4) (L := #[false, true, false, true, true, false, false]) (σ := ⟨32, [(0, vi aN), (1, vl eTie aList), (14, vl eTie aList), (17, .own 17)], [(17, .arr 42 4 ([aT] : List Tie).length (([aT] : List Tie).map eTie))]⟩) ?_ (fun d6 => ?_)
  exact DE.all [0] (by kernel_rfl) (by simp) (List.forall_mem_cons.2 ⟨DEs.mk (i := 0) (L' := #[true, true, false, true, true, false, false]) rfl (EStep.le (EStep.ofN2 tbok (σ' := ⟨32, [(13, .own 13), (0, vi aN), (1, vl eTie aList), (14, vl eTie aList), (17, .own 17)], [(13, .arr 42 4 ([] : List Tie).length (([] : List Tie).map eTie)), (17, .arr 42 4 ([aT] : List Tie).length (([aT] : List Tie).map eTie))]⟩) (by kernel_rfl)) Le.sub0) (by kernel_rfl) d8, (fun _ h => absurd h List.not_mem_nil)⟩)
  refine DE.share (fuel := 4) (L := #[true, true, false, true, false, false, false]) (σ := ⟨32, [(0, vi aN), (1, vl eTie aList), (13, .own 13), (14, vl eTie aList), (16, .agg [vi aT.A, vi aT.B, vb aT.Same, vs aT.Reason])], [(13, .arr 42 4 ([] : List Tie).length (([] : List Tie).map eTie))]⟩) ?_ (fun d5 => ?_)
  exact DE.all [2, 4] (by kernel_rfl) (by simp) (List.forall_mem_cons.2 ⟨DEs.mk (i := 2) (L' := #[true, true, true, true, false, false, false]) rfl (EStep.le (x_append (f := eTie) (t := 25) (ti := ti25) (tj := ti42) (zs := [.int .i64 0, .int .i64 0, .bool false, .string (ByteArray.mk #[])]) (e := 42) (m := 4) (d := 13) (xv := vl eTie aList) hx2 tbok rfl rfl rfl rfl (src_e (fun _ => rfl))) Le.sub0) (by kernel_rfl) d7, (List.forall_mem_cons.2 ⟨DEs.mk (i := 4) (L' := #[true, true, false, true, true, false, false]) rfl (EStep.le (EStep.ofN2 tbok (σ' := ⟨32, [(17, .own 17), (0, vi aN), (1, vl eTie aList), (13, .own 13), (14, vl eTie aList), (16, .agg [vi aT.A, vi aT.B, vb aT.Same, vs aT.Reason])], [(17, .arr 42 4 ([aT] : List Tie).length (([aT] : List Tie).map eTie)), (13, .arr 42 4 ([] : List Tie).length (([] : List Tie).map eTie))]⟩) (by kernel_rfl)) Le.sub0) (by kernel_rfl) d8, (fun _ h => absurd h List.not_mem_nil)⟩)⟩)
  refine DE.share (fuel := 4) (L := #[true, true, true, false, false, false, false]) (σ := ⟨32, [(0, vi aN), (1, vl eTie aList), (5, .ref 5 0), (15, .own 15)], [(5, .box [vi aT.A, vi aT.B, vb aT.Same, vs aT.Reason]), (15, .arr 42 4 x2.length (x2.map eTie))]⟩) ?_ (fun d4 => ?_)
  exact DE.all [3] (by kernel_rfl) (by simp) (List.forall_mem_cons.2 ⟨DEs.mk (i := 3) (L' := #[true, true, true, true, false, false, false]) rfl (EStep.le (EStep.ofN2 tbok (σ' := ⟨32, [(16, .agg [vi aT.A, vi aT.B, vb aT.Same, vs aT.Reason]), (0, vi aN), (1, vl eTie aList), (5, .ref 5 0), (15, .own 15)], [(5, .box [vi aT.A, vi aT.B, vb aT.Same, vs aT.Reason]), (15, .arr 42 4 x2.length (x2.map eTie))]⟩) (by kernel_rfl)) Le.sub0) (by kernel_rfl) d7, (fun _ h => absurd h List.not_mem_nil)⟩)
  refine DE.share (fuel := 5) (L := #[false, true, false, true, false, false, false]) (σ := ⟨32, [(0, vi aN), (1, vl eTie aList), (14, vl eTie aList), (16, .agg [vi aT.A, vi aT.B, vb aT.Same, vs aT.Reason])], []⟩) ?_ (fun d3 => ?_)
  exact DE.all [0, 4] (by kernel_rfl) (by simp) (List.forall_mem_cons.2 ⟨DEs.mk (i := 0) (L' := #[true, true, false, true, false, false, false]) rfl (EStep.le (EStep.ofN2 tbok (σ' := ⟨32, [(13, .own 13), (0, vi aN), (1, vl eTie aList), (14, vl eTie aList), (16, .agg [vi aT.A, vi aT.B, vb aT.Same, vs aT.Reason])], [(13, .arr 42 4 ([] : List Tie).length (([] : List Tie).map eTie))]⟩) (by kernel_rfl)) Le.sub0) (by kernel_rfl) d5, (List.forall_mem_cons.2 ⟨DEs.mk (i := 4) (L' := #[false, true, false, true, true, false, false]) rfl (EStep.le (EStep.ofN2 tbok (σ' := ⟨32, [(17, .own 17), (0, vi aN), (1, vl eTie aList), (14, vl eTie aList), (16, .agg [vi aT.A, vi aT.B, vb aT.Same, vs aT.Reason])], [(17, .arr 42 4 ([aT] : List Tie).length (([aT] : List Tie).map eTie))]⟩) (by kernel_rfl)) Le.sub0) (by kernel_rfl) d6, (fun _ h => absurd h List.not_mem_nil)⟩)⟩)
  refine DE.share (fuel := 5) (L := #[true, true, false, false, false, false, false]) (σ := ⟨32, [(0, vi aN), (1, vl eTie aList), (5, .ref 5 0), (13, .own 13), (14, vl eTie aList)], [(5, .box [vi aT.A, vi aT.B, vb aT.Same, vs aT.Reason]), (13, .arr 42 4 ([] : List Tie).length (([] : List Tie).map eTie))]⟩) ?_ (fun d2 => ?_)
  exact DE.all [2, 3] (by kernel_rfl) (by simp) (List.forall_mem_cons.2 ⟨DEs.mk (i := 2) (L' := #[true, true, true, false, false, false, false]) rfl (EStep.le (x_append (f := eTie) (t := 25) (ti := ti25) (tj := ti42) (zs := [.int .i64 0, .int .i64 0, .bool false, .string (ByteArray.mk #[])]) (e := 42) (m := 4) (d := 13) (xv := vl eTie aList) hx2 tbok rfl rfl rfl rfl (src_e (fun _ => rfl))) Le.sub0) (by kernel_rfl) d4, (List.forall_mem_cons.2 ⟨DEs.mk (i := 3) (L' := #[true, true, false, true, false, false, false]) rfl (EStep.le (EStep.ofN2 tbok (σ' := ⟨32, [(16, .agg [vi aT.A, vi aT.B, vb aT.Same, vs aT.Reason]), (0, vi aN), (1, vl eTie aList), (5, .ref 5 0), (13, .own 13), (14, vl eTie aList)], [(5, .box [vi aT.A, vi aT.B, vb aT.Same, vs aT.Reason]), (13, .arr 42 4 ([] : List Tie).length (([] : List Tie).map eTie))]⟩) (by kernel_rfl)) Le.sub0) (by kernel_rfl) d5, (fun _ h => absurd h List.not_mem_nil)⟩)⟩)
  refine DE.share (fuel := 6) (L := #[false, true, false, false, false, false, false]) (σ := ⟨32, [(0, vi aN), (1, vl eTie aList), (5, .ref 5 0), (14, vl eTie aList)], [(5, .box [vi aT.A, vi aT.B, vb aT.Same, vs aT.Reason])]⟩) ?_ (fun d1 => ?_)
  exact DE.all [0, 3] (by kernel_rfl) (by simp) (List.forall_mem_cons.2 ⟨DEs.mk (i := 0) (L' := #[true, true, false, false, false, false, false]) rfl (EStep.le (EStep.ofN2 tbok (σ' := ⟨32, [(13, .own 13), (0, vi aN), (1, vl eTie aList), (5, .ref 5 0), (14, vl eTie aList)], [(13, .arr 42 4 ([] : List Tie).length (([] : List Tie).map eTie)), (5, .box [vi aT.A, vi aT.B, vb aT.Same, vs aT.Reason])]⟩) (by kernel_rfl)) Le.sub0) (by kernel_rfl) d2, (List.forall_mem_cons.2 ⟨DEs.mk (i := 3) (L' := #[false, true, false, true, false, false, false]) rfl (EStep.le (EStep.ofN2 tbok (σ' := ⟨32, [(16, .agg [vi aT.A, vi aT.B, vb aT.Same, vs aT.Reason]), (0, vi aN), (1, vl eTie aList), (5, .ref 5 0), (14, vl eTie aList)], [(5, .box [vi aT.A, vi aT.B, vb aT.Same, vs aT.Reason])]⟩) (by kernel_rfl)) Le.sub0) (by kernel_rfl) d3, (fun _ h => absurd h List.not_mem_nil)⟩)⟩)
  exact DE.take (i := 1) (L' := #[false, true, false, false, false, false, false]) rfl (.inl rfl) rfl (by kernel_rfl) (by kernel_rfl) (by kernel_rfl) (EStep.le (EStep.ofN2 tbok (σ' := ⟨32, [(14, vl eTie aList), (0, vi aN), (1, vl eTie aList), (5, .ref 5 0), (12, vb (!x1))], [(5, .box [vi aT.A, vi aT.B, vb aT.Same, vs aT.Reason])]⟩) (by kernel_rfl)) Le.sub0) (by kernel_rfl) d1
  refine nx_n ?_
  refine swp_seq ?_
  refine swp_seq ?_
  refine swp_reg ?_
  refine SRun.ck tbok 2 ⟨32, [(0, vi aN), (1, vl eTie aList), (8, .own 18), (19, vi aN), (20, .own 18)], [(18, .arr 42 4 x3.length (x3.map eTie))]⟩ ?_
  obtain ⟨x4, hx4, h⟩ := bind_some h
  refine SRun.ls (x_lstep_call (f := 15) (caps := []) (xs := [vi aN, .own 18]) (ys := [vi aN, vl eTie x3]) (res := ⟨[.v (vb x4)], [], false⟩) (x := vb x4) (y := none) rfl ents15 (spec_AreTies_run aN x3 _ hx4) rfl (by intro hc; cases hc)) ?_
  refine SRun.ck tbok 1 ⟨32, [(0, vi aN), (1, vl eTie aList), (8, .own 18), (22, vb (!x4))], [(18, .arr 42 4 x3.length (x3.map eTie))]⟩ ?_
  refine SRun.nil ?_
  refine nx_n ?_
  refine swp_cond (b := (!x4)) (by kernel_rfl) (fun hb => ?_) (fun hb => ?_)
  replace h := cond_t hb h
  refine swp_seq ?_
  refine swp_reg ?_
  refine SRun.ck tbok 2 ⟨32, [(6, .own 6), (7, vi 1)], [(6, .arr 42 4 ([] : List Tie).length (([] : List Tie).map eTie))]⟩ ?_
  refine SRun.nil ?_
  refine nx_n ?_
  refine swp_ret ?_
  replace h := Option.some.inj h
  subst h
  exact nx_r (q_fr (fin2 (by kernel_rfl) (finO (d := 6) (holds_t (by kernel_rfl)) (by kernel_rfl) (flat_map eTie_flat _) (by kernel_rfl)) (finV rfl SV.flat_of (holds_t (by kernel_rfl)))))
  replace h := cond_f hb h
  refine swp_skip ?_
  refine nx_n ?_
  refine swp_seq ?_
  refine swp_seq ?_
  refine swp_reg ?_
  refine SRun.ck tbok 2 ⟨32, [(0, vi aN), (8, .own 18), (23, vi aN), (24, vl eTie aList)], [(18, .arr 42 4 x3.length (x3.map eTie))]⟩ ?_
  obtain ⟨x5, hx5, h⟩ := bind_some h
  refine SRun.ls (x_lstep_call (f := 65) (caps := []) (xs := [vi aN, vl eTie aList]) (ys := [vi aN, vl eTie aList]) (res := ⟨[.v (vi x5)], [], false⟩) (x := vi x5) (y := none) rfl ents65 (spec_l31Wrong_run aN aList _ hx5) rfl (by intro hc; cases hc)) ?_
  refine SRun.ck tbok 1 ⟨32, [(0, vi aN), (8, .own 18), (26, vb (decide (x5 ≥ 0)))], [(18, .arr 42 4 x3.length (x3.map eTie))]⟩ ?_
  refine SRun.nil ?_
  refine nx_n ?_
  refine swp_cond (b := (decide (x5 ≥ 0))) (by kernel_rfl) (fun hb => ?_) (fun hb => ?_)
  replace h := cond_t hb h
  refine swp_seq ?_
  refine swp_reg ?_
  refine SRun.ck tbok 2 ⟨32, [(6, .own 6), (7, vi 5)], [(6, .arr 42 4 ([] : List Tie).length (([] : List Tie).map eTie))]⟩ ?_
  refine SRun.nil ?_
  refine nx_n ?_
  refine swp_ret ?_
  replace h := Option.some.inj h
  subst h
  exact nx_r (q_fr (fin2 (by kernel_rfl) (finO (d := 6) (holds_t (by kernel_rfl)) (by kernel_rfl) (flat_map eTie_flat _) (by kernel_rfl)) (finV rfl SV.flat_of (holds_t (by kernel_rfl)))))
  replace h := cond_f hb h
  refine swp_skip ?_
  refine nx_n ?_
  refine swp_seq ?_
  refine swp_seq ?_
  refine swp_reg ?_
  refine SRun.ck tbok 2 ⟨32, [(8, .own 18), (27, vi aN), (28, .own 18)], [(18, .arr 42 4 x3.length (x3.map eTie))]⟩ ?_
  obtain ⟨x6, hx6, h⟩ := bind_some h
  refine SRun.ls (x_lstep_call (f := 65) (caps := []) (xs := [vi aN, .own 18]) (ys := [vi aN, vl eTie x3]) (res := ⟨[.v (vi x6)], [], false⟩) (x := vi x6) (y := none) rfl ents65 (spec_l31Wrong_run aN x3 _ hx6) rfl (by intro hc; cases hc)) ?_
  refine SRun.ck tbok 1 ⟨32, [(8, .own 18), (30, vb (decide (x6 ≥ 0)))], [(18, .arr 42 4 x3.length (x3.map eTie))]⟩ ?_
  refine SRun.nil ?_
  refine nx_n ?_
  refine swp_cond (b := (decide (x6 ≥ 0))) (by kernel_rfl) (fun hb => ?_) (fun hb => ?_)
  replace h := cond_t hb h
  refine swp_seq ?_
  refine swp_reg ?_
  refine SRun.ck tbok 2 ⟨32, [(6, .own 6), (7, vi 4)], [(6, .arr 42 4 ([] : List Tie).length (([] : List Tie).map eTie))]⟩ ?_
  refine SRun.nil ?_
  refine nx_n ?_
  refine swp_ret ?_
  replace h := Option.some.inj h
  subst h
  exact nx_r (q_fr (fin2 (by kernel_rfl) (finO (d := 6) (holds_t (by kernel_rfl)) (by kernel_rfl) (flat_map eTie_flat _) (by kernel_rfl)) (finV rfl SV.flat_of (holds_t (by kernel_rfl)))))
  replace h := cond_f hb h
  refine swp_skip ?_
  refine nx_n ?_
  refine swp_seq ?_
  refine swp_reg ?_
  refine SRun.ck tbok 3 ⟨32, [(6, .own 18), (7, vi 0)], [(18, .arr 42 4 x3.length (x3.map eTie))]⟩ ?_
  refine SRun.nil ?_
  refine nx_n ?_
  refine swp_ret ?_
  replace h := Option.some.inj h
  subst h
  exact q_fr (fin2 (by kernel_rfl) (finO (d := 18) (holds_t (by kernel_rfl)) (by kernel_rfl) (flat_map eTie_flat _) (by kernel_rfl)) (finV rfl SV.flat_of (holds_t (by kernel_rfl))))
theorem ents30 : Ents Tryd.prog 30 := ents_of Tryd.func30 (by kernel_rfl) rfl
noncomputable def impl_RemoveTie (aN : Int) (aList : (List Tie)) (aIndex : Int) : Option ((List Tie) × Int) :=
  ((impl_tieCode aN aList aIndex).bind fun x1 => (bif (x1 != 0) then some (([] : List Tie), x1) else ((impl_lessTie aList aIndex).bind fun x2 => some (x2, 0))))
set_option maxRecDepth 100000 in
set_option maxHeartbeats 4000000 in
theorem impl_RemoveTie_run (aN : Int) (aList : (List Tie)) (aIndex : Int) (r : (List Tie) × Int) (h : impl_RemoveTie aN aList aIndex = some r) : SCall Tryd.prog 20 [.v (vi aN), .v (vl eTie aList), .v (vi aIndex)] ⟨[.own 42 4 r.1.length (r.1.map eTie), .v (vi r.2)], [], false⟩ := by
  refine scall_in Tryd.func20 rfl [(.tmp 6), (.tmp 7)] rfl (fun r => ⟨[.own 42 4 r.1.length (r.1.map eTie), .v (vi r.2)], [], false⟩) (r := r) ?_
  unfold impl_RemoveTie at h
  refine swp_seq ?_
  refine swp_reg ?_
  refine SRun.ck tbok 2 ⟨19, [(0, vi aN), (1, vl eTie aList), (2, vi aIndex)], []⟩ ?_
  refine SRun.nil ?_
  refine nx_n ?_
  refine swp_seq ?_
  refine swp_seq ?_
  refine swp_reg ?_
  refine SRun.ck tbok 3 ⟨19, [(1, vl eTie aList), (2, vi aIndex), (9, vi aN), (10, vl eTie aList), (11, vi aIndex)], []⟩ ?_
  obtain ⟨x1, hx1, h⟩ := bind_some h
  refine SRun.ls (x_lstep_call (f := 62) (caps := []) (xs := [vi aN, vl eTie aList, vi aIndex]) (ys := [vi aN, vl eTie aList, vi aIndex]) (res := ⟨[.v (vi x1)], [], false⟩) (x := vi x1) (y := none) rfl ents62 (impl_tieCode_run aN aList aIndex _ hx1) rfl (by intro hc; cases hc)) ?_
  refine SRun.ck tbok 1 ⟨19, [(1, vl eTie aList), (2, vi aIndex), (8, vi x1)], []⟩ ?_
  refine SRun.nil ?_
  refine nx_n ?_
  refine swp_seq ?_
  refine swp_reg ?_
  refine SRun.ck tbok 2 ⟨19, [(1, vl eTie aList), (2, vi aIndex), (8, vi x1), (14, vb (x1 != 0))], []⟩ ?_
  refine SRun.nil ?_
  refine nx_n ?_
  refine swp_cond (b := (x1 != 0)) (by kernel_rfl) (fun hb => ?_) (fun hb => ?_)
  replace h := cond_t hb h
  refine swp_seq ?_
  refine swp_reg ?_
  refine SRun.ck tbok 3 ⟨19, [(6, .own 6), (7, vi x1)], [(6, .arr 42 4 ([] : List Tie).length (([] : List Tie).map eTie))]⟩ ?_
  refine SRun.nil ?_
  refine nx_n ?_
  refine swp_ret ?_
  replace h := Option.some.inj h
  subst h
  exact nx_r (q_fr (fin2 (by kernel_rfl) (finO (d := 6) (holds_t (by kernel_rfl)) (by kernel_rfl) (flat_map eTie_flat _) (by kernel_rfl)) (finV rfl SV.flat_of (holds_t (by kernel_rfl)))))
  replace h := cond_f hb h
  refine swp_skip ?_
  refine nx_n ?_
  refine swp_seq ?_
  refine swp_reg ?_
  refine SRun.ck tbok 2 ⟨19, [(16, vl eTie aList), (17, vi aIndex)], []⟩ ?_
  obtain ⟨x2, hx2, h⟩ := bind_some h
  refine SRun.ls (x_lstep_call (f := 63) (caps := []) (xs := [vl eTie aList, vi aIndex]) (ys := [vl eTie aList, vi aIndex]) (res := ⟨[.own 42 4 x2.length (x2.map eTie)], [], false⟩) (x := .own 18) (y := some (.arr 42 4 x2.length (x2.map eTie))) rfl ents63 (impl_lessTie_run aList aIndex _ hx2) rfl (by intro hc; cases hc)) ?_
  refine SRun.ck tbok 2 ⟨19, [(6, .own 18), (7, vi 0)], [(18, .arr 42 4 x2.length (x2.map eTie))]⟩ ?_
  refine SRun.nil ?_
  refine nx_n ?_
  refine swp_ret ?_
  replace h := Option.some.inj h
  subst h
  exact q_fr (fin2 (by kernel_rfl) (finO (d := 18) (holds_t (by kernel_rfl)) (by kernel_rfl) (flat_map eTie_flat _) (by kernel_rfl)) (finV rfl SV.flat_of (holds_t (by kernel_rfl))))
theorem ents20 : Ents Tryd.prog 20 := ents_of Tryd.func20 (by kernel_rfl) rfl
noncomputable def spec_RemoveTie (aN : Int) (aList : (List Tie)) (aIndex : Int) : Option ((List Tie) × Int) :=
  ((spec_AreTies aN aList).bind fun x1 => (bif (!x1) then some (([] : List Tie), 1) else ((spec_l01In aIndex 0 (w64 ((aList.length : Int) - 1))).bind fun x2 => (bif (!x2) then some (([] : List Tie), 2) else ((spec_l31Without aList aIndex).bind fun x3 => some (x3, 0))))))
set_option maxRecDepth 100000 in
set_option maxHeartbeats 4000000 in
theorem spec_RemoveTie_run (aN : Int) (aList : (List Tie)) (aIndex : Int) (r : (List Tie) × Int) (h : spec_RemoveTie aN aList aIndex = some r) : SCall Tryd.prog 19 [.v (vi aN), .v (vl eTie aList), .v (vi aIndex)] ⟨[.own 42 4 r.1.length (r.1.map eTie), .v (vi r.2)], [], false⟩ := by
  refine scall_in Tryd.func19 rfl [(.tmp 6), (.tmp 7)] rfl (fun r => ⟨[.own 42 4 r.1.length (r.1.map eTie), .v (vi r.2)], [], false⟩) (r := r) ?_
  unfold spec_RemoveTie at h
  refine swp_seq ?_
  refine swp_reg ?_
  refine SRun.ck tbok 2 ⟨21, [(0, vi aN), (1, vl eTie aList), (2, vi aIndex)], []⟩ ?_
  refine SRun.nil ?_
  refine nx_n ?_
  refine swp_seq ?_
  refine swp_seq ?_
  refine swp_reg ?_
  refine SRun.ck tbok 2 ⟨21, [(1, vl eTie aList), (2, vi aIndex), (8, vi aN), (9, vl eTie aList)], []⟩ ?_
  obtain ⟨x1, hx1, h⟩ := bind_some h
  refine SRun.ls (x_lstep_call (f := 15) (caps := []) (xs := [vi aN, vl eTie aList]) (ys := [vi aN, vl eTie aList]) (res := ⟨[.v (vb x1)], [], false⟩) (x := vb x1) (y := none) rfl ents15 (spec_AreTies_run aN aList _ hx1) rfl (by intro hc; cases hc)) ?_
  refine SRun.ck tbok 1 ⟨21, [(1, vl eTie aList), (2, vi aIndex), (11, vb (!x1))], []⟩ ?_
  refine SRun.nil ?_
  refine nx_n ?_
  refine swp_cond (b := (!x1)) (by kernel_rfl) (fun hb => ?_) (fun hb => ?_)
  replace h := cond_t hb h
  refine swp_seq ?_
  refine swp_reg ?_
  refine SRun.ck tbok 2 ⟨21, [(6, .own 6), (7, vi 1)], [(6, .arr 42 4 ([] : List Tie).length (([] : List Tie).map eTie))]⟩ ?_
  refine SRun.nil ?_
  refine nx_n ?_
  refine swp_ret ?_
  replace h := Option.some.inj h
  subst h
  exact nx_r (q_fr (fin2 (by kernel_rfl) (finO (d := 6) (holds_t (by kernel_rfl)) (by kernel_rfl) (flat_map eTie_flat _) (by kernel_rfl)) (finV rfl SV.flat_of (holds_t (by kernel_rfl)))))
  replace h := cond_f hb h
  refine swp_skip ?_
  refine nx_n ?_
  refine swp_seq ?_
  refine swp_seq ?_
  refine swp_reg ?_
  refine SRun.ck tbok 4 ⟨21, [(1, vl eTie aList), (2, vi aIndex), (12, vi aIndex), (15, vi (w64 ((aList.length : Int) - 1)))], []⟩ ?_
  obtain ⟨x2, hx2, h⟩ := bind_some h
  refine SRun.ls (x_lstep_call (f := 55) (caps := []) (xs := [vi aIndex, vi 0, vi (w64 ((aList.length : Int) - 1))]) (ys := [vi aIndex, vi 0, vi (w64 ((aList.length : Int) - 1))]) (res := ⟨[.v (vb x2)], [], false⟩) (x := vb x2) (y := none) rfl ents55 (spec_l01In_run aIndex 0 (w64 ((aList.length : Int) - 1)) _ hx2) rfl (by intro hc; cases hc)) ?_
  refine SRun.ck tbok 1 ⟨21, [(1, vl eTie aList), (2, vi aIndex), (17, vb (!x2))], []⟩ ?_
  refine SRun.nil ?_
  refine nx_n ?_
  refine swp_cond (b := (!x2)) (by kernel_rfl) (fun hb => ?_) (fun hb => ?_)
  replace h := cond_t hb h
  refine swp_seq ?_
  refine swp_reg ?_
  refine SRun.ck tbok 2 ⟨21, [(6, .own 6), (7, vi 2)], [(6, .arr 42 4 ([] : List Tie).length (([] : List Tie).map eTie))]⟩ ?_
  refine SRun.nil ?_
  refine nx_n ?_
  refine swp_ret ?_
  replace h := Option.some.inj h
  subst h
  exact nx_r (q_fr (fin2 (by kernel_rfl) (finO (d := 6) (holds_t (by kernel_rfl)) (by kernel_rfl) (flat_map eTie_flat _) (by kernel_rfl)) (finV rfl SV.flat_of (holds_t (by kernel_rfl)))))
  replace h := cond_f hb h
  refine swp_skip ?_
  refine nx_n ?_
  refine swp_seq ?_
  refine swp_reg ?_
  refine SRun.ck tbok 2 ⟨21, [(18, vl eTie aList), (19, vi aIndex)], []⟩ ?_
  obtain ⟨x3, hx3, h⟩ := bind_some h
  refine SRun.ls (x_lstep_call (f := 61) (caps := []) (xs := [vl eTie aList, vi aIndex]) (ys := [vl eTie aList, vi aIndex]) (res := ⟨[.own 42 4 x3.length (x3.map eTie)], [], false⟩) (x := .own 20) (y := some (.arr 42 4 x3.length (x3.map eTie))) rfl ents61 (spec_l31Without_run aList aIndex _ hx3) rfl (by intro hc; cases hc)) ?_
  refine SRun.ck tbok 2 ⟨21, [(6, .own 20), (7, vi 0)], [(20, .arr 42 4 x3.length (x3.map eTie))]⟩ ?_
  refine SRun.nil ?_
  refine nx_n ?_
  refine swp_ret ?_
  replace h := Option.some.inj h
  subst h
  exact q_fr (fin2 (by kernel_rfl) (finO (d := 20) (holds_t (by kernel_rfl)) (by kernel_rfl) (flat_map eTie_flat _) (by kernel_rfl)) (finV rfl SV.flat_of (holds_t (by kernel_rfl))))
theorem ents19 : Ents Tryd.prog 19 := ents_of Tryd.func19 (by kernel_rfl) rfl
noncomputable def impl_Refutation (aN : Int) (aList : (List Tie)) : Option (Int × (List Int) × Int) :=
  ((impl_AreTies aN aList).bind fun x1 => (bif (!x1) then some (0, ([] : List Int), 1) else ((impl_refuted aN aList).bind fun x2 => (bif (decide (x2 < 0)) then some (0, ([] : List Int), 4) else ((at' aList x2).bind fun x3 => ((at' aList x2).bind fun x4 => ((impl_proofOf aN aList x3.A x4.B).bind fun x5 => some (x2, x5, 0))))))))
set_option maxRecDepth 100000 in
set_option maxHeartbeats 4000000 in
theorem impl_Refutation_run (aN : Int) (aList : (List Tie)) (r : Int × (List Int) × Int) (h : impl_Refutation aN aList = some r) : SCall Tryd.prog 39 [.v (vi aN), .v (vl eTie aList)] ⟨[.v (vi r.1), .own 2 1 r.2.1.length (r.2.1.map (eI .i64)), .v (vi r.2.2)], [], false⟩ := by
  refine scall_in Tryd.func39 rfl [(.tmp 4), (.tmp 5), (.tmp 6)] rfl (fun r => ⟨[.v (vi r.1), .own 2 1 r.2.1.length (r.2.1.map (eI .i64)), .v (vi r.2.2)], [], false⟩) (r := r) ?_
  unfold impl_Refutation at h
  refine swp_seq ?_
  refine swp_reg ?_
  refine SRun.ck tbok 3 ⟨31, [(0, vi aN), (1, vl eTie aList)], []⟩ ?_
  refine SRun.nil ?_
  refine nx_n ?_
  refine swp_seq ?_
  refine swp_seq ?_
  refine swp_reg ?_
  refine SRun.ck tbok 2 ⟨31, [(0, vi aN), (1, vl eTie aList), (8, vi aN), (9, vl eTie aList)], []⟩ ?_
  obtain ⟨x1, hx1, h⟩ := bind_some h
  refine SRun.ls (x_lstep_call (f := 17) (caps := []) (xs := [vi aN, vl eTie aList]) (ys := [vi aN, vl eTie aList]) (res := ⟨[.v (vb x1)], [], false⟩) (x := vb x1) (y := none) rfl ents17 (impl_AreTies_run aN aList _ hx1) rfl (by intro hc; cases hc)) ?_
  refine SRun.ck tbok 1 ⟨31, [(0, vi aN), (1, vl eTie aList), (11, vb (!x1))], []⟩ ?_
  refine SRun.nil ?_
  refine nx_n ?_
  refine swp_cond (b := (!x1)) (by kernel_rfl) (fun hb => ?_) (fun hb => ?_)
  replace h := cond_t hb h
  refine swp_seq ?_
  refine swp_reg ?_
  refine SRun.ck tbok 3 ⟨31, [(4, vi 0), (5, .own 5), (6, vi 1)], [(5, .arr 2 1 ([] : List Int).length (([] : List Int).map (eI .i64)))]⟩ ?_
  refine SRun.nil ?_
  refine nx_n ?_
  refine swp_ret ?_
  replace h := Option.some.inj h
  subst h
  exact nx_r (q_fr (fin3 (by kernel_rfl) (finV rfl SV.flat_of (holds_t (by kernel_rfl))) (finO (d := 5) (holds_t (by kernel_rfl)) (by kernel_rfl) (flat_map (eI_flat .i64) _) (by kernel_rfl)) (finV rfl SV.flat_of (holds_t (by kernel_rfl)))))
  replace h := cond_f hb h
  refine swp_skip ?_
  refine nx_n ?_
  refine swp_seq ?_
  refine swp_reg ?_
  refine SRun.ck tbok 2 ⟨31, [(0, vi aN), (1, vl eTie aList), (12, vi aN), (13, vl eTie aList)], []⟩ ?_
  obtain ⟨x2, hx2, h⟩ := bind_some h
  refine SRun.ls (x_lstep_call (f := 66) (caps := []) (xs := [vi aN, vl eTie aList]) (ys := [vi aN, vl eTie aList]) (res := ⟨[.v (vi x2)], [], false⟩) (x := vi x2) (y := none) rfl ents66 (impl_refuted_run aN aList _ hx2) rfl (by intro hc; cases hc)) ?_
  refine SRun.ck tbok 1 ⟨31, [(0, vi aN), (1, vl eTie aList), (7, vi x2)], []⟩ ?_
  refine SRun.nil ?_
  refine nx_n ?_
  refine swp_seq ?_
  refine swp_seq ?_
  refine swp_reg ?_
  refine SRun.ck tbok 2 ⟨31, [(0, vi aN), (1, vl eTie aList), (7, vi x2), (16, vb (decide (x2 < 0)))], []⟩ ?_
  refine SRun.nil ?_
  refine nx_n ?_
  refine swp_cond (b := (decide (x2 < 0))) (by kernel_rfl) (fun hb => ?_) (fun hb => ?_)
  replace h := cond_t hb h
  refine swp_seq ?_
  refine swp_reg ?_
  refine SRun.ck tbok 3 ⟨31, [(4, vi 0), (5, .own 5), (6, vi 4)], [(5, .arr 2 1 ([] : List Int).length (([] : List Int).map (eI .i64)))]⟩ ?_
  refine SRun.nil ?_
  refine nx_n ?_
  refine swp_ret ?_
  replace h := Option.some.inj h
  subst h
  exact nx_r (q_fr (fin3 (by kernel_rfl) (finV rfl SV.flat_of (holds_t (by kernel_rfl))) (finO (d := 5) (holds_t (by kernel_rfl)) (by kernel_rfl) (flat_map (eI_flat .i64) _) (by kernel_rfl)) (finV rfl SV.flat_of (holds_t (by kernel_rfl)))))
  replace h := cond_f hb h
  refine swp_skip ?_
  refine nx_n ?_
  refine swp_seq ?_
  refine swp_dr mixed ?_
  refine DGo.chunk' tbok 5 (σ' := ⟨31, [(21, vi x2), (20, vl eTie aList), (19, vl eTie aList), (18, vi aN), (17, vi x2), (0, vi aN), (1, vl eTie aList), (7, vi x2), (16, vb (decide (x2 < 0)))], []⟩) (by kernel_rfl) ?_
  obtain ⟨x3, hx3, h⟩ := bind_some h
  refine DGo.step (x_index (L := aList) (f := eTie) (ti := ti25) (tj := ti42) (e := 42) (k := .i64) tbok rfl hx3) ?_
  refine DGo.chunk' tbok 4 (σ' := ⟨31, [(26, vi x2), (25, vl eTie aList), (24, vi x3.A), (23, .ptr ((eTie x3).map .tr) 0), (22, .ptr ((eTie x3).map .tr) 0), (21, vi x2), (20, vl eTie aList), (19, vl eTie aList), (18, vi aN), (17, vi x2), (0, vi aN), (1, vl eTie aList), (7, vi x2), (16, vb (decide (x2 < 0)))], []⟩) (by kernel_rfl) ?_
  obtain ⟨x4, hx4, h⟩ := bind_some h
  refine DGo.step (x_index (L := aList) (f := eTie) (ti := ti25) (tj := ti42) (e := 42) (k := .i64) tbok rfl hx4) ?_
  refine DGo.chunk' tbok 2 (σ' := ⟨31, [(29, vi x4.B), (28, .ptr ((eTie x4).map .tr) 1), (27, .ptr ((eTie x4).map .tr) 0), (26, vi x2), (25, vl eTie aList), (24, vi x3.A), (23, .ptr ((eTie x3).map .tr) 0), (22, .ptr ((eTie x3).map .tr) 0), (21, vi x2), (20, vl eTie aList), (19, vl eTie aList), (18, vi aN), (17, vi x2), (0, vi aN), (1, vl eTie aList), (7, vi x2), (16, vb (decide (x2 < 0)))], []⟩) (by kernel_rfl) ?_
  obtain ⟨x5, hx5, h⟩ := bind_some h
  refine DGo.step (x_lstep_call (f := 73) (caps := []) (xs := [vi aN, vl eTie aList, vi x3.A, vi x4.B]) (ys := [vi aN, vl eTie aList, vi x3.A, vi x4.B]) (res := ⟨[.own 2 1 x5.length (x5.map (eI .i64))], [], false⟩) (x := .own 30) (y := some (.arr 2 1 x5.length (x5.map (eI .i64)))) rfl ents73 (impl_proofOf_run aN aList x3.A x4.B _ hx5) rfl (by intro hc; cases hc)) ?_
  refine DGo.chunk' tbok 3 (σ' := ⟨31, [(6, vi 0), (5, .own 30), (4, vi x2), (30, .own 30), (29, vi x4.B), (28, .ptr ((eTie x4).map .tr) 1), (27, .ptr ((eTie x4).map .tr) 0), (26, vi x2), (25, vl eTie aList), (24, vi x3.A), (23, .ptr ((eTie x3).map .tr) 0), (22, .ptr ((eTie x3).map .tr) 0), (21, vi x2), (20, vl eTie aList), (19, vl eTie aList), (18, vi aN), (17, vi x2), (0, vi aN), (1, vl eTie aList), (7, vi x2), (16, vb (decide (x2 < 0)))], [(30, .arr 2 1 x5.length (x5.map (eI .i64)))]⟩) (by kernel_rfl) ?_
  refine DGo.nil (by kernel_rfl) ?_
  refine nx_n ?_
  refine swp_ret ?_
  replace h := Option.some.inj h
  subst h
  exact q_fr (fin3 (by kernel_rfl) (finV rfl SV.flat_of (holds_t (by kernel_rfl))) (finO (d := 30) (holds_t (by kernel_rfl)) (by kernel_rfl) (flat_map (eI_flat .i64) _) (by kernel_rfl)) (finV rfl SV.flat_of (holds_t (by kernel_rfl))))
theorem ents39 : Ents Tryd.prog 39 := ents_of Tryd.func39 (by kernel_rfl) rfl
noncomputable def spec_Refutation (aN : Int) (aList : (List Tie)) : Option (Int × (List Int) × Int) :=
  ((spec_AreTies aN aList).bind fun x1 => (bif (!x1) then some (0, ([] : List Int), 1) else ((spec_l31Wrong aN aList).bind fun x2 => (bif (decide (x2 < 0)) then some (0, ([] : List Int), 4) else ((at' aList x2).bind fun x3 => ((at' aList x2).bind fun x4 => ((spec_l31Proof aN aList x3.A x4.B).bind fun x5 => some (x2, x5, 0))))))))
set_option maxRecDepth 100000 in
set_option maxHeartbeats 4000000 in
theorem spec_Refutation_run (aN : Int) (aList : (List Tie)) (r : Int × (List Int) × Int) (h : spec_Refutation aN aList = some r) : SCall Tryd.prog 38 [.v (vi aN), .v (vl eTie aList)] ⟨[.v (vi r.1), .own 2 1 r.2.1.length (r.2.1.map (eI .i64)), .v (vi r.2.2)], [], false⟩ := by
  refine scall_in Tryd.func38 rfl [(.tmp 4), (.tmp 5), (.tmp 6)] rfl (fun r => ⟨[.v (vi r.1), .own 2 1 r.2.1.length (r.2.1.map (eI .i64)), .v (vi r.2.2)], [], false⟩) (r := r) ?_
  unfold spec_Refutation at h
  refine swp_seq ?_
  refine swp_reg ?_
  refine SRun.ck tbok 3 ⟨31, [(0, vi aN), (1, vl eTie aList)], []⟩ ?_
  refine SRun.nil ?_
  refine nx_n ?_
  refine swp_seq ?_
  refine swp_seq ?_
  refine swp_reg ?_
  refine SRun.ck tbok 2 ⟨31, [(0, vi aN), (1, vl eTie aList), (8, vi aN), (9, vl eTie aList)], []⟩ ?_
  obtain ⟨x1, hx1, h⟩ := bind_some h
  refine SRun.ls (x_lstep_call (f := 15) (caps := []) (xs := [vi aN, vl eTie aList]) (ys := [vi aN, vl eTie aList]) (res := ⟨[.v (vb x1)], [], false⟩) (x := vb x1) (y := none) rfl ents15 (spec_AreTies_run aN aList _ hx1) rfl (by intro hc; cases hc)) ?_
  refine SRun.ck tbok 1 ⟨31, [(0, vi aN), (1, vl eTie aList), (11, vb (!x1))], []⟩ ?_
  refine SRun.nil ?_
  refine nx_n ?_
  refine swp_cond (b := (!x1)) (by kernel_rfl) (fun hb => ?_) (fun hb => ?_)
  replace h := cond_t hb h
  refine swp_seq ?_
  refine swp_reg ?_
  refine SRun.ck tbok 3 ⟨31, [(4, vi 0), (5, .own 5), (6, vi 1)], [(5, .arr 2 1 ([] : List Int).length (([] : List Int).map (eI .i64)))]⟩ ?_
  refine SRun.nil ?_
  refine nx_n ?_
  refine swp_ret ?_
  replace h := Option.some.inj h
  subst h
  exact nx_r (q_fr (fin3 (by kernel_rfl) (finV rfl SV.flat_of (holds_t (by kernel_rfl))) (finO (d := 5) (holds_t (by kernel_rfl)) (by kernel_rfl) (flat_map (eI_flat .i64) _) (by kernel_rfl)) (finV rfl SV.flat_of (holds_t (by kernel_rfl)))))
  replace h := cond_f hb h
  refine swp_skip ?_
  refine nx_n ?_
  refine swp_seq ?_
  refine swp_reg ?_
  refine SRun.ck tbok 2 ⟨31, [(0, vi aN), (1, vl eTie aList), (12, vi aN), (13, vl eTie aList)], []⟩ ?_
  obtain ⟨x2, hx2, h⟩ := bind_some h
  refine SRun.ls (x_lstep_call (f := 65) (caps := []) (xs := [vi aN, vl eTie aList]) (ys := [vi aN, vl eTie aList]) (res := ⟨[.v (vi x2)], [], false⟩) (x := vi x2) (y := none) rfl ents65 (spec_l31Wrong_run aN aList _ hx2) rfl (by intro hc; cases hc)) ?_
  refine SRun.ck tbok 1 ⟨31, [(0, vi aN), (1, vl eTie aList), (7, vi x2)], []⟩ ?_
  refine SRun.nil ?_
  refine nx_n ?_
  refine swp_seq ?_
  refine swp_seq ?_
  refine swp_reg ?_
  refine SRun.ck tbok 2 ⟨31, [(0, vi aN), (1, vl eTie aList), (7, vi x2), (16, vb (decide (x2 < 0)))], []⟩ ?_
  refine SRun.nil ?_
  refine nx_n ?_
  refine swp_cond (b := (decide (x2 < 0))) (by kernel_rfl) (fun hb => ?_) (fun hb => ?_)
  replace h := cond_t hb h
  refine swp_seq ?_
  refine swp_reg ?_
  refine SRun.ck tbok 3 ⟨31, [(4, vi 0), (5, .own 5), (6, vi 4)], [(5, .arr 2 1 ([] : List Int).length (([] : List Int).map (eI .i64)))]⟩ ?_
  refine SRun.nil ?_
  refine nx_n ?_
  refine swp_ret ?_
  replace h := Option.some.inj h
  subst h
  exact nx_r (q_fr (fin3 (by kernel_rfl) (finV rfl SV.flat_of (holds_t (by kernel_rfl))) (finO (d := 5) (holds_t (by kernel_rfl)) (by kernel_rfl) (flat_map (eI_flat .i64) _) (by kernel_rfl)) (finV rfl SV.flat_of (holds_t (by kernel_rfl)))))
  replace h := cond_f hb h
  refine swp_skip ?_
  refine nx_n ?_
  refine swp_seq ?_
  refine swp_dr mixed ?_
  refine DGo.chunk' tbok 5 (σ' := ⟨31, [(21, vi x2), (20, vl eTie aList), (19, vl eTie aList), (18, vi aN), (17, vi x2), (0, vi aN), (1, vl eTie aList), (7, vi x2), (16, vb (decide (x2 < 0)))], []⟩) (by kernel_rfl) ?_
  obtain ⟨x3, hx3, h⟩ := bind_some h
  refine DGo.step (x_index (L := aList) (f := eTie) (ti := ti25) (tj := ti42) (e := 42) (k := .i64) tbok rfl hx3) ?_
  refine DGo.chunk' tbok 4 (σ' := ⟨31, [(26, vi x2), (25, vl eTie aList), (24, vi x3.A), (23, .ptr ((eTie x3).map .tr) 0), (22, .ptr ((eTie x3).map .tr) 0), (21, vi x2), (20, vl eTie aList), (19, vl eTie aList), (18, vi aN), (17, vi x2), (0, vi aN), (1, vl eTie aList), (7, vi x2), (16, vb (decide (x2 < 0)))], []⟩) (by kernel_rfl) ?_
  obtain ⟨x4, hx4, h⟩ := bind_some h
  refine DGo.step (x_index (L := aList) (f := eTie) (ti := ti25) (tj := ti42) (e := 42) (k := .i64) tbok rfl hx4) ?_
  refine DGo.chunk' tbok 2 (σ' := ⟨31, [(29, vi x4.B), (28, .ptr ((eTie x4).map .tr) 1), (27, .ptr ((eTie x4).map .tr) 0), (26, vi x2), (25, vl eTie aList), (24, vi x3.A), (23, .ptr ((eTie x3).map .tr) 0), (22, .ptr ((eTie x3).map .tr) 0), (21, vi x2), (20, vl eTie aList), (19, vl eTie aList), (18, vi aN), (17, vi x2), (0, vi aN), (1, vl eTie aList), (7, vi x2), (16, vb (decide (x2 < 0)))], []⟩) (by kernel_rfl) ?_
  obtain ⟨x5, hx5, h⟩ := bind_some h
  refine DGo.step (x_lstep_call (f := 72) (caps := []) (xs := [vi aN, vl eTie aList, vi x3.A, vi x4.B]) (ys := [vi aN, vl eTie aList, vi x3.A, vi x4.B]) (res := ⟨[.own 2 1 x5.length (x5.map (eI .i64))], [], false⟩) (x := .own 30) (y := some (.arr 2 1 x5.length (x5.map (eI .i64)))) rfl ents72 (spec_l31Proof_run aN aList x3.A x4.B _ hx5) rfl (by intro hc; cases hc)) ?_
  refine DGo.chunk' tbok 3 (σ' := ⟨31, [(6, vi 0), (5, .own 30), (4, vi x2), (30, .own 30), (29, vi x4.B), (28, .ptr ((eTie x4).map .tr) 1), (27, .ptr ((eTie x4).map .tr) 0), (26, vi x2), (25, vl eTie aList), (24, vi x3.A), (23, .ptr ((eTie x3).map .tr) 0), (22, .ptr ((eTie x3).map .tr) 0), (21, vi x2), (20, vl eTie aList), (19, vl eTie aList), (18, vi aN), (17, vi x2), (0, vi aN), (1, vl eTie aList), (7, vi x2), (16, vb (decide (x2 < 0)))], [(30, .arr 2 1 x5.length (x5.map (eI .i64)))]⟩) (by kernel_rfl) ?_
  refine DGo.nil (by kernel_rfl) ?_
  refine nx_n ?_
  refine swp_ret ?_
  replace h := Option.some.inj h
  subst h
  exact q_fr (fin3 (by kernel_rfl) (finV rfl SV.flat_of (holds_t (by kernel_rfl))) (finO (d := 30) (holds_t (by kernel_rfl)) (by kernel_rfl) (flat_map (eI_flat .i64) _) (by kernel_rfl)) (finV rfl SV.flat_of (holds_t (by kernel_rfl))))
theorem ents38 : Ents Tryd.prog 38 := ents_of Tryd.func38 (by kernel_rfl) rfl
noncomputable def impl_AreSound (aN : Int) (aList : (List Tie)) : Option (Bool × Int) :=
  ((impl_AreTies aN aList).bind fun x1 => (bif (!x1) then some (false, 1) else ((impl_refuted aN aList).bind fun x2 => some ((decide (x2 < 0)), 0))))
set_option maxRecDepth 100000 in
set_option maxHeartbeats 4000000 in
theorem impl_AreSound_run (aN : Int) (aList : (List Tie)) (r : Bool × Int) (h : impl_AreSound aN aList = some r) : SCall Tryd.prog 24 [.v (vi aN), .v (vl eTie aList)] ⟨[.v (vb r.1), .v (vi r.2)], [], false⟩ := by
  refine scall_in Tryd.func24 rfl [(.tmp 4), (.tmp 5)] rfl (fun r => ⟨[.v (vb r.1), .v (vi r.2)], [], false⟩) (r := r) ?_
  unfold impl_AreSound at h
  refine swp_seq ?_
  refine swp_reg ?_
  refine SRun.ck tbok 2 ⟨14, [(0, vi aN), (1, vl eTie aList)], []⟩ ?_
  refine SRun.nil ?_
  refine nx_n ?_
  refine swp_seq ?_
  refine swp_seq ?_
  refine swp_reg ?_
  refine SRun.ck tbok 2 ⟨14, [(0, vi aN), (1, vl eTie aList), (6, vi aN), (7, vl eTie aList)], []⟩ ?_
  obtain ⟨x1, hx1, h⟩ := bind_some h
  refine SRun.ls (x_lstep_call (f := 17) (caps := []) (xs := [vi aN, vl eTie aList]) (ys := [vi aN, vl eTie aList]) (res := ⟨[.v (vb x1)], [], false⟩) (x := vb x1) (y := none) rfl ents17 (impl_AreTies_run aN aList _ hx1) rfl (by intro hc; cases hc)) ?_
  refine SRun.ck tbok 1 ⟨14, [(0, vi aN), (1, vl eTie aList), (9, vb (!x1))], []⟩ ?_
  refine SRun.nil ?_
  refine nx_n ?_
  refine swp_cond (b := (!x1)) (by kernel_rfl) (fun hb => ?_) (fun hb => ?_)
  replace h := cond_t hb h
  refine swp_seq ?_
  refine swp_reg ?_
  refine SRun.ck tbok 2 ⟨14, [(4, vb false), (5, vi 1)], []⟩ ?_
  refine SRun.nil ?_
  refine nx_n ?_
  refine swp_ret ?_
  replace h := Option.some.inj h
  subst h
  exact nx_r (q_fr (fin2 (by kernel_rfl) (finV rfl SV.flat_of (holds_t (by kernel_rfl))) (finV rfl SV.flat_of (holds_t (by kernel_rfl)))))
  replace h := cond_f hb h
  refine swp_skip ?_
  refine nx_n ?_
  refine swp_seq ?_
  refine swp_reg ?_
  refine SRun.ck tbok 2 ⟨14, [(10, vi aN), (11, vl eTie aList)], []⟩ ?_
  obtain ⟨x2, hx2, h⟩ := bind_some h
  refine SRun.ls (x_lstep_call (f := 66) (caps := []) (xs := [vi aN, vl eTie aList]) (ys := [vi aN, vl eTie aList]) (res := ⟨[.v (vi x2)], [], false⟩) (x := vi x2) (y := none) rfl ents66 (impl_refuted_run aN aList _ hx2) rfl (by intro hc; cases hc)) ?_
  refine SRun.ck tbok 3 ⟨14, [(4, vb (decide (x2 < 0))), (5, vi 0)], []⟩ ?_
  refine SRun.nil ?_
  refine nx_n ?_
  refine swp_ret ?_
  replace h := Option.some.inj h
  subst h
  exact q_fr (fin2 (by kernel_rfl) (finV rfl SV.flat_of (holds_t (by kernel_rfl))) (finV rfl SV.flat_of (holds_t (by kernel_rfl))))
theorem ents24 : Ents Tryd.prog 24 := ents_of Tryd.func24 (by kernel_rfl) rfl
noncomputable def spec_AreSound (aN : Int) (aList : (List Tie)) : Option (Bool × Int) :=
  ((spec_AreTies aN aList).bind fun x1 => (bif (!x1) then some (false, 1) else ((spec_l31Wrong aN aList).bind fun x2 => some ((decide (x2 < 0)), 0))))
set_option maxRecDepth 100000 in
set_option maxHeartbeats 4000000 in
theorem spec_AreSound_run (aN : Int) (aList : (List Tie)) (r : Bool × Int) (h : spec_AreSound aN aList = some r) : SCall Tryd.prog 23 [.v (vi aN), .v (vl eTie aList)] ⟨[.v (vb r.1), .v (vi r.2)], [], false⟩ := by
  refine scall_in Tryd.func23 rfl [(.tmp 4), (.tmp 5)] rfl (fun r => ⟨[.v (vb r.1), .v (vi r.2)], [], false⟩) (r := r) ?_
  unfold spec_AreSound at h
  refine swp_seq ?_
  refine swp_reg ?_
  refine SRun.ck tbok 2 ⟨14, [(0, vi aN), (1, vl eTie aList)], []⟩ ?_
  refine SRun.nil ?_
  refine nx_n ?_
  refine swp_seq ?_
  refine swp_seq ?_
  refine swp_reg ?_
  refine SRun.ck tbok 2 ⟨14, [(0, vi aN), (1, vl eTie aList), (6, vi aN), (7, vl eTie aList)], []⟩ ?_
  obtain ⟨x1, hx1, h⟩ := bind_some h
  refine SRun.ls (x_lstep_call (f := 15) (caps := []) (xs := [vi aN, vl eTie aList]) (ys := [vi aN, vl eTie aList]) (res := ⟨[.v (vb x1)], [], false⟩) (x := vb x1) (y := none) rfl ents15 (spec_AreTies_run aN aList _ hx1) rfl (by intro hc; cases hc)) ?_
  refine SRun.ck tbok 1 ⟨14, [(0, vi aN), (1, vl eTie aList), (9, vb (!x1))], []⟩ ?_
  refine SRun.nil ?_
  refine nx_n ?_
  refine swp_cond (b := (!x1)) (by kernel_rfl) (fun hb => ?_) (fun hb => ?_)
  replace h := cond_t hb h
  refine swp_seq ?_
  refine swp_reg ?_
  refine SRun.ck tbok 2 ⟨14, [(4, vb false), (5, vi 1)], []⟩ ?_
  refine SRun.nil ?_
  refine nx_n ?_
  refine swp_ret ?_
  replace h := Option.some.inj h
  subst h
  exact nx_r (q_fr (fin2 (by kernel_rfl) (finV rfl SV.flat_of (holds_t (by kernel_rfl))) (finV rfl SV.flat_of (holds_t (by kernel_rfl)))))
  replace h := cond_f hb h
  refine swp_skip ?_
  refine nx_n ?_
  refine swp_seq ?_
  refine swp_reg ?_
  refine SRun.ck tbok 2 ⟨14, [(10, vi aN), (11, vl eTie aList)], []⟩ ?_
  obtain ⟨x2, hx2, h⟩ := bind_some h
  refine SRun.ls (x_lstep_call (f := 65) (caps := []) (xs := [vi aN, vl eTie aList]) (ys := [vi aN, vl eTie aList]) (res := ⟨[.v (vi x2)], [], false⟩) (x := vi x2) (y := none) rfl ents65 (spec_l31Wrong_run aN aList _ hx2) rfl (by intro hc; cases hc)) ?_
  refine SRun.ck tbok 3 ⟨14, [(4, vb (decide (x2 < 0))), (5, vi 0)], []⟩ ?_
  refine SRun.nil ?_
  refine nx_n ?_
  refine swp_ret ?_
  replace h := Option.some.inj h
  subst h
  exact q_fr (fin2 (by kernel_rfl) (finV rfl SV.flat_of (holds_t (by kernel_rfl))) (finV rfl SV.flat_of (holds_t (by kernel_rfl))))
theorem ents23 : Ents Tryd.prog 23 := ents_of Tryd.func23 (by kernel_rfl) rfl
noncomputable def impl_GroupsOf (aN : Int) (aList : (List Tie)) : Option ((List (List Int)) × Int) :=
  ((impl_AreTies aN aList).bind fun x1 => (bif (!x1) then some (([] : List (List Int)), 1) else ((impl_groupsOf aN aList).bind fun x2 => some (x2, 0))))
set_option maxRecDepth 100000 in
set_option maxHeartbeats 4000000 in
theorem impl_GroupsOf_run (aN : Int) (aList : (List Tie)) (r : (List (List Int)) × Int) (h : impl_GroupsOf aN aList = some r) : SCall Tryd.prog 34 [.v (vi aN), .v (vl eTie aList)] ⟨[.own 50 1 r.1.length (r.1.map (eL (eI .i64))), .v (vi r.2)], [], true⟩ := by
  refine scall_in Tryd.func34 rfl [(.tmp 4), (.tmp 5)] rfl (fun r => ⟨[.own 50 1 r.1.length (r.1.map (eL (eI .i64))), .v (vi r.2)], [], true⟩) (r := r) ?_
  unfold impl_GroupsOf at h
  refine swp_seq ?_
  refine swp_reg ?_
  refine SRun.ck tbok 2 ⟨13, [(0, vi aN), (1, vl eTie aList)], []⟩ ?_
  refine SRun.nil ?_
  refine nx_n ?_
  refine swp_seq ?_
  refine swp_seq ?_
  refine swp_reg ?_
  refine SRun.ck tbok 2 ⟨13, [(0, vi aN), (1, vl eTie aList), (6, vi aN), (7, vl eTie aList)], []⟩ ?_
  obtain ⟨x1, hx1, h⟩ := bind_some h
  refine SRun.ls (x_lstep_call (f := 17) (caps := []) (xs := [vi aN, vl eTie aList]) (ys := [vi aN, vl eTie aList]) (res := ⟨[.v (vb x1)], [], false⟩) (x := vb x1) (y := none) rfl ents17 (impl_AreTies_run aN aList _ hx1) rfl (by intro hc; cases hc)) ?_
  refine SRun.ck tbok 1 ⟨13, [(0, vi aN), (1, vl eTie aList), (9, vb (!x1))], []⟩ ?_
  refine SRun.nil ?_
  refine nx_n ?_
  refine swp_cond (b := (!x1)) (by kernel_rfl) (fun hb => ?_) (fun hb => ?_)
  replace h := cond_t hb h
  refine swp_seq ?_
  refine swp_reg ?_
  refine SRun.ck tbok 2 ⟨13, [(4, .own 4), (5, vi 1)], [(4, .arr 50 1 ([] : List (List Int)).length (([] : List (List Int)).map (eL (eI .i64))))]⟩ ?_
  refine SRun.nil ?_
  refine nx_n ?_
  refine swp_ret ?_
  replace h := Option.some.inj h
  subst h
  exact nx_r (q_fr (fin2 (by kernel_rfl) (finOT (d := 4) (holds_t (by kernel_rfl)) (by kernel_rfl) (by kernel_rfl)) (finT rfl (holds_t (by kernel_rfl)))))
  replace h := cond_f hb h
  refine swp_skip ?_
  refine nx_n ?_
  refine swp_seq ?_
  refine swp_reg ?_
  refine SRun.ck tbok 2 ⟨13, [(10, vi aN), (11, vl eTie aList)], []⟩ ?_
  obtain ⟨x2, hx2, h⟩ := bind_some h
  refine SRun.ls (x_lstep_call (f := 71) (caps := []) (xs := [vi aN, vl eTie aList]) (ys := [vi aN, vl eTie aList]) (res := ⟨[.own 50 1 x2.length (x2.map (eL (eI .i64)))], [], true⟩) (x := .own 12) (y := some (.arr 50 1 x2.length (x2.map (eL (eI .i64))))) rfl ents71 (impl_groupsOf_run aN aList _ hx2) rfl (fun _ => rfl)) ?_
  refine SRun.ck tbok 2 ⟨13, [(4, .own 12), (5, vi 0)], [(12, .arr 50 1 x2.length (x2.map (eL (eI .i64))))]⟩ ?_
  refine SRun.nil ?_
  refine nx_n ?_
  refine swp_ret ?_
  replace h := Option.some.inj h
  subst h
  exact q_fr (fin2 (by kernel_rfl) (finOT (d := 12) (holds_t (by kernel_rfl)) (by kernel_rfl) (by kernel_rfl)) (finT rfl (holds_t (by kernel_rfl))))
theorem ents34 : Ents Tryd.prog 34 := ents_of Tryd.func34 (by kernel_rfl) rfl
noncomputable def spec_GroupsOf (aN : Int) (aList : (List Tie)) : Option ((List (List Int)) × Int) :=
  ((spec_AreTies aN aList).bind fun x1 => (bif (!x1) then some (([] : List (List Int)), 1) else ((spec_l31Groups aN aList).bind fun x2 => some (x2, 0))))
set_option maxRecDepth 100000 in
set_option maxHeartbeats 4000000 in
theorem spec_GroupsOf_run (aN : Int) (aList : (List Tie)) (r : (List (List Int)) × Int) (h : spec_GroupsOf aN aList = some r) : SCall Tryd.prog 33 [.v (vi aN), .v (vl eTie aList)] ⟨[.own 50 1 r.1.length (r.1.map (eL (eI .i64))), .v (vi r.2)], [], true⟩ := by
  refine scall_in Tryd.func33 rfl [(.tmp 4), (.tmp 5)] rfl (fun r => ⟨[.own 50 1 r.1.length (r.1.map (eL (eI .i64))), .v (vi r.2)], [], true⟩) (r := r) ?_
  unfold spec_GroupsOf at h
  refine swp_seq ?_
  refine swp_reg ?_
  refine SRun.ck tbok 2 ⟨13, [(0, vi aN), (1, vl eTie aList)], []⟩ ?_
  refine SRun.nil ?_
  refine nx_n ?_
  refine swp_seq ?_
  refine swp_seq ?_
  refine swp_reg ?_
  refine SRun.ck tbok 2 ⟨13, [(0, vi aN), (1, vl eTie aList), (6, vi aN), (7, vl eTie aList)], []⟩ ?_
  obtain ⟨x1, hx1, h⟩ := bind_some h
  refine SRun.ls (x_lstep_call (f := 15) (caps := []) (xs := [vi aN, vl eTie aList]) (ys := [vi aN, vl eTie aList]) (res := ⟨[.v (vb x1)], [], false⟩) (x := vb x1) (y := none) rfl ents15 (spec_AreTies_run aN aList _ hx1) rfl (by intro hc; cases hc)) ?_
  refine SRun.ck tbok 1 ⟨13, [(0, vi aN), (1, vl eTie aList), (9, vb (!x1))], []⟩ ?_
  refine SRun.nil ?_
  refine nx_n ?_
  refine swp_cond (b := (!x1)) (by kernel_rfl) (fun hb => ?_) (fun hb => ?_)
  replace h := cond_t hb h
  refine swp_seq ?_
  refine swp_reg ?_
  refine SRun.ck tbok 2 ⟨13, [(4, .own 4), (5, vi 1)], [(4, .arr 50 1 ([] : List (List Int)).length (([] : List (List Int)).map (eL (eI .i64))))]⟩ ?_
  refine SRun.nil ?_
  refine nx_n ?_
  refine swp_ret ?_
  replace h := Option.some.inj h
  subst h
  exact nx_r (q_fr (fin2 (by kernel_rfl) (finOT (d := 4) (holds_t (by kernel_rfl)) (by kernel_rfl) (by kernel_rfl)) (finT rfl (holds_t (by kernel_rfl)))))
  replace h := cond_f hb h
  refine swp_skip ?_
  refine nx_n ?_
  refine swp_seq ?_
  refine swp_reg ?_
  refine SRun.ck tbok 2 ⟨13, [(10, vi aN), (11, vl eTie aList)], []⟩ ?_
  obtain ⟨x2, hx2, h⟩ := bind_some h
  refine SRun.ls (x_lstep_call (f := 70) (caps := []) (xs := [vi aN, vl eTie aList]) (ys := [vi aN, vl eTie aList]) (res := ⟨[.own 50 1 x2.length (x2.map (eL (eI .i64)))], [], true⟩) (x := .own 12) (y := some (.arr 50 1 x2.length (x2.map (eL (eI .i64))))) rfl ents70 (spec_l31Groups_run aN aList _ hx2) rfl (fun _ => rfl)) ?_
  refine SRun.ck tbok 2 ⟨13, [(4, .own 12), (5, vi 0)], [(12, .arr 50 1 x2.length (x2.map (eL (eI .i64))))]⟩ ?_
  refine SRun.nil ?_
  refine nx_n ?_
  refine swp_ret ?_
  replace h := Option.some.inj h
  subst h
  exact q_fr (fin2 (by kernel_rfl) (finOT (d := 12) (holds_t (by kernel_rfl)) (by kernel_rfl) (by kernel_rfl)) (finT rfl (holds_t (by kernel_rfl))))
theorem ents33 : Ents Tryd.prog 33 := ents_of Tryd.func33 (by kernel_rfl) rfl
end Go.Proofs.YtmbejkchgdcdhaaDoor.Sh
