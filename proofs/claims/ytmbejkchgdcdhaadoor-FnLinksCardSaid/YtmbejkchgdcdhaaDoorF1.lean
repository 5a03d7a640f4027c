/- Typed functions and the calls that do what they say. -/
import Derived.Test.YtmbejkchgdcdhaaDoorSB
import Derived.Test.YtmbejkchgdcdhaaDoorKA
import Derived.Test.YtmbejkchgdcdhaaDoorKR
import Derived.Test.YtmbejkchgdcdhaaDoorH1
import Derived.Test.YtmbejkchgdcdhaaDoorGA
import Derived.Test.YtmbejkchgdcdhaaDoorGB
import Derived.Test.YtmbejkchgdcdhaaDoorGD
namespace Go.Proofs.YtmbejkchgdcdhaaDoor.Sh
open Go.RowKit

def tblF1 : Tb := [(2, ti2), (3, ti3), (4, ti4), (5, ti5), (9, ti9), (25, ti25), (42, ti42), (45, ti45), (50, ti50), (57, ti57), (103, ti103), (105, ti105)]
theorem tbokF1 : TbOk Tryd.prog tblF1 := TbOk.cons ⟨by kernel_rfl, show Tryd.prog.underlying 2 = some (.int .i64) from by kernel_rfl⟩ (TbOk.cons ⟨by kernel_rfl, show Tryd.prog.underlying 3 = some (.int .i64) from by kernel_rfl⟩ (TbOk.cons ⟨by kernel_rfl, show Tryd.prog.underlying 4 = some (.bool) from by kernel_rfl⟩ (TbOk.cons ⟨by kernel_rfl, show Tryd.prog.underlying 5 = some (.int .u8) from by kernel_rfl⟩ (TbOk.cons ⟨by kernel_rfl, show Tryd.prog.underlying 9 = some (.string) from by kernel_rfl⟩ (TbOk.cons ⟨by kernel_rfl, show Tryd.prog.underlying 25 = some (.slice 42) from by kernel_rfl⟩ (TbOk.cons ⟨by kernel_rfl, show structOf Tryd.prog 42 = some [(0, 2), (1, 2), (2, 4), (3, 9)] from by kernel_rfl⟩ (TbOk.cons ⟨by kernel_rfl, show Tryd.prog.underlying 45 = some (.slice 50) from by kernel_rfl⟩ (TbOk.cons ⟨by kernel_rfl, show Tryd.prog.underlying 50 = some (.slice 2) from by kernel_rfl⟩ (TbOk.cons ⟨by kernel_rfl, show Tryd.prog.underlying 57 = some (.slice 5) from by kernel_rfl⟩ (TbOk.cons ⟨by kernel_rfl, show structOf Tryd.prog 103 = some [(0, 57), (1, 3), (2, 2)] from by kernel_rfl⟩ (TbOk.cons ⟨by kernel_rfl, show Tryd.prog.underlying 105 = some (.slice 9) from by kernel_rfl⟩ (TbOk.nil _))))))))))))
noncomputable def laws_big (aCode : (List Int)) : Option (Bool) :=
  some (decide ((aCode.length : Int) > 4096))
set_option maxRecDepth 100000 in
set_option maxHeartbeats 4000000 in
theorem laws_big_run (aCode : (List Int)) (r : Bool) (h : laws_big aCode = some r) : SCall Tryd.prog 45 [.v (vl (eI .u8) aCode)] ⟨[.v (vb r)], [], false⟩ := by
  refine scall_in Tryd.func45 rfl [(.tmp 2)] rfl (fun r => ⟨[.v (vb r)], [], false⟩) (r := r) ?_
  unfold laws_big at h
  refine swp_seq ?_
  refine swp_reg ?_
  refine SRun.ck tbokF1 1 ⟨6, [(0, vl (eI .u8) aCode)], []⟩ ?_
  refine SRun.nil ?_
  refine nx_n ?_
  refine swp_seq ?_
  refine swp_reg ?_
  refine SRun.ck tbokF1 4 ⟨6, [(2, vb (decide ((aCode.length : Int) > 4096)))], []⟩ ?_
  refine SRun.nil ?_
  refine nx_n ?_
  refine swp_ret ?_
  replace h := Option.some.inj h
  subst h
  exact q_fr (fin1 (by kernel_rfl) (finV rfl SV.flat_of (holds_t (by kernel_rfl))))
theorem ents45 : Ents Tryd.prog 45 := ents_of Tryd.func45 (by kernel_rfl) rfl
noncomputable def spec_l31Tie (aS : l01Source) (aN : Int) : Option (Tie × l01Source) :=
  ((spec_l01Next aS (maxI 1 aN)).bind fun x1 => ((spec_l01Next x1.2 (maxI 1 aN)).bind fun x2 => ((spec_l01Next x2.2 3).bind fun x3 => ((spec_l01Next x3.2 3).bind fun x4 => ((at' ([(ByteArray.mk #[110, 97, 109, 101]), (ByteArray.mk #[109, 97, 112]), (ByteArray.mk #[116, 97, 120])] : List ByteArray) x4.1).bind fun x5 => (((bif (((minI x1.1 x2.1) == (maxI x1.1 x2.1)) && (decide ((minI x1.1 x2.1) > 0))) then some (Tie.mk (w64 ((minI x1.1 x2.1) - 1)) (maxI x1.1 x2.1) (decide (x3.1 > 0)) x5) else some (Tie.mk (minI x1.1 x2.1) (maxI x1.1 x2.1) (decide (x3.1 > 0)) x5))).bind fun (j6 : Tie) => ((spec_l01Next x4.2 40).bind fun x8 => (((bif (x8.1 == 0) then some ((Tie.mk j6.A aN j6.Same j6.Reason), x8.2) else (bif (x8.1 == 1) then ((spec_l01DrawWord x8.2).bind fun x11 => some ((Tie.mk j6.A j6.B j6.Same x11.1), x11.2)) else some (j6, x8.2)))).bind fun (j9 : Tie × l01Source) => some (j9.1, j9.2)))))))))
set_option maxRecDepth 100000 in
set_option maxHeartbeats 4000000 in
theorem spec_l31Tie_run (aS : l01Source) (aN : Int) (r : Tie × l01Source) (h : spec_l31Tie aS aN = some r) : SCall Tryd.prog 81 [.o (.box [vl (eI .u8) aS.code, vi aS.at', vi aS.seed]), .v (vi aN)] ⟨[.v (.agg [vi r.1.A, vi r.1.B, vb r.1.Same, vs r.1.Reason])], [(0, .box [vl (eI .u8) r.2.code, vi r.2.at', vi r.2.seed])], false⟩ := by
  refine scall_in Tryd.func81 rfl [(.cell 4 42)] rfl (fun r => ⟨[.v (.agg [vi r.1.A, vi r.1.B, vb r.1.Same, vs r.1.Reason])], [(0, .box [vl (eI .u8) r.2.code, vi r.2.at', vi r.2.seed])], false⟩) (r := r) ?_
  unfold spec_l31Tie at h
  refine swp_seq ?_
  refine swp_reg ?_
  refine SRun.ck tbokF1 1 ⟨57, [(0, .ref 1000000 0), (1, vi aN), (4, .ref 4 0)], [(4, .box [vi 0, vi 0, vb false, vs (ByteArray.mk #[])]), (1000000, .box [vl (eI .u8) aS.code, vi aS.at', vi aS.seed])]⟩ ?_
  refine SRun.nil ?_
  refine nx_n ?_
  refine swp_seq ?_
  refine swp_reg ?_
  refine SRun.ck tbokF1 3 ⟨57, [(0, .ref 1000000 0), (1, vi aN), (4, .ref 4 0), (8, .ref 1000000 0), (10, vi (maxI 1 aN))], [(4, .box [vi 0, vi 0, vb false, vs (ByteArray.mk #[])]), (1000000, .box [vl (eI .u8) aS.code, vi aS.at', vi aS.seed])]⟩ ?_
  obtain ⟨x1, hx1, h⟩ := bind_some h
  refine SRun.estep (x_estep_call (f := 80) (caps := []) (xs := [.ref 1000000 0, vi (maxI 1 aN)]) (pre := []) (post := [vi (maxI 1 aN)]) (qs := [vi (maxI 1 aN)]) (z := .ref 1000000 0) (d := 1000000) (pl := 0) (y := .box [vl (eI .u8) aS.code, vi aS.at', vi aS.seed]) (y' := .box [vl (eI .u8) x1.2.code, vi x1.2.at', vi x1.2.seed]) (res := ⟨[.v (vi x1.1)], [(0, .box [vl (eI .u8) x1.2.code, vi x1.2.at', vi x1.2.seed])], false⟩) (x := vi x1.1) (yo := none) rfl rfl rfl rfl rfl ents80 (spec_l01Next_run aS (maxI 1 aN) _ hx1) rfl rfl false (fun _ => rfl) (by intro hc; cases hc)) ?_
  refine SRun.ck tbokF1 3 ⟨57, [(0, .ref 1000000 0), (1, vi aN), (4, .ref 4 0), (11, vi x1.1), (12, .ref 1000000 0), (14, vi (maxI 1 aN))], [(4, .box [vi 0, vi 0, vb false, vs (ByteArray.mk #[])]), (1000000, .box [vl (eI .u8) x1.2.code, vi x1.2.at', vi x1.2.seed])]⟩ ?_
  obtain ⟨x2, hx2, h⟩ := bind_some h
  refine SRun.estep (x_estep_call (f := 80) (caps := []) (xs := [.ref 1000000 0, vi (maxI 1 aN)]) (pre := []) (post := [vi (maxI 1 aN)]) (qs := [vi (maxI 1 aN)]) (z := .ref 1000000 0) (d := 1000000) (pl := 0) (y := .box [vl (eI .u8) x1.2.code, vi x1.2.at', vi x1.2.seed]) (y' := .box [vl (eI .u8) x2.2.code, vi x2.2.at', vi x2.2.seed]) (res := ⟨[.v (vi x2.1)], [(0, .box [vl (eI .u8) x2.2.code, vi x2.2.at', vi x2.2.seed])], false⟩) (x := vi x2.1) (yo := none) rfl rfl rfl rfl rfl ents80 (spec_l01Next_run x1.2 (maxI 1 aN) _ hx2) rfl rfl false (fun _ => rfl) (by intro hc; cases hc)) ?_
  refine SRun.ck tbokF1 2 ⟨57, [(0, .ref 1000000 0), (1, vi aN), (4, .ref 4 0), (5, vi x1.1), (6, vi x2.1)], [(4, .box [vi 0, vi 0, vb false, vs (ByteArray.mk #[])]), (1000000, .box [vl (eI .u8) x2.2.code, vi x2.2.at', vi x2.2.seed])]⟩ ?_
  refine SRun.nil ?_
  refine nx_n ?_
  refine swp_seq ?_
  refine swp_reg ?_
  refine SRun.ck tbokF1 7 ⟨57, [(0, .ref 1000000 0), (1, vi aN), (4, .ref 4 0), (18, vi (minI x1.1 x2.1)), (21, vi (maxI x1.1 x2.1)), (22, .ref 1000000 0)], [(4, .box [vi 0, vi 0, vb false, vs (ByteArray.mk #[])]), (1000000, .box [vl (eI .u8) x2.2.code, vi x2.2.at', vi x2.2.seed])]⟩ ?_
  obtain ⟨x3, hx3, h⟩ := bind_some h
  refine SRun.estep (x_estep_call (f := 80) (caps := []) (xs := [.ref 1000000 0, vi 3]) (pre := []) (post := [vi 3]) (qs := [vi 3]) (z := .ref 1000000 0) (d := 1000000) (pl := 0) (y := .box [vl (eI .u8) x2.2.code, vi x2.2.at', vi x2.2.seed]) (y' := .box [vl (eI .u8) x3.2.code, vi x3.2.at', vi x3.2.seed]) (res := ⟨[.v (vi x3.1)], [(0, .box [vl (eI .u8) x3.2.code, vi x3.2.at', vi x3.2.seed])], false⟩) (x := vi x3.1) (yo := none) rfl rfl rfl rfl rfl ents80 (spec_l01Next_run x2.2 3 _ hx3) rfl rfl false (fun _ => rfl) (by intro hc; cases hc)) ?_
  refine SRun.ck tbokF1 3 ⟨57, [(0, .ref 1000000 0), (1, vi aN), (4, .ref 4 0), (18, vi (minI x1.1 x2.1)), (21, vi (maxI x1.1 x2.1)), (24, vb (decide (x3.1 > 0))), (25, .own 25), (26, .ref 1000000 0)], [(4, .box [vi 0, vi 0, vb false, vs (ByteArray.mk #[])]), (25, .arr 9 1 ([(ByteArray.mk #[110, 97, 109, 101]), (ByteArray.mk #[109, 97, 112]), (ByteArray.mk #[116, 97, 120])] : List ByteArray).length (([(ByteArray.mk #[110, 97, 109, 101]), (ByteArray.mk #[109, 97, 112]), (ByteArray.mk #[116, 97, 120])] : List ByteArray).map eS)), (1000000, .box [vl (eI .u8) x3.2.code, vi x3.2.at', vi x3.2.seed])]⟩ ?_
  obtain ⟨x4, hx4, h⟩ := bind_some h
  refine SRun.estep (x_estep_call (f := 80) (caps := []) (xs := [.ref 1000000 0, vi 3]) (pre := []) (post := [vi 3]) (qs := [vi 3]) (z := .ref 1000000 0) (d := 1000000) (pl := 0) (y := .box [vl (eI .u8) x3.2.code, vi x3.2.at', vi x3.2.seed]) (y' := .box [vl (eI .u8) x4.2.code, vi x4.2.at', vi x4.2.seed]) (res := ⟨[.v (vi x4.1)], [(0, .box [vl (eI .u8) x4.2.code, vi x4.2.at', vi x4.2.seed])], false⟩) (x := vi x4.1) (yo := none) rfl rfl rfl rfl rfl ents80 (spec_l01Next_run x3.2 3 _ hx4) rfl rfl false (fun _ => rfl) (by intro hc; cases hc)) ?_
  obtain ⟨x5, hx5, h⟩ := bind_some h
  refine SRun.ls (x_index_own (d := 25) (L := ([(ByteArray.mk #[110, 97, 109, 101]), (ByteArray.mk #[109, 97, 112]), (ByteArray.mk #[116, 97, 120])] : List ByteArray)) (f := eS) (ti := ti105) (tj := ti9) (e := 9) (e' := 9) (m := 1) (k := .i64) tbokF1 rfl hx5) ?_
  refine SRun.ls (x_load_own (d := 25) (m := 1) (j := 0) (L := ([(ByteArray.mk #[110, 97, 109, 101]), (ByteArray.mk #[109, 97, 112]), (ByteArray.mk #[116, 97, 120])] : List ByteArray)) (f := eS) (ti := ti9) (e := 9) (v := vs x5) tbokF1 rfl hx5) ?_
  refine SRun.ls (x_lstep_build (v := .agg [vi (minI x1.1 x2.1), vi (maxI x1.1 x2.1), vb (decide (x3.1 > 0)), vs x5]) tbokF1 rfl) ?_
  refine SRun.ck tbokF1 1 ⟨57, [(0, .ref 1000000 0), (1, vi aN), (4, .ref 4 0), (7, .ref 7 0), (30, .agg [vi (minI x1.1 x2.1), vi (maxI x1.1 x2.1), vb (decide (x3.1 > 0)), vs x5])], [(4, .box [vi 0, vi 0, vb false, vs (ByteArray.mk #[])]), (7, .box [vi 0, vi 0, vb false, vs (ByteArray.mk #[])]), (1000000, .box [vl (eI .u8) x4.2.code, vi x4.2.at', vi x4.2.seed])]⟩ ?_
  refine SRun.estep (x_estep_store (d := 7) (k := 0) (ti := ti42) (cs := [vi 0, vi 0, vb false, vs (ByteArray.mk #[])]) (vs := [vi (minI x1.1 x2.1), vi (maxI x1.1 x2.1), vb (decide (x3.1 > 0)), vs x5]) (v := .agg [vi (minI x1.1 x2.1), vi (maxI x1.1 x2.1), vb (decide (x3.1 > 0)), vs x5]) tbokF1 rfl rfl) ?_
  refine SRun.nil ?_
  refine nx_n ?_
  refine swp_seq ?_
  refine swp_seq ?_
  refine swp_regP ⟨57, [(0, .ref 1000000 0), (1, vi aN), (4, .ref 4 0), (7, .ref 7 0), (40, vb (((minI x1.1 x2.1) == (maxI x1.1 x2.1)) && (decide ((minI x1.1 x2.1) > 0))))], [(4, .box [vi 0, vi 0, vb false, vs (ByteArray.mk #[])]), (7, .box [vi (minI x1.1 x2.1), vi (maxI x1.1 x2.1), vb (decide (x3.1 > 0)), vs x5]), (1000000, .box [vl (eI .u8) x4.2.code, vi x4.2.at', vi x4.2.seed])]⟩ ?_ ?_
  refine SRun.ck tbokF1 6 ⟨57, [(0, .ref 1000000 0), (1, vi aN), (4, .ref 4 0), (7, .ref 7 0), (36, vb ((minI x1.1 x2.1) == (maxI x1.1 x2.1)))], [(4, .box [vi 0, vi 0, vb false, vs (ByteArray.mk #[])]), (7, .box [vi (minI x1.1 x2.1), vi (maxI x1.1 x2.1), vb (decide (x3.1 > 0)), vs x5]), (1000000, .box [vl (eI .u8) x4.2.code, vi x4.2.at', vi x4.2.seed])]⟩ ?_
  generalize ((minI x1.1 x2.1) == (maxI x1.1 x2.1)) = bb
  cases bb
  refine SRun.ck tbokF1 4 ⟨57, [(0, .ref 1000000 0), (1, vi aN), (4, .ref 4 0), (7, .ref 7 0), (40, vb false)], [(4, .box [vi 0, vi 0, vb false, vs (ByteArray.mk #[])]), (7, .box [vi (minI x1.1 x2.1), vi (maxI x1.1 x2.1), vb (decide (x3.1 > 0)), vs x5]), (1000000, .box [vl (eI .u8) x4.2.code, vi x4.2.at', vi x4.2.seed])]⟩ ?_
  exact SRun.nil (Le.sub0)
  refine SRun.ck tbokF1 4 ⟨57, [(0, .ref 1000000 0), (1, vi aN), (4, .ref 4 0), (7, .ref 7 0), (40, vb (decide ((minI x1.1 x2.1) > 0)))], [(4, .box [vi 0, vi 0, vb false, vs (ByteArray.mk #[])]), (7, .box [vi (minI x1.1 x2.1), vi (maxI x1.1 x2.1), vb (decide (x3.1 > 0)), vs x5]), (1000000, .box [vl (eI .u8) x4.2.code, vi x4.2.at', vi x4.2.seed])]⟩ ?_
  exact SRun.nil (Le.sub0)
  refine swp_seqJ h (fun j6 => ⟨57, [(0, .ref 1000000 0), (1, vi aN), (4, .ref 4 0), (7, .ref 7 0)], [(4, .box [vi 0, vi 0, vb false, vs (ByteArray.mk #[])]), (7, .box [vi j6.A, vi j6.B, vb j6.Same, vs j6.Reason]), (1000000, .box [vl (eI .u8) x4.2.code, vi x4.2.at', vi x4.2.seed])]⟩) (fun v7 h => ?_) (fun j6 h => ?_)
  refine swp_cond (b := (((minI x1.1 x2.1) == (maxI x1.1 x2.1)) && (decide ((minI x1.1 x2.1) > 0)))) (by kernel_rfl) (fun hb => ?_) (fun hb => ?_)
  replace h := cond_t hb h
  refine swp_reg ?_
  refine SRun.ck tbokF1 4 ⟨57, [(0, .ref 1000000 0), (1, vi aN), (4, .ref 4 0), (7, .ref 7 0), (43, vi (w64 ((minI x1.1 x2.1) - 1))), (44, .ref 7 0)], [(4, .box [vi 0, vi 0, vb false, vs (ByteArray.mk #[])]), (7, .box [vi (minI x1.1 x2.1), vi (maxI x1.1 x2.1), vb (decide (x3.1 > 0)), vs x5]), (1000000, .box [vl (eI .u8) x4.2.code, vi x4.2.at', vi x4.2.seed])]⟩ ?_
  refine SRun.estep (x_estep_store (d := 7) (k := 0) (ti := ti2) (cs := [vi (minI x1.1 x2.1), vi (maxI x1.1 x2.1), vb (decide (x3.1 > 0)), vs x5]) (vs := [vi (w64 ((minI x1.1 x2.1) - 1))]) (v := vi (w64 ((minI x1.1 x2.1) - 1))) tbokF1 rfl rfl) ?_
  refine SRun.nil ?_
  replace h := Option.some.inj h
  subst h
  exact q_j (Le.sub0)
  replace h := cond_f hb h
  refine swp_skip ?_
  replace h := Option.some.inj h
  subst h
  exact q_j (Le.sub0)
  refine swp_seq ?_
  refine swp_seq ?_
  refine swp_reg ?_
  refine SRun.ck tbokF1 1 ⟨57, [(0, .ref 1000000 0), (1, vi aN), (4, .ref 4 0), (7, .ref 7 0), (45, .ref 1000000 0)], [(4, .box [vi 0, vi 0, vb false, vs (ByteArray.mk #[])]), (7, .box [vi j6.A, vi j6.B, vb j6.Same, vs j6.Reason]), (1000000, .box [vl (eI .u8) x4.2.code, vi x4.2.at', vi x4.2.seed])]⟩ ?_
  obtain ⟨x8, hx8, h⟩ := bind_some h
  refine SRun.estep (x_estep_call (f := 80) (caps := []) (xs := [.ref 1000000 0, vi 40]) (pre := []) (post := [vi 40]) (qs := [vi 40]) (z := .ref 1000000 0) (d := 1000000) (pl := 0) (y := .box [vl (eI .u8) x4.2.code, vi x4.2.at', vi x4.2.seed]) (y' := .box [vl (eI .u8) x8.2.code, vi x8.2.at', vi x8.2.seed]) (res := ⟨[.v (vi x8.1)], [(0, .box [vl (eI .u8) x8.2.code, vi x8.2.at', vi x8.2.seed])], false⟩) (x := vi x8.1) (yo := none) rfl rfl rfl rfl rfl ents80 (spec_l01Next_run x4.2 40 _ hx8) rfl rfl false (fun _ => rfl) (by intro hc; cases hc)) ?_
  refine SRun.nil ?_
  refine nx_n ?_
  refine swp_seqJ h (fun j9 => ⟨57, [(4, .ref 4 0), (7, .ref 7 0)], [(4, .box [vi 0, vi 0, vb false, vs (ByteArray.mk #[])]), (7, .box [vi j9.1.A, vi j9.1.B, vb j9.1.Same, vs j9.1.Reason]), (1000000, .box [vl (eI .u8) j9.2.code, vi j9.2.at', vi j9.2.seed])]⟩) (fun v10 h => ?_) (fun j9 h => ?_)
  refine swp_blk (a := v10) ?_
  refine swp_seq ?_
  refine swp_reg ?_
  refine SRun.ck tbokF1 2 ⟨57, [(0, .ref 1000000 0), (1, vi aN), (4, .ref 4 0), (7, .ref 7 0), (46, vi x8.1), (47, vb (x8.1 == 0))], [(4, .box [vi 0, vi 0, vb false, vs (ByteArray.mk #[])]), (7, .box [vi j6.A, vi j6.B, vb j6.Same, vs j6.Reason]), (1000000, .box [vl (eI .u8) x8.2.code, vi x8.2.at', vi x8.2.seed])]⟩ ?_
  refine SRun.nil ?_
  refine nx_n ?_
  refine swp_cond (b := (x8.1 == 0)) (by kernel_rfl) (fun hb => ?_) (fun hb => ?_)
  replace h := cond_t hb h
  refine swp_reg ?_
  refine SRun.ck tbokF1 2 ⟨57, [(4, .ref 4 0), (7, .ref 7 0), (49, vi aN), (50, .ref 7 1)], [(4, .box [vi 0, vi 0, vb false, vs (ByteArray.mk #[])]), (7, .box [vi j6.A, vi j6.B, vb j6.Same, vs j6.Reason]), (1000000, .box [vl (eI .u8) x8.2.code, vi x8.2.at', vi x8.2.seed])]⟩ ?_
  refine SRun.estep (x_estep_store (d := 7) (k := 1) (ti := ti2) (cs := [vi j6.A, vi j6.B, vb j6.Same, vs j6.Reason]) (vs := [vi aN]) (v := vi aN) tbokF1 rfl rfl) ?_
  refine SRun.nil ?_
  replace h := Option.some.inj h
  subst h
  exact q_bn (q_j (Le.sub0))
  replace h := cond_f hb h
  refine swp_seq ?_
  refine swp_reg ?_
  refine SRun.ck tbokF1 2 ⟨57, [(0, .ref 1000000 0), (4, .ref 4 0), (7, .ref 7 0), (51, vb (x8.1 == 1))], [(4, .box [vi 0, vi 0, vb false, vs (ByteArray.mk #[])]), (7, .box [vi j6.A, vi j6.B, vb j6.Same, vs j6.Reason]), (1000000, .box [vl (eI .u8) x8.2.code, vi x8.2.at', vi x8.2.seed])]⟩ ?_
  refine SRun.nil ?_
  refine nx_n ?_
  refine swp_cond (b := (x8.1 == 1)) (by kernel_rfl) (fun hb => ?_) (fun hb => ?_)
  replace h := cond_t hb h
  refine swp_reg ?_
  refine SRun.ck tbokF1 1 ⟨57, [(4, .ref 4 0), (7, .ref 7 0), (53, .ref 1000000 0)], [(4, .box [vi 0, vi 0, vb false, vs (ByteArray.mk #[])]), (7, .box [vi j6.A, vi j6.B, vb j6.Same, vs j6.Reason]), (1000000, .box [vl (eI .u8) x8.2.code, vi x8.2.at', vi x8.2.seed])]⟩ ?_
  obtain ⟨x11, hx11, h⟩ := bind_some h
  refine SRun.estep (x_estep_call (f := 94) (caps := []) (xs := [.ref 1000000 0]) (pre := []) (post := []) (qs := []) (z := .ref 1000000 0) (d := 1000000) (pl := 0) (y := .box [vl (eI .u8) x8.2.code, vi x8.2.at', vi x8.2.seed]) (y' := .box [vl (eI .u8) x11.2.code, vi x11.2.at', vi x11.2.seed]) (res := ⟨[.v (vs x11.1)], [(0, .box [vl (eI .u8) x11.2.code, vi x11.2.at', vi x11.2.seed])], false⟩) (x := vs x11.1) (yo := none) rfl rfl rfl rfl rfl ents94 (spec_l01DrawWord_run x8.2 _ hx11) rfl rfl false (fun _ => rfl) (by intro hc; cases hc)) ?_
  refine SRun.ck tbokF1 1 ⟨57, [(4, .ref 4 0), (7, .ref 7 0), (54, vs x11.1), (55, .ref 7 3)], [(4, .box [vi 0, vi 0, vb false, vs (ByteArray.mk #[])]), (7, .box [vi j6.A, vi j6.B, vb j6.Same, vs j6.Reason]), (1000000, .box [vl (eI .u8) x11.2.code, vi x11.2.at', vi x11.2.seed])]⟩ ?_
  refine SRun.estep (x_estep_store (d := 7) (k := 3) (ti := ti9) (cs := [vi j6.A, vi j6.B, vb j6.Same, vs j6.Reason]) (vs := [vs x11.1]) (v := vs x11.1) tbokF1 rfl rfl) ?_
  refine SRun.nil ?_
  replace h := Option.some.inj h
  subst h
  exact q_bn (q_j (Le.sub0))
  replace h := cond_f hb h
  refine swp_skip ?_
  replace h := Option.some.inj h
  subst h
  exact q_bn (q_j (Le.sub0))
  refine swp_seq ?_
  refine swp_reg ?_
  refine SRun.ck tbokF1 1 ⟨57, [(4, .ref 4 0), (56, .agg [vi j9.1.A, vi j9.1.B, vb j9.1.Same, vs j9.1.Reason])], [(4, .box [vi 0, vi 0, vb false, vs (ByteArray.mk #[])]), (1000000, .box [vl (eI .u8) j9.2.code, vi j9.2.at', vi j9.2.seed])]⟩ ?_
  refine SRun.estep (x_estep_store (d := 4) (k := 0) (ti := ti42) (cs := [vi 0, vi 0, vb false, vs (ByteArray.mk #[])]) (vs := [vi j9.1.A, vi j9.1.B, vb j9.1.Same, vs j9.1.Reason]) (v := .agg [vi j9.1.A, vi j9.1.B, vb j9.1.Same, vs j9.1.Reason]) tbokF1 rfl rfl) ?_
  refine SRun.nil ?_
  refine nx_n ?_
  refine swp_ret ?_
  replace h := Option.some.inj h
  subst h
  exact q_fr (fin_io (fin1 (by kernel_rfl) (finV rfl SV.flat_of (holds_c tbokF1 (d := 4) (cs := [vi j9.1.A, vi j9.1.B, vb j9.1.Same, vs j9.1.Reason]) (ti := ti42) (by kernel_rfl) (by kernel_rfl) (by kernel_rfl) (by kernel_rfl)))) (y := .box [vl (eI .u8) j9.2.code, vi j9.2.at', vi j9.2.seed]) (by kernel_rfl) rfl (by kernel_rfl) (by kernel_rfl))
theorem ents81 : Ents Tryd.prog 81 := ents_of Tryd.func81 (by kernel_rfl) rfl
noncomputable def spec_l31Draw (aS : l01Source) : Option (Int × (List Tie) × l01Source) :=
  ((spec_l01Next aS 7).bind fun x1 => ((spec_l01Next x1.2 3).bind fun x2 => ((spec_l01Next x2.2 10).bind fun x3 => (((loop (fun (s6 : Int × (List Tie) × l01Source) => (bif (decide (s6.1 > 0)) then ((((spec_l31Tie s6.2.2 (w64 (2 + x1.1))).bind fun x10 => ((spec_AddTie (w64 (2 + x1.1)) s6.2.1 x10.1).bind fun x11 => (bif (x11.2 == 0) then some (x11.1, x10.2) else (((bif (!(decide (x2.1 > 0))) then ((spec_l01Next x10.2 2).bind fun x12 => some ((x12.1 == 0), x12.2)) else some (false, x10.2))).bind fun (j13 : Bool × l01Source) => (bif j13.1 then ((app' s6.2.1 ([x10.1] : List Tie)).bind fun x15 => some (x15, j13.2)) else some (s6.2.1, j13.2))))))).bind fun (j8 : (List Tie) × l01Source) => some (.inl ((w64 (s6.1 - 1)), j8.1, j8.2))) else some (.inr (s6.2.1, s6.2.2)))) (x3.1, ([] : List Tie), x3.2))).bind fun (j4 : (List Tie) × l01Source) => ((spec_l01Next j4.2 30).bind fun x16 => (((bif (x16.1 == 0) then ((spec_l01Pick x16.2 ([0, 12, 13, (-1)] : List Int)).bind fun x19 => some (.inr (x19.1, j4.1, x19.2))) else (bif (x16.1 == 1) then (loop (fun (s20 : (List Tie) × l01Source) => ((spec_l01Next s20.2 2).bind fun x22 => (bif (decide ((s20.1.length : Int) < (w64 (20 + x22.1)))) then ((app' s20.1 ([(Tie.mk 0 1 true (ByteArray.mk #[109, 97, 112]))] : List Tie)).bind fun x23 => some (.inl (x23, x22.2))) else some (.inr (.inl (s20.1, x22.2)))))) (j4.1, x16.2)) else some (.inl (j4.1, x16.2))))).bind (Sum.elim (fun (j17 : (List Tie) × l01Source) => some ((w64 (2 + x1.1)), j17.1, j17.2)) some)))))))
set_option maxRecDepth 100000 in
set_option maxHeartbeats 4000000 in
theorem spec_l31Draw_run (aS : l01Source) (r : Int × (List Tie) × l01Source) (h : spec_l31Draw aS = some r) : SCall Tryd.prog 79 [.o (.box [vl (eI .u8) aS.code, vi aS.at', vi aS.seed])] ⟨[.v (vi r.1), .own 42 4 r.2.1.length (r.2.1.map eTie)], [(0, .box [vl (eI .u8) r.2.2.code, vi r.2.2.at', vi r.2.2.seed])], false⟩ := by
  refine scall_in Tryd.func79 rfl [(.tmp 2), (.tmp 3)] rfl (fun r => ⟨[.v (vi r.1), .own 42 4 r.2.1.length (r.2.1.map eTie)], [(0, .box [vl (eI .u8) r.2.2.code, vi r.2.2.at', vi r.2.2.seed])], false⟩) (r := r) ?_
  unfold spec_l31Draw at h
  refine swp_seq ?_
  refine swp_reg ?_
  refine SRun.ck tbokF1 2 ⟨70, [(0, .ref 1000000 0)], [(1000000, .box [vl (eI .u8) aS.code, vi aS.at', vi aS.seed])]⟩ ?_
  refine SRun.nil ?_
  refine nx_n ?_
  refine swp_seq ?_
  refine swp_reg ?_
  refine SRun.ck tbokF1 1 ⟨70, [(0, .ref 1000000 0), (11, .ref 1000000 0)], [(1000000, .box [vl (eI .u8) aS.code, vi aS.at', vi aS.seed])]⟩ ?_
  obtain ⟨x1, hx1, h⟩ := bind_some h
  refine SRun.estep (x_estep_call (f := 80) (caps := []) (xs := [.ref 1000000 0, vi 7]) (pre := []) (post := [vi 7]) (qs := [vi 7]) (z := .ref 1000000 0) (d := 1000000) (pl := 0) (y := .box [vl (eI .u8) aS.code, vi aS.at', vi aS.seed]) (y' := .box [vl (eI .u8) x1.2.code, vi x1.2.at', vi x1.2.seed]) (res := ⟨[.v (vi x1.1)], [(0, .box [vl (eI .u8) x1.2.code, vi x1.2.at', vi x1.2.seed])], false⟩) (x := vi x1.1) (yo := none) rfl rfl rfl rfl rfl ents80 (spec_l01Next_run aS 7 _ hx1) rfl rfl false (fun _ => rfl) (by intro hc; cases hc)) ?_
  refine SRun.ck tbokF1 2 ⟨70, [(0, .ref 1000000 0), (4, vi (w64 (2 + x1.1)))], [(1000000, .box [vl (eI .u8) x1.2.code, vi x1.2.at', vi x1.2.seed])]⟩ ?_
  refine SRun.nil ?_
  refine nx_n ?_
  refine swp_seq ?_
  refine swp_reg ?_
  refine SRun.ck tbokF1 2 ⟨70, [(0, .ref 1000000 0), (4, vi (w64 (2 + x1.1))), (5, .own 14)], [(14, .arr 42 4 ([] : List Tie).length (([] : List Tie).map eTie)), (1000000, .box [vl (eI .u8) x1.2.code, vi x1.2.at', vi x1.2.seed])]⟩ ?_
  refine SRun.nil ?_
  refine nx_n ?_
  refine swp_seq ?_
  refine swp_reg ?_
  refine SRun.ck tbokF1 1 ⟨70, [(0, .ref 1000000 0), (4, vi (w64 (2 + x1.1))), (5, .own 14), (15, .ref 1000000 0)], [(14, .arr 42 4 ([] : List Tie).length (([] : List Tie).map eTie)), (1000000, .box [vl (eI .u8) x1.2.code, vi x1.2.at', vi x1.2.seed])]⟩ ?_
  obtain ⟨x2, hx2, h⟩ := bind_some h
  refine SRun.estep (x_estep_call (f := 80) (caps := []) (xs := [.ref 1000000 0, vi 3]) (pre := []) (post := [vi 3]) (qs := [vi 3]) (z := .ref 1000000 0) (d := 1000000) (pl := 0) (y := .box [vl (eI .u8) x1.2.code, vi x1.2.at', vi x1.2.seed]) (y' := .box [vl (eI .u8) x2.2.code, vi x2.2.at', vi x2.2.seed]) (res := ⟨[.v (vi x2.1)], [(0, .box [vl (eI .u8) x2.2.code, vi x2.2.at', vi x2.2.seed])], false⟩) (x := vi x2.1) (yo := none) rfl rfl rfl rfl rfl ents80 (spec_l01Next_run x1.2 3 _ hx2) rfl rfl false (fun _ => rfl) (by intro hc; cases hc)) ?_
  refine SRun.ck tbokF1 2 ⟨70, [(0, .ref 1000000 0), (4, vi (w64 (2 + x1.1))), (5, .own 14), (6, vb (decide (x2.1 > 0)))], [(14, .arr 42 4 ([] : List Tie).length (([] : List Tie).map eTie)), (1000000, .box [vl (eI .u8) x2.2.code, vi x2.2.at', vi x2.2.seed])]⟩ ?_
  refine SRun.nil ?_
  refine nx_n ?_
  refine swp_seq ?_
  refine swp_seq ?_
  refine swp_reg ?_
  refine SRun.ck tbokF1 1 ⟨70, [(0, .ref 1000000 0), (4, vi (w64 (2 + x1.1))), (5, .own 14), (6, vb (decide (x2.1 > 0))), (18, .ref 1000000 0)], [(14, .arr 42 4 ([] : List Tie).length (([] : List Tie).map eTie)), (1000000, .box [vl (eI .u8) x2.2.code, vi x2.2.at', vi x2.2.seed])]⟩ ?_
  obtain ⟨x3, hx3, h⟩ := bind_some h
  refine SRun.estep (x_estep_call (f := 80) (caps := []) (xs := [.ref 1000000 0, vi 10]) (pre := []) (post := [vi 10]) (qs := [vi 10]) (z := .ref 1000000 0) (d := 1000000) (pl := 0) (y := .box [vl (eI .u8) x2.2.code, vi x2.2.at', vi x2.2.seed]) (y' := .box [vl (eI .u8) x3.2.code, vi x3.2.at', vi x3.2.seed]) (res := ⟨[.v (vi x3.1)], [(0, .box [vl (eI .u8) x3.2.code, vi x3.2.at', vi x3.2.seed])], false⟩) (x := vi x3.1) (yo := none) rfl rfl rfl rfl rfl ents80 (spec_l01Next_run x2.2 10 _ hx3) rfl rfl false (fun _ => rfl) (by intro hc; cases hc)) ?_
  refine SRun.ck tbokF1 1 ⟨70, [(0, .ref 1000000 0), (4, vi (w64 (2 + x1.1))), (5, .own 14), (6, vb (decide (x2.1 > 0))), (7, vi x3.1)], [(14, .arr 42 4 ([] : List Tie).length (([] : List Tie).map eTie)), (1000000, .box [vl (eI .u8) x3.2.code, vi x3.2.at', vi x3.2.seed])]⟩ ?_
  refine SRun.nil ?_
  refine nx_n ?_
  refine swp_seqJ h (fun j4 => ⟨70, [(0, .ref 1000000 0), (4, vi (w64 (2 + x1.1))), (5, .own 5)], [(5, .arr 42 4 j4.1.length (j4.1.map eTie)), (1000000, .box [vl (eI .u8) j4.2.code, vi j4.2.at', vi j4.2.seed])]⟩) (fun v5 h => ?_) (fun j4 h => ?_)
  refine swp_blk (a := v5) ?_
  refine swp_lpL (r := v5) (s := (x3.1, ([] : List Tie), x3.2)) _ (fun s6 => ⟨70, [(0, .ref 1000000 0), (4, vi (w64 (2 + x1.1))), (5, .own 5), (6, vb (decide (x2.1 > 0))), (7, vi s6.1)], [(5, .arr 42 4 s6.2.1.length (s6.2.1.map eTie)), (1000000, .box [vl (eI .u8) s6.2.2.code, vi s6.2.2.at', vi s6.2.2.seed])]⟩) _ ((Le.sub' ([(0, .ref 1000000 0), (4, vi (w64 (2 + x1.1))), (5, .own 14), (6, vb (decide (x2.1 > 0))), (7, vi x3.1)] : List (Nat × SV)) ([(14, .arr 42 4 ([] : List Tie).length (([] : List Tie).map eTie)), (1000000, .box [vl (eI .u8) x3.2.code, vi x3.2.at', vi x3.2.seed])] : List (Nat × SO)) (by kernel_rfl) (by kernel_rfl)).trans ((Le.ren' (d := 14) (e := 5) (by kernel_rfl) (by kernel_rfl) (by kernel_rfl)).trans (Le.sub0))) h (fun s6 v7 h => ?_)
  refine swp_seq ?_
  refine swp_seq ?_
  refine swp_reg ?_
  refine SRun.ck tbokF1 2 ⟨70, [(0, .ref 1000000 0), (4, vi (w64 (2 + x1.1))), (5, .own 5), (6, vb (decide (x2.1 > 0))), (7, vi s6.1), (21, vb (decide (s6.1 > 0)))], [(5, .arr 42 4 s6.2.1.length (s6.2.1.map eTie)), (1000000, .box [vl (eI .u8) s6.2.2.code, vi s6.2.2.at', vi s6.2.2.seed])]⟩ ?_
  refine SRun.nil ?_
  refine nx_n ?_
  refine swp_cond (b := (decide (s6.1 > 0))) (by kernel_rfl) (fun hb => ?_) (fun hb => ?_)
  replace h := cond_t hb h
  refine swp_skip ?_
  refine nx_n ?_
  refine swp_seq ?_
  refine swp_seqJ h (fun j8 => ⟨70, [(0, .ref 1000000 0), (4, vi (w64 (2 + x1.1))), (5, .own 5), (6, vb (decide (x2.1 > 0))), (7, vi s6.1)], [(5, .arr 42 4 j8.1.length (j8.1.map eTie)), (1000000, .box [vl (eI .u8) j8.2.code, vi j8.2.at', vi j8.2.seed])]⟩) (fun v9 h => ?_) (fun j8 h => ?_)
  refine swp_blk (a := v9) ?_
  refine swp_seq ?_
  refine swp_reg ?_
  refine SRun.ck tbokF1 2 ⟨70, [(0, .ref 1000000 0), (4, vi (w64 (2 + x1.1))), (5, .own 5), (6, vb (decide (x2.1 > 0))), (7, vi s6.1), (24, .ref 1000000 0), (25, vi (w64 (2 + x1.1)))], [(5, .arr 42 4 s6.2.1.length (s6.2.1.map eTie)), (1000000, .box [vl (eI .u8) s6.2.2.code, vi s6.2.2.at', vi s6.2.2.seed])]⟩ ?_
  obtain ⟨x10, hx10, h⟩ := bind_some h
  refine SRun.estep (x_estep_call (f := 81) (caps := []) (xs := [.ref 1000000 0, vi (w64 (2 + x1.1))]) (pre := []) (post := [vi (w64 (2 + x1.1))]) (qs := [vi (w64 (2 + x1.1))]) (z := .ref 1000000 0) (d := 1000000) (pl := 0) (y := .box [vl (eI .u8) s6.2.2.code, vi s6.2.2.at', vi s6.2.2.seed]) (y' := .box [vl (eI .u8) x10.2.code, vi x10.2.at', vi x10.2.seed]) (res := ⟨[.v (.agg [vi x10.1.A, vi x10.1.B, vb x10.1.Same, vs x10.1.Reason])], [(0, .box [vl (eI .u8) x10.2.code, vi x10.2.at', vi x10.2.seed])], false⟩) (x := .agg [vi x10.1.A, vi x10.1.B, vb x10.1.Same, vs x10.1.Reason]) (yo := none) rfl rfl rfl rfl rfl ents81 (spec_l31Tie_run s6.2.2 (w64 (2 + x1.1)) _ hx10) rfl rfl false (fun _ => rfl) (by intro hc; cases hc)) ?_
  refine SRun.ck tbokF1 1 ⟨70, [(0, .ref 1000000 0), (4, vi (w64 (2 + x1.1))), (5, .own 5), (6, vb (decide (x2.1 > 0))), (7, vi s6.1), (8, .ref 8 0), (26, .agg [vi x10.1.A, vi x10.1.B, vb x10.1.Same, vs x10.1.Reason])], [(5, .arr 42 4 s6.2.1.length (s6.2.1.map eTie)), (8, .box [vi 0, vi 0, vb false, vs (ByteArray.mk #[])]), (1000000, .box [vl (eI .u8) x10.2.code, vi x10.2.at', vi x10.2.seed])]⟩ ?_
  refine SRun.estep (x_estep_store (d := 8) (k := 0) (ti := ti42) (cs := [vi 0, vi 0, vb false, vs (ByteArray.mk #[])]) (vs := [vi x10.1.A, vi x10.1.B, vb x10.1.Same, vs x10.1.Reason]) (v := .agg [vi x10.1.A, vi x10.1.B, vb x10.1.Same, vs x10.1.Reason]) tbokF1 rfl rfl) ?_
  refine SRun.nil ?_
  refine nx_n ?_
  refine swp_seq ?_
  refine swp_reg ?_
  refine SRun.ck tbokF1 3 ⟨70, [(0, .ref 1000000 0), (4, vi (w64 (2 + x1.1))), (5, .own 5), (6, vb (decide (x2.1 > 0))), (7, vi s6.1), (8, .ref 8 0), (28, vi (w64 (2 + x1.1))), (29, .own 5), (30, .agg [vi x10.1.A, vi x10.1.B, vb x10.1.Same, vs x10.1.Reason])], [(5, .arr 42 4 s6.2.1.length (s6.2.1.map eTie)), (8, .box [vi x10.1.A, vi x10.1.B, vb x10.1.Same, vs x10.1.Reason]), (1000000, .box [vl (eI .u8) x10.2.code, vi x10.2.at', vi x10.2.seed])]⟩ ?_
  obtain ⟨x11, hx11, h⟩ := bind_some h
  refine SRun.ls (x_lstep_call (f := 30) (caps := []) (xs := [vi (w64 (2 + x1.1)), .own 5, .agg [vi x10.1.A, vi x10.1.B, vb x10.1.Same, vs x10.1.Reason]]) (ys := [vi (w64 (2 + x1.1)), vl eTie s6.2.1, .agg [vi x10.1.A, vi x10.1.B, vb x10.1.Same, vs x10.1.Reason]]) (res := ⟨[.own 42 4 x11.1.length (x11.1.map eTie), .v (vi x11.2)], [], false⟩) (x := .tup [.own 31, vi x11.2]) (y := some (.arr 42 4 x11.1.length (x11.1.map eTie))) rfl ents30 (spec_AddTie_run (w64 (2 + x1.1)) s6.2.1 x10.1 _ hx11) rfl (by intro hc; cases hc)) ?_
  refine SRun.ck tbokF1 5 ⟨70, [(0, .ref 1000000 0), (4, vi (w64 (2 + x1.1))), (5, .own 5), (6, vb (decide (x2.1 > 0))), (7, vi s6.1), (8, .ref 8 0), (9, .own 31), (10, vi x11.2)], [(5, .arr 42 4 s6.2.1.length (s6.2.1.map eTie)), (8, .box [vi x10.1.A, vi x10.1.B, vb x10.1.Same, vs x10.1.Reason]), (31, .arr 42 4 x11.1.length (x11.1.map eTie)), (1000000, .box [vl (eI .u8) x10.2.code, vi x10.2.at', vi x10.2.seed])]⟩ ?_
  refine SRun.nil ?_
  refine nx_n ?_
  refine swp_seq ?_
  refine swp_reg ?_
  refine SRun.ck tbokF1 2 ⟨70, [(0, .ref 1000000 0), (4, vi (w64 (2 + x1.1))), (5, .own 5), (6, vb (decide (x2.1 > 0))), (7, vi s6.1), (8, .ref 8 0), (9, .own 31), (35, vb (x11.2 == 0))], [(5, .arr 42 4 s6.2.1.length (s6.2.1.map eTie)), (8, .box [vi x10.1.A, vi x10.1.B, vb x10.1.Same, vs x10.1.Reason]), (31, .arr 42 4 x11.1.length (x11.1.map eTie)), (1000000, .box [vl (eI .u8) x10.2.code, vi x10.2.at', vi x10.2.seed])]⟩ ?_
  refine SRun.nil ?_
  refine nx_n ?_
  refine swp_cond (b := (x11.2 == 0)) (by kernel_rfl) (fun hb => ?_) (fun hb => ?_)
  replace h := cond_t hb h
  refine swp_reg ?_
  refine SRun.ck tbokF1 2 ⟨70, [(0, .ref 1000000 0), (4, vi (w64 (2 + x1.1))), (5, .own 31), (6, vb (decide (x2.1 > 0))), (7, vi s6.1)], [(31, .arr 42 4 x11.1.length (x11.1.map eTie)), (1000000, .box [vl (eI .u8) x10.2.code, vi x10.2.at', vi x10.2.seed])]⟩ ?_
  refine SRun.nil ?_
  replace h := Option.some.inj h
  subst h
  exact q_bn (q_j ((Le.sub' ([(0, .ref 1000000 0), (4, vi (w64 (2 + x1.1))), (5, .own 31), (6, vb (decide (x2.1 > 0))), (7, vi s6.1)] : List (Nat × SV)) ([(31, .arr 42 4 x11.1.length (x11.1.map eTie)), (1000000, .box [vl (eI .u8) x10.2.code, vi x10.2.at', vi x10.2.seed])] : List (Nat × SO)) (by kernel_rfl) (by kernel_rfl)).trans ((Le.ren' (d := 31) (e := 5) (by kernel_rfl) (by kernel_rfl) (by kernel_rfl)).trans (Le.sub0))))
  replace h := cond_f hb h
  refine swp_seq ?_
  refine swp_regJ h (fun j13 => ⟨70, [(0, .ref 1000000 0), (4, vi (w64 (2 + x1.1))), (5, .own 5), (6, vb (decide (x2.1 > 0))), (7, vi s6.1), (8, .ref 8 0), (43, vb j13.1)], [(5, .arr 42 4 s6.2.1.length (s6.2.1.map eTie)), (8, .box [vi x10.1.A, vi x10.1.B, vb x10.1.Same, vs x10.1.Reason]), (1000000, .box [vl (eI .u8) j13.2.code, vi j13.2.at', vi j13.2.seed])]⟩) (fun v14 h => ?_) (fun j13 h => ?_)
  refine SRun.ck tbokF1 3 ⟨70, [(0, .ref 1000000 0), (4, vi (w64 (2 + x1.1))), (5, .own 5), (6, vb (decide (x2.1 > 0))), (7, vi s6.1), (8, .ref 8 0), (39, vb (!(decide (x2.1 > 0))))], [(5, .arr 42 4 s6.2.1.length (s6.2.1.map eTie)), (8, .box [vi x10.1.A, vi x10.1.B, vb x10.1.Same, vs x10.1.Reason]), (1000000, .box [vl (eI .u8) x10.2.code, vi x10.2.at', vi x10.2.seed])]⟩ ?_
  refine SRun.cut [(39, fun b => b)] (b := (!(decide (x2.1 > 0)))) (by kernel_rfl) (fun hb => ?_) (fun hb => ?_)
  replace h := cond_t hb h
  refine SRun.ck tbokF1 1 ⟨70, [(0, .ref 1000000 0), (4, vi (w64 (2 + x1.1))), (5, .own 5), (6, vb (decide (x2.1 > 0))), (7, vi s6.1), (8, .ref 8 0), (39, vb true), (40, .ref 1000000 0)], [(5, .arr 42 4 s6.2.1.length (s6.2.1.map eTie)), (8, .box [vi x10.1.A, vi x10.1.B, vb x10.1.Same, vs x10.1.Reason]), (1000000, .box [vl (eI .u8) x10.2.code, vi x10.2.at', vi x10.2.seed])]⟩ ?_
  obtain ⟨x12, hx12, h⟩ := bind_some h
  refine SRun.estep (x_estep_call (f := 80) (caps := []) (xs := [.ref 1000000 0, vi 2]) (pre := []) (post := [vi 2]) (qs := [vi 2]) (z := .ref 1000000 0) (d := 1000000) (pl := 0) (y := .box [vl (eI .u8) x10.2.code, vi x10.2.at', vi x10.2.seed]) (y' := .box [vl (eI .u8) x12.2.code, vi x12.2.at', vi x12.2.seed]) (res := ⟨[.v (vi x12.1)], [(0, .box [vl (eI .u8) x12.2.code, vi x12.2.at', vi x12.2.seed])], false⟩) (x := vi x12.1) (yo := none) rfl rfl rfl rfl rfl ents80 (spec_l01Next_run x10.2 2 _ hx12) rfl rfl false (fun _ => rfl) (by intro hc; cases hc)) ?_
  refine SRun.ck tbokF1 2 ⟨70, [(0, .ref 1000000 0), (4, vi (w64 (2 + x1.1))), (5, .own 5), (6, vb (decide (x2.1 > 0))), (7, vi s6.1), (8, .ref 8 0), (43, vb (x12.1 == 0))], [(5, .arr 42 4 s6.2.1.length (s6.2.1.map eTie)), (8, .box [vi x10.1.A, vi x10.1.B, vb x10.1.Same, vs x10.1.Reason]), (1000000, .box [vl (eI .u8) x12.2.code, vi x12.2.at', vi x12.2.seed])]⟩ ?_
  refine SRun.nil ?_
  replace h := Option.some.inj h
  subst h
  exact Le.sub0
  replace h := cond_f hb h
  refine SRun.ck tbokF1 4 ⟨70, [(0, .ref 1000000 0), (4, vi (w64 (2 + x1.1))), (5, .own 5), (6, vb (decide (x2.1 > 0))), (7, vi s6.1), (8, .ref 8 0), (43, vb false)], [(5, .arr 42 4 s6.2.1.length (s6.2.1.map eTie)), (8, .box [vi x10.1.A, vi x10.1.B, vb x10.1.Same, vs x10.1.Reason]), (1000000, .box [vl (eI .u8) x10.2.code, vi x10.2.at', vi x10.2.seed])]⟩ ?_
  refine SRun.nil ?_
  replace h := Option.some.inj h
  subst h
  exact Le.sub0
  refine swp_cond (b := j13.1) (by kernel_rfl) (fun hb => ?_) (fun hb => ?_)
  replace h := cond_t hb h
  refine swp_reg ?_
  refine SRun.ck tbokF1 3 ⟨70, [(0, .ref 1000000 0), (4, vi (w64 (2 + x1.1))), (6, vb (decide (x2.1 > 0))), (7, vi s6.1), (44, .own 5), (46, .own 46)], [(5, .arr 42 4 s6.2.1.length (s6.2.1.map eTie)), (46, .arr 42 4 ([x10.1] : List Tie).length (([x10.1] : List Tie).map eTie)), (1000000, .box [vl (eI .u8) j13.2.code, vi j13.2.at', vi j13.2.seed])]⟩ ?_
  obtain ⟨x15, hx15, h⟩ := bind_some h
  refine SRun.estep (x_append (f := eTie) (t := 25) (ti := ti25) (tj := ti42) (zs := [.int .i64 0, .int .i64 0, .bool false, .string (ByteArray.mk #[])]) (e := 42) (m := 4) (d := 5) (xv := .own 46) hx15 tbokF1 rfl rfl rfl rfl (x_src_o (e := 42))) ?_
  refine SRun.ck tbokF1 1 ⟨70, [(0, .ref 1000000 0), (4, vi (w64 (2 + x1.1))), (5, .own 47), (6, vb (decide (x2.1 > 0))), (7, vi s6.1)], [(47, .arr 42 4 x15.length (x15.map eTie)), (1000000, .box [vl (eI .u8) j13.2.code, vi j13.2.at', vi j13.2.seed])]⟩ ?_
  refine SRun.nil ?_
  replace h := Option.some.inj h
  subst h
  exact q_bn (q_j ((Le.sub' ([(0, .ref 1000000 0), (4, vi (w64 (2 + x1.1))), (5, .own 47), (6, vb (decide (x2.1 > 0))), (7, vi s6.1)] : List (Nat × SV)) ([(47, .arr 42 4 x15.length (x15.map eTie)), (1000000, .box [vl (eI .u8) j13.2.code, vi j13.2.at', vi j13.2.seed])] : List (Nat × SO)) (by kernel_rfl) (by kernel_rfl)).trans ((Le.ren' (d := 47) (e := 5) (by kernel_rfl) (by kernel_rfl) (by kernel_rfl)).trans (Le.sub0))))
  replace h := cond_f hb h
  refine swp_skip ?_
  replace h := Option.some.inj h
  subst h
  exact q_bn (q_j (Le.sub0))
  refine swp_reg ?_
  refine SRun.ck tbokF1 3 ⟨70, [(0, .ref 1000000 0), (4, vi (w64 (2 + x1.1))), (5, .own 5), (6, vb (decide (x2.1 > 0))), (7, vi (w64 (s6.1 - 1)))], [(5, .arr 42 4 j8.1.length (j8.1.map eTie)), (1000000, .box [vl (eI .u8) j8.2.code, vi j8.2.at', vi j8.2.seed])]⟩ ?_
  refine SRun.nil ?_
  replace h := Option.some.inj h
  subst h
  exact q_l (Le.sub0)
  replace h := cond_f hb h
  refine swp_exit ?_
  replace h := Option.some.inj h
  subst h
  exact nx_e (q_re (q_bh (q_j (Le.sub0))))
  refine swp_seq ?_
  refine swp_seq ?_
  refine swp_reg ?_
  refine SRun.ck tbokF1 1 ⟨70, [(0, .ref 1000000 0), (4, vi (w64 (2 + x1.1))), (5, .own 5), (48, .ref 1000000 0)], [(5, .arr 42 4 j4.1.length (j4.1.map eTie)), (1000000, .box [vl (eI .u8) j4.2.code, vi j4.2.at', vi j4.2.seed])]⟩ ?_
  obtain ⟨x16, hx16, h⟩ := bind_some h
  refine SRun.estep (x_estep_call (f := 80) (caps := []) (xs := [.ref 1000000 0, vi 30]) (pre := []) (post := [vi 30]) (qs := [vi 30]) (z := .ref 1000000 0) (d := 1000000) (pl := 0) (y := .box [vl (eI .u8) j4.2.code, vi j4.2.at', vi j4.2.seed]) (y' := .box [vl (eI .u8) x16.2.code, vi x16.2.at', vi x16.2.seed]) (res := ⟨[.v (vi x16.1)], [(0, .box [vl (eI .u8) x16.2.code, vi x16.2.at', vi x16.2.seed])], false⟩) (x := vi x16.1) (yo := none) rfl rfl rfl rfl rfl ents80 (spec_l01Next_run j4.2 30 _ hx16) rfl rfl false (fun _ => rfl) (by intro hc; cases hc)) ?_
  refine SRun.nil ?_
  refine nx_n ?_
  refine swp_seqE (r := r) h (fun j17 => ⟨70, [(4, vi (w64 (2 + x1.1))), (5, .own 5)], [(5, .arr 42 4 j17.1.length (j17.1.map eTie)), (1000000, .box [vl (eI .u8) j17.2.code, vi j17.2.at', vi j17.2.seed])]⟩) (fun v18 h => ?_) (fun j17 h => ?_)
  refine swp_blk (a := v18) ?_
  refine swp_seq ?_
  refine swp_reg ?_
  refine SRun.ck tbokF1 2 ⟨70, [(0, .ref 1000000 0), (4, vi (w64 (2 + x1.1))), (5, .own 5), (49, vi x16.1), (50, vb (x16.1 == 0))], [(5, .arr 42 4 j4.1.length (j4.1.map eTie)), (1000000, .box [vl (eI .u8) x16.2.code, vi x16.2.at', vi x16.2.seed])]⟩ ?_
  refine SRun.nil ?_
  refine nx_n ?_
  refine swp_cond (b := (x16.1 == 0)) (by kernel_rfl) (fun hb => ?_) (fun hb => ?_)
  replace h := cond_t hb h
  refine swp_seq ?_
  refine swp_reg ?_
  refine SRun.ck tbokF1 2 ⟨70, [(5, .own 5), (52, .ref 1000000 0), (53, .own 53)], [(5, .arr 42 4 j4.1.length (j4.1.map eTie)), (53, .arr 2 1 ([0, 12, 13, (-1)] : List Int).length (([0, 12, 13, (-1)] : List Int).map (eI .i64))), (1000000, .box [vl (eI .u8) x16.2.code, vi x16.2.at', vi x16.2.seed])]⟩ ?_
  refine SRun.le (Le.frz' (d := 53) (e := 2) (m := 1) (n := ([0, 12, 13, (-1)] : List Int).length) (es := ([0, 12, 13, (-1)] : List Int).map (eI .i64)) (by kernel_rfl) (by kernel_rfl)) ?_
  obtain ⟨x19, hx19, h⟩ := bind_some h
  refine SRun.estep (x_estep_call (f := 93) (caps := []) (xs := [.ref 1000000 0, vl (eI .i64) ([0, 12, 13, (-1)] : List Int)]) (pre := []) (post := [vl (eI .i64) ([0, 12, 13, (-1)] : List Int)]) (qs := [vl (eI .i64) ([0, 12, 13, (-1)] : List Int)]) (z := .ref 1000000 0) (d := 1000000) (pl := 0) (y := .box [vl (eI .u8) x16.2.code, vi x16.2.at', vi x16.2.seed]) (y' := .box [vl (eI .u8) x19.2.code, vi x19.2.at', vi x19.2.seed]) (res := ⟨[.v (vi x19.1)], [(0, .box [vl (eI .u8) x19.2.code, vi x19.2.at', vi x19.2.seed])], false⟩) (x := vi x19.1) (yo := none) rfl rfl rfl rfl rfl ents93 (spec_l01Pick_run x16.2 ([0, 12, 13, (-1)] : List Int) _ hx19) rfl rfl false (fun _ => rfl) (by intro hc; cases hc)) ?_
  refine SRun.ck tbokF1 3 ⟨70, [(2, vi x19.1), (3, .own 5)], [(5, .arr 42 4 j4.1.length (j4.1.map eTie)), (1000000, .box [vl (eI .u8) x19.2.code, vi x19.2.at', vi x19.2.seed])]⟩ ?_
  refine SRun.nil ?_
  refine nx_n ?_
  refine swp_ret ?_
  replace h := Option.some.inj h
  subst h
  exact q_br (q_rr (q_fr (fin_io (fin2 (by kernel_rfl) (finV rfl SV.flat_of (holds_t (by kernel_rfl))) (finO (d := 5) (holds_t (by kernel_rfl)) (by kernel_rfl) (flat_map eTie_flat _) (by kernel_rfl))) (y := .box [vl (eI .u8) x19.2.code, vi x19.2.at', vi x19.2.seed]) (by kernel_rfl) rfl (by kernel_rfl) (by kernel_rfl))))
  replace h := cond_f hb h
  refine swp_seq ?_
  refine swp_reg ?_
  refine SRun.ck tbokF1 2 ⟨70, [(0, .ref 1000000 0), (4, vi (w64 (2 + x1.1))), (5, .own 5), (56, vb (x16.1 == 1))], [(5, .arr 42 4 j4.1.length (j4.1.map eTie)), (1000000, .box [vl (eI .u8) x16.2.code, vi x16.2.at', vi x16.2.seed])]⟩ ?_
  refine SRun.nil ?_
  refine nx_n ?_
  refine swp_cond (b := (x16.1 == 1)) (by kernel_rfl) (fun hb => ?_) (fun hb => ?_)
  replace h := cond_t hb h
  refine swp_blk (a := v18) ?_
  refine swp_lpL (r := v18) (s := (j4.1, x16.2)) _ (fun s20 => ⟨70, [(0, .ref 1000000 0), (4, vi (w64 (2 + x1.1))), (5, .own 5)], [(5, .arr 42 4 s20.1.length (s20.1.map eTie)), (1000000, .box [vl (eI .u8) s20.2.code, vi s20.2.at', vi s20.2.seed])]⟩) _ (Le.sub0) h (fun s20 v21 h => ?_)
  refine swp_seq ?_
  refine swp_seq ?_
  refine swp_reg ?_
  refine SRun.ck tbokF1 3 ⟨70, [(0, .ref 1000000 0), (4, vi (w64 (2 + x1.1))), (5, .own 5), (59, vi (s20.1.length : Int)), (60, .ref 1000000 0)], [(5, .arr 42 4 s20.1.length (s20.1.map eTie)), (1000000, .box [vl (eI .u8) s20.2.code, vi s20.2.at', vi s20.2.seed])]⟩ ?_
  obtain ⟨x22, hx22, h⟩ := bind_some h
  refine SRun.estep (x_estep_call (f := 80) (caps := []) (xs := [.ref 1000000 0, vi 2]) (pre := []) (post := [vi 2]) (qs := [vi 2]) (z := .ref 1000000 0) (d := 1000000) (pl := 0) (y := .box [vl (eI .u8) s20.2.code, vi s20.2.at', vi s20.2.seed]) (y' := .box [vl (eI .u8) x22.2.code, vi x22.2.at', vi x22.2.seed]) (res := ⟨[.v (vi x22.1)], [(0, .box [vl (eI .u8) x22.2.code, vi x22.2.at', vi x22.2.seed])], false⟩) (x := vi x22.1) (yo := none) rfl rfl rfl rfl rfl ents80 (spec_l01Next_run s20.2 2 _ hx22) rfl rfl false (fun _ => rfl) (by intro hc; cases hc)) ?_
  refine SRun.ck tbokF1 2 ⟨70, [(0, .ref 1000000 0), (4, vi (w64 (2 + x1.1))), (5, .own 5), (63, vb (decide ((s20.1.length : Int) < (w64 (20 + x22.1)))))], [(5, .arr 42 4 s20.1.length (s20.1.map eTie)), (1000000, .box [vl (eI .u8) x22.2.code, vi x22.2.at', vi x22.2.seed])]⟩ ?_
  refine SRun.nil ?_
  refine nx_n ?_
  refine swp_cond (b := (decide ((s20.1.length : Int) < (w64 (20 + x22.1))))) (by kernel_rfl) (fun hb => ?_) (fun hb => ?_)
  replace h := cond_t hb h
  refine swp_skip ?_
  refine nx_n ?_
  refine swp_blk (a := v21) ?_
  refine swp_reg ?_
  refine SRun.ck tbokF1 1 ⟨70, [(0, .ref 1000000 0), (4, vi (w64 (2 + x1.1))), (64, .own 5)], [(5, .arr 42 4 s20.1.length (s20.1.map eTie)), (1000000, .box [vl (eI .u8) x22.2.code, vi x22.2.at', vi x22.2.seed])]⟩ ?_
  refine SRun.ls (x_lstep_build (v := .agg [vi 0, vi 1, vb true, vs (ByteArray.mk #[109, 97, 112])]) tbokF1 rfl) ?_
  refine SRun.ck tbokF1 1 ⟨70, [(0, .ref 1000000 0), (4, vi (w64 (2 + x1.1))), (64, .own 5), (66, .own 66)], [(5, .arr 42 4 s20.1.length (s20.1.map eTie)), (66, .arr 42 4 ([(Tie.mk 0 1 true (ByteArray.mk #[109, 97, 112]))] : List Tie).length (([(Tie.mk 0 1 true (ByteArray.mk #[109, 97, 112]))] : List Tie).map eTie)), (1000000, .box [vl (eI .u8) x22.2.code, vi x22.2.at', vi x22.2.seed])]⟩ ?_
  obtain ⟨x23, hx23, h⟩ := bind_some h
  refine SRun.estep (x_append (f := eTie) (t := 25) (ti := ti25) (tj := ti42) (zs := [.int .i64 0, .int .i64 0, .bool false, .string (ByteArray.mk #[])]) (e := 42) (m := 4) (d := 5) (xv := .own 66) hx23 tbokF1 rfl rfl rfl rfl (x_src_o (e := 42))) ?_
  refine SRun.ck tbokF1 1 ⟨70, [(0, .ref 1000000 0), (4, vi (w64 (2 + x1.1))), (5, .own 67)], [(67, .arr 42 4 x23.length (x23.map eTie)), (1000000, .box [vl (eI .u8) x22.2.code, vi x22.2.at', vi x22.2.seed])]⟩ ?_
  refine SRun.nil ?_
  replace h := Option.some.inj h
  subst h
  exact q_bn (q_l ((Le.sub' ([(0, .ref 1000000 0), (4, vi (w64 (2 + x1.1))), (5, .own 67)] : List (Nat × SV)) ([(67, .arr 42 4 x23.length (x23.map eTie)), (1000000, .box [vl (eI .u8) x22.2.code, vi x22.2.at', vi x22.2.seed])] : List (Nat × SO)) (by kernel_rfl) (by kernel_rfl)).trans ((Le.ren' (d := 67) (e := 5) (by kernel_rfl) (by kernel_rfl) (by kernel_rfl)).trans (Le.sub0))))
  replace h := cond_f hb h
  refine swp_exit ?_
  replace h := Option.some.inj h
  subst h
  exact nx_e (q_re (q_bh (q_bn (q_l (Le.sub0)))))
  replace h := cond_f hb h
  refine swp_skip ?_
  replace h := Option.some.inj h
  subst h
  exact q_bn (q_l (Le.sub0))
  refine swp_seq ?_
  refine swp_reg ?_
  refine SRun.ck tbokF1 4 ⟨70, [(2, vi (w64 (2 + x1.1))), (3, .own 5)], [(5, .arr 42 4 j17.1.length (j17.1.map eTie)), (1000000, .box [vl (eI .u8) j17.2.code, vi j17.2.at', vi j17.2.seed])]⟩ ?_
  refine SRun.nil ?_
  refine nx_n ?_
  refine swp_ret ?_
  replace h := Option.some.inj h
  subst h
  exact q_fr (fin_io (fin2 (by kernel_rfl) (finV rfl SV.flat_of (holds_t (by kernel_rfl))) (finO (d := 5) (holds_t (by kernel_rfl)) (by kernel_rfl) (flat_map eTie_flat _) (by kernel_rfl))) (y := .box [vl (eI .u8) j17.2.code, vi j17.2.at', vi j17.2.seed]) (by kernel_rfl) rfl (by kernel_rfl) (by kernel_rfl))
theorem ents79 : Ents Tryd.prog 79 := ents_of Tryd.func79 (by kernel_rfl) rfl
noncomputable def spec_DrawProofOf (aCode : (List Int)) : Option (Int × (List Tie) × Int × Int) :=
  ((spec_l01From aCode).bind fun x1 => ((spec_l31Draw x1).bind fun x2 => ((spec_l01Next x2.2.2 (maxI 1 x2.1)).bind fun x3 => ((spec_l01Next x3.2 12).bind fun x4 => ((spec_l01Next x4.2 (w64 ((maxI 1 x2.1) + (w64 (Int.tdiv x4.1 11))))).bind fun x5 => some (x2.1, x2.2.1, x3.1, x5.1))))))
set_option maxRecDepth 100000 in
set_option maxHeartbeats 4000000 in
theorem spec_DrawProofOf_run (aCode : (List Int)) (r : Int × (List Tie) × Int × Int) (h : spec_DrawProofOf aCode = some r) : SCall Tryd.prog 49 [.v (vl (eI .u8) aCode)] ⟨[.v (vi r.1), .own 42 4 r.2.1.length (r.2.1.map eTie), .v (vi r.2.2.1), .v (vi r.2.2.2)], [], false⟩ := by
  refine scall_in Tryd.func49 rfl [(.tmp 2), (.tmp 3), (.tmp 4), (.tmp 5)] rfl (fun r => ⟨[.v (vi r.1), .own 42 4 r.2.1.length (r.2.1.map eTie), .v (vi r.2.2.1), .v (vi r.2.2.2)], [], false⟩) (r := r) ?_
  unfold spec_DrawProofOf at h
  refine swp_seq ?_
  refine swp_reg ?_
  refine SRun.ck tbokF1 4 ⟨32, [(0, vl (eI .u8) aCode)], []⟩ ?_
  refine SRun.nil ?_
  refine nx_n ?_
  refine swp_seq ?_
  refine swp_reg ?_
  refine SRun.ck tbokF1 1 ⟨32, [(10, vl (eI .u8) aCode)], []⟩ ?_
  obtain ⟨x1, hx1, h⟩ := bind_some h
  refine SRun.ls (x_lstep_call (f := 78) (caps := []) (xs := [vl (eI .u8) aCode]) (ys := [vl (eI .u8) aCode]) (res := ⟨[.box [vl (eI .u8) x1.code, vi x1.at', vi x1.seed]], [], true⟩) (x := .ref 11 0) (y := some (.box [vl (eI .u8) x1.code, vi x1.at', vi x1.seed])) rfl ents78 (spec_l01From_run aCode _ hx1) rfl (fun _ => rfl)) ?_
  refine SRun.ck tbokF1 1 ⟨32, [(6, .ref 11 0)], [(11, .box [vl (eI .u8) x1.code, vi x1.at', vi x1.seed])]⟩ ?_
  refine SRun.nil ?_
  refine nx_n ?_
  refine swp_seq ?_
  refine swp_reg ?_
  refine SRun.ck tbokF1 1 ⟨32, [(6, .ref 11 0), (13, .ref 11 0)], [(11, .box [vl (eI .u8) x1.code, vi x1.at', vi x1.seed])]⟩ ?_
  obtain ⟨x2, hx2, h⟩ := bind_some h
  refine SRun.estep (x_estep_call (f := 79) (caps := []) (xs := [.ref 11 0]) (pre := []) (post := []) (qs := []) (z := .ref 11 0) (d := 11) (pl := 0) (y := .box [vl (eI .u8) x1.code, vi x1.at', vi x1.seed]) (y' := .box [vl (eI .u8) x2.2.2.code, vi x2.2.2.at', vi x2.2.2.seed]) (res := ⟨[.v (vi x2.1), .own 42 4 x2.2.1.length (x2.2.1.map eTie)], [(0, .box [vl (eI .u8) x2.2.2.code, vi x2.2.2.at', vi x2.2.2.seed])], false⟩) (x := .tup [vi x2.1, .own 14]) (yo := some (.arr 42 4 x2.2.1.length (x2.2.1.map eTie))) rfl rfl rfl rfl rfl ents79 (spec_l31Draw_run x1 _ hx2) rfl rfl false (fun _ => rfl) (by intro hc; cases hc)) ?_
  refine SRun.ck tbokF1 5 ⟨32, [(6, .ref 11 0), (7, vi x2.1), (8, .own 14)], [(11, .box [vl (eI .u8) x2.2.2.code, vi x2.2.2.at', vi x2.2.2.seed]), (14, .arr 42 4 x2.2.1.length (x2.2.1.map eTie))]⟩ ?_
  refine SRun.nil ?_
  refine nx_n ?_
  refine swp_seq ?_
  refine swp_reg ?_
  refine SRun.ck tbokF1 3 ⟨32, [(6, .ref 11 0), (7, vi x2.1), (8, .own 14), (17, .ref 11 0), (19, vi (maxI 1 x2.1))], [(11, .box [vl (eI .u8) x2.2.2.code, vi x2.2.2.at', vi x2.2.2.seed]), (14, .arr 42 4 x2.2.1.length (x2.2.1.map eTie))]⟩ ?_
  obtain ⟨x3, hx3, h⟩ := bind_some h
  refine SRun.estep (x_estep_call (f := 80) (caps := []) (xs := [.ref 11 0, vi (maxI 1 x2.1)]) (pre := []) (post := [vi (maxI 1 x2.1)]) (qs := [vi (maxI 1 x2.1)]) (z := .ref 11 0) (d := 11) (pl := 0) (y := .box [vl (eI .u8) x2.2.2.code, vi x2.2.2.at', vi x2.2.2.seed]) (y' := .box [vl (eI .u8) x3.2.code, vi x3.2.at', vi x3.2.seed]) (res := ⟨[.v (vi x3.1)], [(0, .box [vl (eI .u8) x3.2.code, vi x3.2.at', vi x3.2.seed])], false⟩) (x := vi x3.1) (yo := none) rfl rfl rfl rfl rfl ents80 (spec_l01Next_run x2.2.2 (maxI 1 x2.1) _ hx3) rfl rfl false (fun _ => rfl) (by intro hc; cases hc)) ?_
  refine SRun.ck tbokF1 1 ⟨32, [(6, .ref 11 0), (7, vi x2.1), (8, .own 14), (9, vi x3.1)], [(11, .box [vl (eI .u8) x3.2.code, vi x3.2.at', vi x3.2.seed]), (14, .arr 42 4 x2.2.1.length (x2.2.1.map eTie))]⟩ ?_
  refine SRun.nil ?_
  refine nx_n ?_
  refine swp_seq ?_
  refine swp_reg ?_
  refine SRun.ck tbokF1 7 ⟨32, [(21, vi x2.1), (22, .own 14), (23, vi x3.1), (24, .ref 11 0), (26, vi (maxI 1 x2.1)), (27, .ref 11 0)], [(11, .box [vl (eI .u8) x3.2.code, vi x3.2.at', vi x3.2.seed]), (14, .arr 42 4 x2.2.1.length (x2.2.1.map eTie))]⟩ ?_
  obtain ⟨x4, hx4, h⟩ := bind_some h
  refine SRun.estep (x_estep_call (f := 80) (caps := []) (xs := [.ref 11 0, vi 12]) (pre := []) (post := [vi 12]) (qs := [vi 12]) (z := .ref 11 0) (d := 11) (pl := 0) (y := .box [vl (eI .u8) x3.2.code, vi x3.2.at', vi x3.2.seed]) (y' := .box [vl (eI .u8) x4.2.code, vi x4.2.at', vi x4.2.seed]) (res := ⟨[.v (vi x4.1)], [(0, .box [vl (eI .u8) x4.2.code, vi x4.2.at', vi x4.2.seed])], false⟩) (x := vi x4.1) (yo := none) rfl rfl rfl rfl rfl ents80 (spec_l01Next_run x3.2 12 _ hx4) rfl rfl false (fun _ => rfl) (by intro hc; cases hc)) ?_
  refine SRun.ck tbokF1 2 ⟨32, [(21, vi x2.1), (22, .own 14), (23, vi x3.1), (24, .ref 11 0), (30, vi (w64 ((maxI 1 x2.1) + (w64 (Int.tdiv x4.1 11)))))], [(11, .box [vl (eI .u8) x4.2.code, vi x4.2.at', vi x4.2.seed]), (14, .arr 42 4 x2.2.1.length (x2.2.1.map eTie))]⟩ ?_
  obtain ⟨x5, hx5, h⟩ := bind_some h
  refine SRun.estep (x_estep_call (f := 80) (caps := []) (xs := [.ref 11 0, vi (w64 ((maxI 1 x2.1) + (w64 (Int.tdiv x4.1 11))))]) (pre := []) (post := [vi (w64 ((maxI 1 x2.1) + (w64 (Int.tdiv x4.1 11))))]) (qs := [vi (w64 ((maxI 1 x2.1) + (w64 (Int.tdiv x4.1 11))))]) (z := .ref 11 0) (d := 11) (pl := 0) (y := .box [vl (eI .u8) x4.2.code, vi x4.2.at', vi x4.2.seed]) (y' := .box [vl (eI .u8) x5.2.code, vi x5.2.at', vi x5.2.seed]) (res := ⟨[.v (vi x5.1)], [(0, .box [vl (eI .u8) x5.2.code, vi x5.2.at', vi x5.2.seed])], false⟩) (x := vi x5.1) (yo := none) rfl rfl rfl rfl rfl ents80 (spec_l01Next_run x4.2 (w64 ((maxI 1 x2.1) + (w64 (Int.tdiv x4.1 11)))) _ hx5) rfl rfl false (fun _ => rfl) (by intro hc; cases hc)) ?_
  refine SRun.ck tbokF1 4 ⟨32, [(2, vi x2.1), (3, .own 14), (4, vi x3.1), (5, vi x5.1)], [(14, .arr 42 4 x2.2.1.length (x2.2.1.map eTie))]⟩ ?_
  refine SRun.nil ?_
  refine nx_n ?_
  refine swp_ret ?_
  replace h := Option.some.inj h
  subst h
  exact q_fr (fin4 (by kernel_rfl) (finV rfl SV.flat_of (holds_t (by kernel_rfl))) (finO (d := 14) (holds_t (by kernel_rfl)) (by kernel_rfl) (flat_map eTie_flat _) (by kernel_rfl)) (finV rfl SV.flat_of (holds_t (by kernel_rfl))) (finV rfl SV.flat_of (holds_t (by kernel_rfl))))
theorem ents49 : Ents Tryd.prog 49 := ents_of Tryd.func49 (by kernel_rfl) rfl
noncomputable def spec_DrawMayBeSame (aCode : (List Int)) : Option (Int × (List Tie) × Int × Int) :=
  ((spec_DrawProofOf aCode).bind fun x1 => some (x1.1, x1.2.1, x1.2.2.1, x1.2.2.2))
set_option maxRecDepth 100000 in
set_option maxHeartbeats 4000000 in
theorem spec_DrawMayBeSame_run (aCode : (List Int)) (r : Int × (List Tie) × Int × Int) (h : spec_DrawMayBeSame aCode = some r) : SCall Tryd.prog 46 [.v (vl (eI .u8) aCode)] ⟨[.v (vi r.1), .own 42 4 r.2.1.length (r.2.1.map eTie), .v (vi r.2.2.1), .v (vi r.2.2.2)], [], false⟩ := by
  refine scall_in Tryd.func46 rfl [(.tmp 2), (.tmp 3), (.tmp 4), (.tmp 5)] rfl (fun r => ⟨[.v (vi r.1), .own 42 4 r.2.1.length (r.2.1.map eTie), .v (vi r.2.2.1), .v (vi r.2.2.2)], [], false⟩) (r := r) ?_
  unfold spec_DrawMayBeSame at h
  refine swp_seq ?_
  refine swp_reg ?_
  refine SRun.ck tbokF1 4 ⟨12, [(0, vl (eI .u8) aCode)], []⟩ ?_
  refine SRun.nil ?_
  refine nx_n ?_
  refine swp_seq ?_
  refine swp_reg ?_
  refine SRun.ck tbokF1 1 ⟨12, [(6, vl (eI .u8) aCode)], []⟩ ?_
  obtain ⟨x1, hx1, h⟩ := bind_some h
  refine SRun.ls (x_lstep_call (f := 49) (caps := []) (xs := [vl (eI .u8) aCode]) (ys := [vl (eI .u8) aCode]) (res := ⟨[.v (vi x1.1), .own 42 4 x1.2.1.length (x1.2.1.map eTie), .v (vi x1.2.2.1), .v (vi x1.2.2.2)], [], false⟩) (x := .tup [vi x1.1, .own 7, vi x1.2.2.1, vi x1.2.2.2]) (y := some (.arr 42 4 x1.2.1.length (x1.2.1.map eTie))) rfl ents49 (spec_DrawProofOf_run aCode _ hx1) rfl (by intro hc; cases hc)) ?_
  refine SRun.ck tbokF1 8 ⟨12, [(2, vi x1.1), (3, .own 7), (4, vi x1.2.2.1), (5, vi x1.2.2.2)], [(7, .arr 42 4 x1.2.1.length (x1.2.1.map eTie))]⟩ ?_
  refine SRun.nil ?_
  refine nx_n ?_
  refine swp_ret ?_
  replace h := Option.some.inj h
  subst h
  exact q_fr (fin4 (by kernel_rfl) (finV rfl SV.flat_of (holds_t (by kernel_rfl))) (finO (d := 7) (holds_t (by kernel_rfl)) (by kernel_rfl) (flat_map eTie_flat _) (by kernel_rfl)) (finV rfl SV.flat_of (holds_t (by kernel_rfl))) (finV rfl SV.flat_of (holds_t (by kernel_rfl))))
theorem ents46 : Ents Tryd.prog 46 := ents_of Tryd.func46 (by kernel_rfl) rfl
noncomputable def spec_DrawRemoveTie (aCode : (List Int)) : Option (Int × (List Tie) × Int) :=
  ((spec_l01From aCode).bind fun x1 => ((spec_l31Draw x1).bind fun x2 => ((spec_l01Next x2.2.2 (w64 ((x2.2.1.length : Int) + 1))).bind fun x3 => ((spec_l01Next x3.2 24).bind fun x4 => some (x2.1, x2.2.1, (w64 (x3.1 - (w64 (Int.tdiv x4.1 23)))))))))
set_option maxRecDepth 100000 in
set_option maxHeartbeats 4000000 in
theorem spec_DrawRemoveTie_run (aCode : (List Int)) (r : Int × (List Tie) × Int) (h : spec_DrawRemoveTie aCode = some r) : SCall Tryd.prog 77 [.v (vl (eI .u8) aCode)] ⟨[.v (vi r.1), .own 42 4 r.2.1.length (r.2.1.map eTie), .v (vi r.2.2)], [], false⟩ := by
  refine scall_in Tryd.func77 rfl [(.tmp 2), (.tmp 3), (.tmp 4)] rfl (fun r => ⟨[.v (vi r.1), .own 42 4 r.2.1.length (r.2.1.map eTie), .v (vi r.2.2)], [], false⟩) (r := r) ?_
  unfold spec_DrawRemoveTie at h
  refine swp_seq ?_
  refine swp_reg ?_
  refine SRun.ck tbokF1 3 ⟨26, [(0, vl (eI .u8) aCode)], []⟩ ?_
  refine SRun.nil ?_
  refine nx_n ?_
  refine swp_seq ?_
  refine swp_reg ?_
  refine SRun.ck tbokF1 1 ⟨26, [(8, vl (eI .u8) aCode)], []⟩ ?_
  obtain ⟨x1, hx1, h⟩ := bind_some h
  refine SRun.ls (x_lstep_call (f := 78) (caps := []) (xs := [vl (eI .u8) aCode]) (ys := [vl (eI .u8) aCode]) (res := ⟨[.box [vl (eI .u8) x1.code, vi x1.at', vi x1.seed]], [], true⟩) (x := .ref 9 0) (y := some (.box [vl (eI .u8) x1.code, vi x1.at', vi x1.seed])) rfl ents78 (spec_l01From_run aCode _ hx1) rfl (fun _ => rfl)) ?_
  refine SRun.ck tbokF1 1 ⟨26, [(5, .ref 9 0)], [(9, .box [vl (eI .u8) x1.code, vi x1.at', vi x1.seed])]⟩ ?_
  refine SRun.nil ?_
  refine nx_n ?_
  refine swp_seq ?_
  refine swp_reg ?_
  refine SRun.ck tbokF1 1 ⟨26, [(5, .ref 9 0), (11, .ref 9 0)], [(9, .box [vl (eI .u8) x1.code, vi x1.at', vi x1.seed])]⟩ ?_
  obtain ⟨x2, hx2, h⟩ := bind_some h
  refine SRun.estep (x_estep_call (f := 79) (caps := []) (xs := [.ref 9 0]) (pre := []) (post := []) (qs := []) (z := .ref 9 0) (d := 9) (pl := 0) (y := .box [vl (eI .u8) x1.code, vi x1.at', vi x1.seed]) (y' := .box [vl (eI .u8) x2.2.2.code, vi x2.2.2.at', vi x2.2.2.seed]) (res := ⟨[.v (vi x2.1), .own 42 4 x2.2.1.length (x2.2.1.map eTie)], [(0, .box [vl (eI .u8) x2.2.2.code, vi x2.2.2.at', vi x2.2.2.seed])], false⟩) (x := .tup [vi x2.1, .own 12]) (yo := some (.arr 42 4 x2.2.1.length (x2.2.1.map eTie))) rfl rfl rfl rfl rfl ents79 (spec_l31Draw_run x1 _ hx2) rfl rfl false (fun _ => rfl) (by intro hc; cases hc)) ?_
  refine SRun.ck tbokF1 5 ⟨26, [(5, .ref 9 0), (6, vi x2.1), (7, .own 12)], [(9, .box [vl (eI .u8) x2.2.2.code, vi x2.2.2.at', vi x2.2.2.seed]), (12, .arr 42 4 x2.2.1.length (x2.2.1.map eTie))]⟩ ?_
  refine SRun.nil ?_
  refine nx_n ?_
  refine swp_seq ?_
  refine swp_reg ?_
  refine SRun.ck tbokF1 6 ⟨26, [(5, .ref 9 0), (15, vi x2.1), (16, .own 12), (17, .ref 9 0), (20, vi (w64 ((x2.2.1.length : Int) + 1)))], [(9, .box [vl (eI .u8) x2.2.2.code, vi x2.2.2.at', vi x2.2.2.seed]), (12, .arr 42 4 x2.2.1.length (x2.2.1.map eTie))]⟩ ?_
  obtain ⟨x3, hx3, h⟩ := bind_some h
  refine SRun.estep (x_estep_call (f := 80) (caps := []) (xs := [.ref 9 0, vi (w64 ((x2.2.1.length : Int) + 1))]) (pre := []) (post := [vi (w64 ((x2.2.1.length : Int) + 1))]) (qs := [vi (w64 ((x2.2.1.length : Int) + 1))]) (z := .ref 9 0) (d := 9) (pl := 0) (y := .box [vl (eI .u8) x2.2.2.code, vi x2.2.2.at', vi x2.2.2.seed]) (y' := .box [vl (eI .u8) x3.2.code, vi x3.2.at', vi x3.2.seed]) (res := ⟨[.v (vi x3.1)], [(0, .box [vl (eI .u8) x3.2.code, vi x3.2.at', vi x3.2.seed])], false⟩) (x := vi x3.1) (yo := none) rfl rfl rfl rfl rfl ents80 (spec_l01Next_run x2.2.2 (w64 ((x2.2.1.length : Int) + 1)) _ hx3) rfl rfl false (fun _ => rfl) (by intro hc; cases hc)) ?_
  refine SRun.ck tbokF1 1 ⟨26, [(15, vi x2.1), (16, .own 12), (21, vi x3.1), (22, .ref 9 0)], [(9, .box [vl (eI .u8) x3.2.code, vi x3.2.at', vi x3.2.seed]), (12, .arr 42 4 x2.2.1.length (x2.2.1.map eTie))]⟩ ?_
  obtain ⟨x4, hx4, h⟩ := bind_some h
  refine SRun.estep (x_estep_call (f := 80) (caps := []) (xs := [.ref 9 0, vi 24]) (pre := []) (post := [vi 24]) (qs := [vi 24]) (z := .ref 9 0) (d := 9) (pl := 0) (y := .box [vl (eI .u8) x3.2.code, vi x3.2.at', vi x3.2.seed]) (y' := .box [vl (eI .u8) x4.2.code, vi x4.2.at', vi x4.2.seed]) (res := ⟨[.v (vi x4.1)], [(0, .box [vl (eI .u8) x4.2.code, vi x4.2.at', vi x4.2.seed])], false⟩) (x := vi x4.1) (yo := none) rfl rfl rfl rfl rfl ents80 (spec_l01Next_run x3.2 24 _ hx4) rfl rfl false (fun _ => rfl) (by intro hc; cases hc)) ?_
  refine SRun.ck tbokF1 5 ⟨26, [(2, vi x2.1), (3, .own 12), (4, vi (w64 (x3.1 - (w64 (Int.tdiv x4.1 23)))))], [(12, .arr 42 4 x2.2.1.length (x2.2.1.map eTie))]⟩ ?_
  refine SRun.nil ?_
  refine nx_n ?_
  refine swp_ret ?_
  replace h := Option.some.inj h
  subst h
  exact q_fr (fin3 (by kernel_rfl) (finV rfl SV.flat_of (holds_t (by kernel_rfl))) (finO (d := 12) (holds_t (by kernel_rfl)) (by kernel_rfl) (flat_map eTie_flat _) (by kernel_rfl)) (finV rfl SV.flat_of (holds_t (by kernel_rfl))))
theorem ents77 : Ents Tryd.prog 77 := ents_of Tryd.func77 (by kernel_rfl) rfl
noncomputable def spec_DrawSplitsBy (aCode : (List Int)) : Option (Int × (List Tie) × Int) :=
  ((spec_DrawRemoveTie aCode).bind fun x1 => some (x1.1, x1.2.1, x1.2.2))
set_option maxRecDepth 100000 in
set_option maxHeartbeats 4000000 in
theorem spec_DrawSplitsBy_run (aCode : (List Int)) (r : Int × (List Tie) × Int) (h : spec_DrawSplitsBy aCode = some r) : SCall Tryd.prog 47 [.v (vl (eI .u8) aCode)] ⟨[.v (vi r.1), .own 42 4 r.2.1.length (r.2.1.map eTie), .v (vi r.2.2)], [], false⟩ := by
  refine scall_in Tryd.func47 rfl [(.tmp 2), (.tmp 3), (.tmp 4)] rfl (fun r => ⟨[.v (vi r.1), .own 42 4 r.2.1.length (r.2.1.map eTie), .v (vi r.2.2)], [], false⟩) (r := r) ?_
  unfold spec_DrawSplitsBy at h
  refine swp_seq ?_
  refine swp_reg ?_
  refine SRun.ck tbokF1 3 ⟨10, [(0, vl (eI .u8) aCode)], []⟩ ?_
  refine SRun.nil ?_
  refine nx_n ?_
  refine swp_seq ?_
  refine swp_reg ?_
  refine SRun.ck tbokF1 1 ⟨10, [(5, vl (eI .u8) aCode)], []⟩ ?_
  obtain ⟨x1, hx1, h⟩ := bind_some h
  refine SRun.ls (x_lstep_call (f := 77) (caps := []) (xs := [vl (eI .u8) aCode]) (ys := [vl (eI .u8) aCode]) (res := ⟨[.v (vi x1.1), .own 42 4 x1.2.1.length (x1.2.1.map eTie), .v (vi x1.2.2)], [], false⟩) (x := .tup [vi x1.1, .own 6, vi x1.2.2]) (y := some (.arr 42 4 x1.2.1.length (x1.2.1.map eTie))) rfl ents77 (spec_DrawRemoveTie_run aCode _ hx1) rfl (by intro hc; cases hc)) ?_
  refine SRun.ck tbokF1 6 ⟨10, [(2, vi x1.1), (3, .own 6), (4, vi x1.2.2)], [(6, .arr 42 4 x1.2.1.length (x1.2.1.map eTie))]⟩ ?_
  refine SRun.nil ?_
  refine nx_n ?_
  refine swp_ret ?_
  replace h := Option.some.inj h
  subst h
  exact q_fr (fin3 (by kernel_rfl) (finV rfl SV.flat_of (holds_t (by kernel_rfl))) (finO (d := 6) (holds_t (by kernel_rfl)) (by kernel_rfl) (flat_map eTie_flat _) (by kernel_rfl)) (finV rfl SV.flat_of (holds_t (by kernel_rfl))))
theorem ents47 : Ents Tryd.prog 47 := ents_of Tryd.func47 (by kernel_rfl) rfl
noncomputable def laws_likeTies (aA : (List Tie)) (aB : (List Tie)) : Option (Bool) :=
  (bif ((aA.length : Int) != (aB.length : Int)) then some false else (((forN (aA.length : Int) (fun (i3 : Int) (_ : Unit) => ((at' aA i3).bind fun x7 => ((at' aB i3).bind fun x8 => (bif (!((x7.A == x8.A) && ((x7.B == x8.B) && ((x7.Same == x8.Same) && (x7.Reason.toList == x8.Reason.toList))))) then some (.inr (.inr false)) else some (.inl ()))))) (fun (_ : Unit) => .inl ()) 0 ())).bind (Sum.elim (fun (_ : Unit) => some true) some)))
set_option maxRecDepth 100000 in
set_option maxHeartbeats 4000000 in
theorem laws_likeTies_run (aA : (List Tie)) (aB : (List Tie)) (r : Bool) (h : laws_likeTies aA aB = some r) : SCall Tryd.prog 48 [.v (vl eTie aA), .v (vl eTie aB)] ⟨[.v (vb r)], [], false⟩ := by
  refine scall_in Tryd.func48 rfl [(.tmp 4)] rfl (fun r => ⟨[.v (vb r)], [], false⟩) (r := r) ?_
  unfold laws_likeTies at h
  refine swp_seq ?_
  refine swp_reg ?_
  refine SRun.ck tbokF1 1 ⟨26, [(0, vl eTie aA), (1, vl eTie aB)], []⟩ ?_
  refine SRun.nil ?_
  refine nx_n ?_
  refine swp_seq ?_
  refine swp_seq ?_
  refine swp_reg ?_
  refine SRun.ck tbokF1 5 ⟨26, [(0, vl eTie aA), (1, vl eTie aB), (10, vb ((aA.length : Int) != (aB.length : Int)))], []⟩ ?_
  refine SRun.nil ?_
  refine nx_n ?_
  refine swp_cond (b := ((aA.length : Int) != (aB.length : Int))) (by kernel_rfl) (fun hb => ?_) (fun hb => ?_)
  replace h := cond_t hb h
  refine swp_seq ?_
  refine swp_reg ?_
  refine SRun.ck tbokF1 1 ⟨26, [(4, vb false)], []⟩ ?_
  refine SRun.nil ?_
  refine nx_n ?_
  refine swp_ret ?_
  replace h := Option.some.inj h
  subst h
  exact nx_r (q_fr (fin1 (by kernel_rfl) (finV rfl SV.flat_of (holds_t (by kernel_rfl)))))
  replace h := cond_f hb h
  refine swp_skip ?_
  refine nx_n ?_
  refine swp_seq ?_
  refine swp_seq ?_
  refine swp_reg ?_
  refine SRun.ck tbokF1 1 ⟨26, [(0, vl eTie aA), (1, vl eTie aB), (5, vi 0)], []⟩ ?_
  refine SRun.nil ?_
  refine nx_n ?_
  refine swp_seqE (r := r) h (fun j1 => ⟨26, [], []⟩) (fun v2 h => ?_) (fun j1 h => ?_)
  refine swp_blk (a := v2) ?_
  refine swp_lpL (r := v2) (s := (0, ())) _ (fun s3 => ⟨26, [(0, vl eTie aA), (1, vl eTie aB), (5, vi s3.1)], []⟩) _ (Le.sub0) h (fun s3 v4 h => ?_)
  refine swp_seq ?_
  refine swp_seq ?_
  refine swp_reg ?_
  refine SRun.ck tbokF1 4 ⟨26, [(0, vl eTie aA), (1, vl eTie aB), (5, vi s3.1), (14, vb (decide (s3.1 < (aA.length : Int))))], []⟩ ?_
  refine SRun.nil ?_
  refine nx_n ?_
  refine swp_cond (b := (decide (s3.1 < (aA.length : Int)))) (by kernel_rfl) (fun hb => ?_) (fun hb => ?_)
  replace h := cond_t hb h
  refine swp_skip ?_
  refine nx_n ?_
  refine swp_seq ?_
  refine swp_seqL (r := v4) h (fun j5 => ⟨26, [(0, vl eTie aA), (1, vl eTie aB), (5, vi s3.1)], []⟩) (fun v6 h => ?_) (fun j5 h => ?_)
  refine swp_blk (a := v6) ?_
  refine swp_seq ?_
  refine swp_dr mixed ?_
  refine DGo.chunk' tbokF1 2 (σ' := ⟨26, [(18, vi s3.1), (17, vl eTie aA), (0, vl eTie aA), (1, vl eTie aB), (5, vi s3.1), (14, vb (decide (s3.1 < (aA.length : Int))))], []⟩) (by kernel_rfl) ?_
  obtain ⟨x7, hx7, h⟩ := bind_some h
  refine DGo.step (x_index (L := aA) (f := eTie) (ti := ti25) (tj := ti42) (e := 42) (k := .i64) tbokF1 rfl hx7) ?_
  refine DGo.chunk' tbokF1 3 (σ' := ⟨26, [(22, vi s3.1), (21, vl eTie aB), (20, .agg [vi x7.A, vi x7.B, vb x7.Same, vs x7.Reason]), (19, .ptr ((eTie x7).map .tr) 0), (18, vi s3.1), (17, vl eTie aA), (0, vl eTie aA), (1, vl eTie aB), (5, vi s3.1), (14, vb (decide (s3.1 < (aA.length : Int))))], []⟩) (by kernel_rfl) ?_
  obtain ⟨x8, hx8, h⟩ := bind_some h
  refine DGo.step (x_index (L := aB) (f := eTie) (ti := ti25) (tj := ti42) (e := 42) (k := .i64) tbokF1 rfl hx8) ?_
  refine DGo.chunk' tbokF1 1 (σ' := ⟨26, [(24, .agg [vi x8.A, vi x8.B, vb x8.Same, vs x8.Reason]), (23, .ptr ((eTie x8).map .tr) 0), (22, vi s3.1), (21, vl eTie aB), (20, .agg [vi x7.A, vi x7.B, vb x7.Same, vs x7.Reason]), (19, .ptr ((eTie x7).map .tr) 0), (18, vi s3.1), (17, vl eTie aA), (0, vl eTie aA), (1, vl eTie aB), (5, vi s3.1), (14, vb (decide (s3.1 < (aA.length : Int))))], []⟩) (by kernel_rfl) ?_
  refine DGo.step (x_lstep_eq tbokF1 true (xs := [vi x7.A, vi x7.B, vb x7.Same, vs x7.Reason]) (ys := [vi x8.A, vi x8.B, vb x8.Same, vs x8.Reason]) (b := ((x7.A == x8.A) && ((x7.B == x8.B) && ((x7.Same == x8.Same) && (x7.Reason.toList == x8.Reason.toList))))) rfl) ?_
  refine DGo.nil (by kernel_rfl) ?_
  refine nx_n ?_
  refine swp_cond (b := (!((x7.A == x8.A) && ((x7.B == x8.B) && ((x7.Same == x8.Same) && (x7.Reason.toList == x8.Reason.toList)))))) (by kernel_rfl) (fun hb => ?_) (fun hb => ?_)
  replace h := cond_t hb h
  refine swp_seq ?_
  refine swp_reg ?_
  refine SRun.ck tbokF1 1 ⟨26, [(4, vb false)], []⟩ ?_
  refine SRun.nil ?_
  refine nx_n ?_
  refine swp_ret ?_
  replace h := Option.some.inj h
  subst h
  exact q_br (q_rr (q_rr (q_br (q_rr (q_fr (fin1 (by kernel_rfl) (finV rfl SV.flat_of (holds_t (by kernel_rfl)))))))))
  replace h := cond_f hb h
  refine swp_skip ?_
  replace h := Option.some.inj h
  subst h
  exact q_bn (q_l (Le.sub0))
  refine swp_reg ?_
  refine SRun.ck tbokF1 3 ⟨26, [(0, vl eTie aA), (1, vl eTie aB), (5, vi (w64 (s3.1 + 1)))], []⟩ ?_
  refine SRun.nil ?_
  replace h := Option.some.inj h
  subst h
  exact q_l (Le.sub0)
  replace h := cond_f hb h
  refine swp_exit ?_
  replace h := Option.some.inj h
  subst h
  exact nx_e (q_re (q_bh (q_l (Le.sub0))))
  refine swp_seq ?_
  refine swp_reg ?_
  refine SRun.ck tbokF1 1 ⟨26, [(4, vb true)], []⟩ ?_
  refine SRun.nil ?_
  refine nx_n ?_
  refine swp_ret ?_
  replace h := Option.some.inj h
  subst h
  exact q_fr (fin1 (by kernel_rfl) (finV rfl SV.flat_of (holds_t (by kernel_rfl))))
theorem ents48 : Ents Tryd.prog 48 := ents_of Tryd.func48 (by kernel_rfl) rfl
noncomputable def laws_FnTies (aCode : (List Int)) : Option (Bool) :=
  ((laws_big aCode).bind fun x1 => (bif x1 then some true else ((spec_DrawMayBeSame aCode).bind fun x2 => ((impl_MayBeSame x2.1 x2.2.1 x2.2.2.1 x2.2.2.2).bind fun x3 => ((spec_MayBeSame x2.1 x2.2.1 x2.2.2.1 x2.2.2.2).bind fun x4 => ((spec_DrawSplitsBy aCode).bind fun x5 => ((impl_SplitsBy x5.1 x5.2.1 x5.2.2).bind fun x6 => ((spec_SplitsBy x5.1 x5.2.1 x5.2.2).bind fun x7 => ((impl_RemoveTie x5.1 x5.2.1 x5.2.2).bind fun x8 => ((spec_RemoveTie x5.1 x5.2.1 x5.2.2).bind fun x9 => (((bif (x3.2 != x4.2) then some true else (bif (!(x3.1 == x4.1)) then some true else (bif (x6.2 != x7.2) then some true else (bif (!(x6.1 == x7.1)) then some true else (bif (x8.2 != x9.2) then some true else ((laws_likeTies x8.1 x9.1).bind fun x10 => (bif (!x10) then some true else some (x6.2 != x8.2))))))))).bind fun (j11 : Bool) => (bif j11 then some false else (((bif (x6.2 == 0) then ((impl_GroupsOf x5.1 x5.2.1).bind fun x15 => ((impl_GroupsOf x5.1 x8.1).bind fun x16 => (bif ((x15.2 != 0) || ((x16.2 != 0) || (!(x6.1 == (decide ((x16.1.length : Int) > (x15.1.length : Int))))))) then some (.inr false) else some (.inl ())))) else some (.inl ()))).bind (Sum.elim (fun (_ : Unit) => (bif ((x3.2 != 0) || ((x2.2.2.1 == x2.2.2.2) || ((x2.2.1.length : Int) == 20))) then some true else ((impl_AddTie x2.1 x2.2.1 (Tie.mk (minI x2.2.2.1 x2.2.2.2) (maxI x2.2.2.1 x2.2.2.2) true (ByteArray.mk #[120]))).bind fun x17 => some (x3.1 == (x17.2 == 0))))) some))))))))))))))
set_option maxRecDepth 100000 in
set_option maxHeartbeats 4000000 in
theorem laws_FnTies_run (aCode : (List Int)) (r : Bool) (h : laws_FnTies aCode = some r) : SCall Tryd.prog 12 [.v (vl (eI .u8) aCode)] ⟨[.v (vb r)], [], false⟩ := by
  refine scall_in Tryd.func12 rfl [(.tmp 2)] rfl (fun r => ⟨[.v (vb r)], [], false⟩) (r := r) ?_
  unfold laws_FnTies at h
  refine swp_seq ?_
  refine swp_reg ?_
  refine SRun.ck tbokF1 1 ⟨179, [(0, vl (eI .u8) aCode)], []⟩ ?_
  refine SRun.nil ?_
  refine nx_n ?_
  refine swp_seq ?_
  refine swp_seq ?_
  refine swp_reg ?_
  refine SRun.ck tbokF1 1 ⟨179, [(0, vl (eI .u8) aCode), (28, vl (eI .u8) aCode)], []⟩ ?_
  obtain ⟨x1, hx1, h⟩ := bind_some h
  refine SRun.ls (x_lstep_call (f := 45) (caps := []) (xs := [vl (eI .u8) aCode]) (ys := [vl (eI .u8) aCode]) (res := ⟨[.v (vb x1)], [], false⟩) (x := vb x1) (y := none) rfl ents45 (laws_big_run aCode _ hx1) rfl (by intro hc; cases hc)) ?_
  refine SRun.nil ?_
  refine nx_n ?_
  refine swp_cond (b := x1) (by kernel_rfl) (fun hb => ?_) (fun hb => ?_)
  replace h := cond_t hb h
  refine swp_seq ?_
  refine swp_reg ?_
  refine SRun.ck tbokF1 1 ⟨179, [(2, vb true)], []⟩ ?_
  refine SRun.nil ?_
  refine nx_n ?_
  refine swp_ret ?_
  replace h := Option.some.inj h
  subst h
  exact nx_r (q_fr (fin1 (by kernel_rfl) (finV rfl SV.flat_of (holds_t (by kernel_rfl)))))
  replace h := cond_f hb h
  refine swp_skip ?_
  refine nx_n ?_
  refine swp_seq ?_
  refine swp_reg ?_
  refine SRun.ck tbokF1 1 ⟨179, [(0, vl (eI .u8) aCode), (31, vl (eI .u8) aCode)], []⟩ ?_
  obtain ⟨x2, hx2, h⟩ := bind_some h
  refine SRun.ls (x_lstep_call (f := 46) (caps := []) (xs := [vl (eI .u8) aCode]) (ys := [vl (eI .u8) aCode]) (res := ⟨[.v (vi x2.1), .own 42 4 x2.2.1.length (x2.2.1.map eTie), .v (vi x2.2.2.1), .v (vi x2.2.2.2)], [], false⟩) (x := .tup [vi x2.1, .own 32, vi x2.2.2.1, vi x2.2.2.2]) (y := some (.arr 42 4 x2.2.1.length (x2.2.1.map eTie))) rfl ents46 (spec_DrawMayBeSame_run aCode _ hx2) rfl (by intro hc; cases hc)) ?_
  refine SRun.ck tbokF1 9 ⟨179, [(0, vl (eI .u8) aCode), (3, vi x2.1), (4, .own 32), (5, vi x2.2.2.1), (6, vi x2.2.2.2)], [(32, .arr 42 4 x2.2.1.length (x2.2.1.map eTie))]⟩ ?_
  refine SRun.nil ?_
  refine nx_n ?_
  refine swp_seq ?_
  refine swp_reg ?_
  refine SRun.ck tbokF1 4 ⟨179, [(0, vl (eI .u8) aCode), (3, vi x2.1), (4, .own 32), (5, vi x2.2.2.1), (6, vi x2.2.2.2), (38, vi x2.1), (39, .own 32), (40, vi x2.2.2.1), (41, vi x2.2.2.2)], [(32, .arr 42 4 x2.2.1.length (x2.2.1.map eTie))]⟩ ?_
  obtain ⟨x3, hx3, h⟩ := bind_some h
  refine SRun.ls (x_lstep_call (f := 26) (caps := []) (xs := [vi x2.1, .own 32, vi x2.2.2.1, vi x2.2.2.2]) (ys := [vi x2.1, vl eTie x2.2.1, vi x2.2.2.1, vi x2.2.2.2]) (res := ⟨[.v (vb x3.1), .v (vi x3.2)], [], false⟩) (x := .tup [vb x3.1, vi x3.2]) (y := none) rfl ents26 (impl_MayBeSame_run x2.1 x2.2.1 x2.2.2.1 x2.2.2.2 _ hx3) rfl (by intro hc; cases hc)) ?_
  refine SRun.ck tbokF1 5 ⟨179, [(0, vl (eI .u8) aCode), (3, vi x2.1), (4, .own 32), (5, vi x2.2.2.1), (6, vi x2.2.2.2), (7, vb x3.1), (8, vi x3.2)], [(32, .arr 42 4 x2.2.1.length (x2.2.1.map eTie))]⟩ ?_
  refine SRun.nil ?_
  refine nx_n ?_
  refine swp_seq ?_
  refine swp_reg ?_
  refine SRun.ck tbokF1 4 ⟨179, [(0, vl (eI .u8) aCode), (3, vi x2.1), (4, .own 32), (5, vi x2.2.2.1), (6, vi x2.2.2.2), (7, vb x3.1), (8, vi x3.2), (46, vi x2.1), (47, .own 32), (48, vi x2.2.2.1), (49, vi x2.2.2.2)], [(32, .arr 42 4 x2.2.1.length (x2.2.1.map eTie))]⟩ ?_
  obtain ⟨x4, hx4, h⟩ := bind_some h
  refine SRun.ls (x_lstep_call (f := 25) (caps := []) (xs := [vi x2.1, .own 32, vi x2.2.2.1, vi x2.2.2.2]) (ys := [vi x2.1, vl eTie x2.2.1, vi x2.2.2.1, vi x2.2.2.2]) (res := ⟨[.v (vb x4.1), .v (vi x4.2)], [], false⟩) (x := .tup [vb x4.1, vi x4.2]) (y := none) rfl ents25 (spec_MayBeSame_run x2.1 x2.2.1 x2.2.2.1 x2.2.2.2 _ hx4) rfl (by intro hc; cases hc)) ?_
  refine SRun.ck tbokF1 5 ⟨179, [(0, vl (eI .u8) aCode), (3, vi x2.1), (4, .own 32), (5, vi x2.2.2.1), (6, vi x2.2.2.2), (7, vb x3.1), (8, vi x3.2), (9, vb x4.1), (10, vi x4.2)], [(32, .arr 42 4 x2.2.1.length (x2.2.1.map eTie))]⟩ ?_
  refine SRun.nil ?_
  refine nx_n ?_
  refine swp_seq ?_
  refine swp_reg ?_
  refine SRun.ck tbokF1 1 ⟨179, [(3, vi x2.1), (4, .own 32), (5, vi x2.2.2.1), (6, vi x2.2.2.2), (7, vb x3.1), (8, vi x3.2), (9, vb x4.1), (10, vi x4.2), (54, vl (eI .u8) aCode)], [(32, .arr 42 4 x2.2.1.length (x2.2.1.map eTie))]⟩ ?_
  obtain ⟨x5, hx5, h⟩ := bind_some h
  refine SRun.ls (x_lstep_call (f := 47) (caps := []) (xs := [vl (eI .u8) aCode]) (ys := [vl (eI .u8) aCode]) (res := ⟨[.v (vi x5.1), .own 42 4 x5.2.1.length (x5.2.1.map eTie), .v (vi x5.2.2)], [], false⟩) (x := .tup [vi x5.1, .own 55, vi x5.2.2]) (y := some (.arr 42 4 x5.2.1.length (x5.2.1.map eTie))) rfl ents47 (spec_DrawSplitsBy_run aCode _ hx5) rfl (by intro hc; cases hc)) ?_
  refine SRun.ck tbokF1 7 ⟨179, [(3, vi x2.1), (4, .own 32), (5, vi x2.2.2.1), (6, vi x2.2.2.2), (7, vb x3.1), (8, vi x3.2), (9, vb x4.1), (10, vi x4.2), (11, vi x5.1), (12, .own 55), (13, vi x5.2.2)], [(32, .arr 42 4 x2.2.1.length (x2.2.1.map eTie)), (55, .arr 42 4 x5.2.1.length (x5.2.1.map eTie))]⟩ ?_
  refine SRun.nil ?_
  refine nx_n ?_
  refine swp_seq ?_
  refine swp_reg ?_
  refine SRun.ck tbokF1 3 ⟨179, [(3, vi x2.1), (4, .own 32), (5, vi x2.2.2.1), (6, vi x2.2.2.2), (7, vb x3.1), (8, vi x3.2), (9, vb x4.1), (10, vi x4.2), (11, vi x5.1), (12, .own 55), (13, vi x5.2.2), (60, vi x5.1), (61, .own 55), (62, vi x5.2.2)], [(32, .arr 42 4 x2.2.1.length (x2.2.1.map eTie)), (55, .arr 42 4 x5.2.1.length (x5.2.1.map eTie))]⟩ ?_
  obtain ⟨x6, hx6, h⟩ := bind_some h
  refine SRun.ls (x_lstep_call (f := 28) (caps := []) (xs := [vi x5.1, .own 55, vi x5.2.2]) (ys := [vi x5.1, vl eTie x5.2.1, vi x5.2.2]) (res := ⟨[.v (vb x6.1), .v (vi x6.2)], [], false⟩) (x := .tup [vb x6.1, vi x6.2]) (y := none) rfl ents28 (impl_SplitsBy_run x5.1 x5.2.1 x5.2.2 _ hx6) rfl (by intro hc; cases hc)) ?_
  refine SRun.ck tbokF1 5 ⟨179, [(3, vi x2.1), (4, .own 32), (5, vi x2.2.2.1), (6, vi x2.2.2.2), (7, vb x3.1), (8, vi x3.2), (9, vb x4.1), (10, vi x4.2), (11, vi x5.1), (12, .own 55), (13, vi x5.2.2), (14, vb x6.1), (15, vi x6.2)], [(32, .arr 42 4 x2.2.1.length (x2.2.1.map eTie)), (55, .arr 42 4 x5.2.1.length (x5.2.1.map eTie))]⟩ ?_
  refine SRun.nil ?_
  refine nx_n ?_
  refine swp_seq ?_
  refine swp_reg ?_
  refine SRun.ck tbokF1 3 ⟨179, [(3, vi x2.1), (4, .own 32), (5, vi x2.2.2.1), (6, vi x2.2.2.2), (7, vb x3.1), (8, vi x3.2), (9, vb x4.1), (10, vi x4.2), (11, vi x5.1), (12, .own 55), (13, vi x5.2.2), (14, vb x6.1), (15, vi x6.2), (67, vi x5.1), (68, .own 55), (69, vi x5.2.2)], [(32, .arr 42 4 x2.2.1.length (x2.2.1.map eTie)), (55, .arr 42 4 x5.2.1.length (x5.2.1.map eTie))]⟩ ?_
  obtain ⟨x7, hx7, h⟩ := bind_some h
  refine SRun.ls (x_lstep_call (f := 27) (caps := []) (xs := [vi x5.1, .own 55, vi x5.2.2]) (ys := [vi x5.1, vl eTie x5.2.1, vi x5.2.2]) (res := ⟨[.v (vb x7.1), .v (vi x7.2)], [], false⟩) (x := .tup [vb x7.1, vi x7.2]) (y := none) rfl ents27 (spec_SplitsBy_run x5.1 x5.2.1 x5.2.2 _ hx7) rfl (by intro hc; cases hc)) ?_
  refine SRun.ck tbokF1 5 ⟨179, [(3, vi x2.1), (4, .own 32), (5, vi x2.2.2.1), (6, vi x2.2.2.2), (7, vb x3.1), (8, vi x3.2), (9, vb x4.1), (10, vi x4.2), (11, vi x5.1), (12, .own 55), (13, vi x5.2.2), (14, vb x6.1), (15, vi x6.2), (16, vb x7.1), (17, vi x7.2)], [(32, .arr 42 4 x2.2.1.length (x2.2.1.map eTie)), (55, .arr 42 4 x5.2.1.length (x5.2.1.map eTie))]⟩ ?_
  refine SRun.nil ?_
  refine nx_n ?_
  refine swp_seq ?_
  refine swp_reg ?_
  refine SRun.ck tbokF1 3 ⟨179, [(3, vi x2.1), (4, .own 32), (5, vi x2.2.2.1), (6, vi x2.2.2.2), (7, vb x3.1), (8, vi x3.2), (9, vb x4.1), (10, vi x4.2), (11, vi x5.1), (12, .own 55), (13, vi x5.2.2), (14, vb x6.1), (15, vi x6.2), (16, vb x7.1), (17, vi x7.2), (74, vi x5.1), (75, .own 55), (76, vi x5.2.2)], [(32, .arr 42 4 x2.2.1.length (x2.2.1.map eTie)), (55, .arr 42 4 x5.2.1.length (x5.2.1.map eTie))]⟩ ?_
  obtain ⟨x8, hx8, h⟩ := bind_some h
  refine SRun.ls (x_lstep_call (f := 20) (caps := []) (xs := [vi x5.1, .own 55, vi x5.2.2]) (ys := [vi x5.1, vl eTie x5.2.1, vi x5.2.2]) (res := ⟨[.own 42 4 x8.1.length (x8.1.map eTie), .v (vi x8.2)], [], false⟩) (x := .tup [.own 77, vi x8.2]) (y := some (.arr 42 4 x8.1.length (x8.1.map eTie))) rfl ents20 (impl_RemoveTie_run x5.1 x5.2.1 x5.2.2 _ hx8) rfl (by intro hc; cases hc)) ?_
  refine SRun.ck tbokF1 5 ⟨179, [(3, vi x2.1), (4, .own 32), (5, vi x2.2.2.1), (6, vi x2.2.2.2), (7, vb x3.1), (8, vi x3.2), (9, vb x4.1), (10, vi x4.2), (11, vi x5.1), (12, .own 55), (13, vi x5.2.2), (14, vb x6.1), (15, vi x6.2), (16, vb x7.1), (17, vi x7.2), (18, .own 77), (19, vi x8.2)], [(32, .arr 42 4 x2.2.1.length (x2.2.1.map eTie)), (55, .arr 42 4 x5.2.1.length (x5.2.1.map eTie)), (77, .arr 42 4 x8.1.length (x8.1.map eTie))]⟩ ?_
  refine SRun.nil ?_
  refine nx_n ?_
  refine swp_seq ?_
  refine swp_reg ?_
  refine SRun.ck tbokF1 3 ⟨179, [(3, vi x2.1), (4, .own 32), (5, vi x2.2.2.1), (6, vi x2.2.2.2), (7, vb x3.1), (8, vi x3.2), (9, vb x4.1), (10, vi x4.2), (11, vi x5.1), (12, .own 55), (14, vb x6.1), (15, vi x6.2), (16, vb x7.1), (17, vi x7.2), (18, .own 77), (19, vi x8.2), (81, vi x5.1), (82, .own 55), (83, vi x5.2.2)], [(32, .arr 42 4 x2.2.1.length (x2.2.1.map eTie)), (55, .arr 42 4 x5.2.1.length (x5.2.1.map eTie)), (77, .arr 42 4 x8.1.length (x8.1.map eTie))]⟩ ?_
  obtain ⟨x9, hx9, h⟩ := bind_some h
  refine SRun.ls (x_lstep_call (f := 19) (caps := []) (xs := [vi x5.1, .own 55, vi x5.2.2]) (ys := [vi x5.1, vl eTie x5.2.1, vi x5.2.2]) (res := ⟨[.own 42 4 x9.1.length (x9.1.map eTie), .v (vi x9.2)], [], false⟩) (x := .tup [.own 84, vi x9.2]) (y := some (.arr 42 4 x9.1.length (x9.1.map eTie))) rfl ents19 (spec_RemoveTie_run x5.1 x5.2.1 x5.2.2 _ hx9) rfl (by intro hc; cases hc)) ?_
  refine SRun.ck tbokF1 5 ⟨179, [(3, vi x2.1), (4, .own 32), (5, vi x2.2.2.1), (6, vi x2.2.2.2), (7, vb x3.1), (8, vi x3.2), (9, vb x4.1), (10, vi x4.2), (11, vi x5.1), (12, .own 55), (14, vb x6.1), (15, vi x6.2), (16, vb x7.1), (17, vi x7.2), (18, .own 77), (19, vi x8.2), (20, .own 84), (21, vi x9.2)], [(32, .arr 42 4 x2.2.1.length (x2.2.1.map eTie)), (55, .arr 42 4 x5.2.1.length (x5.2.1.map eTie)), (77, .arr 42 4 x8.1.length (x8.1.map eTie)), (84, .arr 42 4 x9.1.length (x9.1.map eTie))]⟩ ?_
  refine SRun.nil ?_
  refine nx_n ?_
  refine swp_seq ?_
  refine swp_seq ?_
  refine swp_regJ h (fun j11 => ⟨179, [(3, vi x2.1), (4, .own 4), (5, vi x2.2.2.1), (6, vi x2.2.2.2), (7, vb x3.1), (8, vi x3.2), (11, vi x5.1), (12, .own 12), (14, vb x6.1), (15, vi x6.2), (18, .own 18), (120, vb j11)], [(4, .arr 42 4 x2.2.1.length (x2.2.1.map eTie)), (12, .arr 42 4 x5.2.1.length (x5.2.1.map eTie)), (18, .arr 42 4 x8.1.length (x8.1.map eTie))]⟩) (fun v12 h => ?_) (fun j11 h => ?_)
  refine SRun.ck tbokF1 4 ⟨179, [(3, vi x2.1), (4, .own 32), (5, vi x2.2.2.1), (6, vi x2.2.2.2), (7, vb x3.1), (8, vi x3.2), (9, vb x4.1), (11, vi x5.1), (12, .own 55), (14, vb x6.1), (15, vi x6.2), (16, vb x7.1), (17, vi x7.2), (18, .own 77), (19, vi x8.2), (20, .own 84), (21, vi x9.2), (90, vb (x3.2 != x4.2))], [(32, .arr 42 4 x2.2.1.length (x2.2.1.map eTie)), (55, .arr 42 4 x5.2.1.length (x5.2.1.map eTie)), (77, .arr 42 4 x8.1.length (x8.1.map eTie)), (84, .arr 42 4 x9.1.length (x9.1.map eTie))]⟩ ?_
  refine SRun.cut [(90, fun b => b)] (b := (x3.2 != x4.2)) (by kernel_rfl) (fun hb => ?_) (fun hb => ?_)
  replace h := cond_t hb h
  refine SRun.ck tbokF1 30 ⟨179, [(3, vi x2.1), (4, .own 32), (5, vi x2.2.2.1), (6, vi x2.2.2.2), (7, vb x3.1), (8, vi x3.2), (11, vi x5.1), (12, .own 55), (14, vb x6.1), (15, vi x6.2), (18, .own 77), (120, vb true)], [(32, .arr 42 4 x2.2.1.length (x2.2.1.map eTie)), (55, .arr 42 4 x5.2.1.length (x5.2.1.map eTie)), (77, .arr 42 4 x8.1.length (x8.1.map eTie))]⟩ ?_
  refine SRun.nil ?_
  replace h := Option.some.inj h
  subst h
  exact (Le.sub' ([(3, vi x2.1), (4, .own 32), (5, vi x2.2.2.1), (6, vi x2.2.2.2), (7, vb x3.1), (8, vi x3.2), (11, vi x5.1), (12, .own 55), (14, vb x6.1), (15, vi x6.2), (18, .own 77), (120, vb true)] : List (Nat × SV)) ([(32, .arr 42 4 x2.2.1.length (x2.2.1.map eTie)), (55, .arr 42 4 x5.2.1.length (x5.2.1.map eTie)), (77, .arr 42 4 x8.1.length (x8.1.map eTie))] : List (Nat × SO)) (by kernel_rfl) (by kernel_rfl)).trans ((Le.ren' (d := 32) (e := 4) (by kernel_rfl) (by kernel_rfl) (by kernel_rfl)).trans ((Le.ren' (d := 55) (e := 12) (by kernel_rfl) (by kernel_rfl) (by kernel_rfl)).trans ((Le.ren' (d := 77) (e := 18) (by kernel_rfl) (by kernel_rfl) (by kernel_rfl)).trans (Le.sub0))))
  replace h := cond_f hb h
  refine SRun.ck tbokF1 2 ⟨179, [(3, vi x2.1), (4, .own 32), (5, vi x2.2.2.1), (6, vi x2.2.2.2), (7, vb x3.1), (8, vi x3.2), (11, vi x5.1), (12, .own 55), (14, vb x6.1), (15, vi x6.2), (16, vb x7.1), (17, vi x7.2), (18, .own 77), (19, vi x8.2), (20, .own 84), (21, vi x9.2), (90, vb false), (91, vb x3.1), (92, vb x4.1)], [(32, .arr 42 4 x2.2.1.length (x2.2.1.map eTie)), (55, .arr 42 4 x5.2.1.length (x5.2.1.map eTie)), (77, .arr 42 4 x8.1.length (x8.1.map eTie)), (84, .arr 42 4 x9.1.length (x9.1.map eTie))]⟩ ?_
  refine SRun.ls (x_lstep_eqb tbokF1 (ti := ti4) (i := x3.1) (j := x4.1) true rfl) ?_
  refine SRun.ck tbokF1 2 ⟨179, [(3, vi x2.1), (4, .own 32), (5, vi x2.2.2.1), (6, vi x2.2.2.2), (7, vb x3.1), (8, vi x3.2), (11, vi x5.1), (12, .own 55), (14, vb x6.1), (15, vi x6.2), (16, vb x7.1), (17, vi x7.2), (18, .own 77), (19, vi x8.2), (20, .own 84), (21, vi x9.2), (95, vb (!(x3.1 == x4.1)))], [(32, .arr 42 4 x2.2.1.length (x2.2.1.map eTie)), (55, .arr 42 4 x5.2.1.length (x5.2.1.map eTie)), (77, .arr 42 4 x8.1.length (x8.1.map eTie)), (84, .arr 42 4 x9.1.length (x9.1.map eTie))]⟩ ?_
  refine SRun.cut [(95, fun b => b)] (b := (!(x3.1 == x4.1))) (by kernel_rfl) (fun hb => ?_) (fun hb => ?_)
  replace h := cond_t hb h
  refine SRun.ck tbokF1 25 ⟨179, [(3, vi x2.1), (4, .own 32), (5, vi x2.2.2.1), (6, vi x2.2.2.2), (7, vb x3.1), (8, vi x3.2), (11, vi x5.1), (12, .own 55), (14, vb x6.1), (15, vi x6.2), (18, .own 77), (120, vb true)], [(32, .arr 42 4 x2.2.1.length (x2.2.1.map eTie)), (55, .arr 42 4 x5.2.1.length (x5.2.1.map eTie)), (77, .arr 42 4 x8.1.length (x8.1.map eTie))]⟩ ?_
  refine SRun.nil ?_
  replace h := Option.some.inj h
  subst h
  exact (Le.sub' ([(3, vi x2.1), (4, .own 32), (5, vi x2.2.2.1), (6, vi x2.2.2.2), (7, vb x3.1), (8, vi x3.2), (11, vi x5.1), (12, .own 55), (14, vb x6.1), (15, vi x6.2), (18, .own 77), (120, vb true)] : List (Nat × SV)) ([(32, .arr 42 4 x2.2.1.length (x2.2.1.map eTie)), (55, .arr 42 4 x5.2.1.length (x5.2.1.map eTie)), (77, .arr 42 4 x8.1.length (x8.1.map eTie))] : List (Nat × SO)) (by kernel_rfl) (by kernel_rfl)).trans ((Le.ren' (d := 32) (e := 4) (by kernel_rfl) (by kernel_rfl) (by kernel_rfl)).trans ((Le.ren' (d := 55) (e := 12) (by kernel_rfl) (by kernel_rfl) (by kernel_rfl)).trans ((Le.ren' (d := 77) (e := 18) (by kernel_rfl) (by kernel_rfl) (by kernel_rfl)).trans (Le.sub0))))
  replace h := cond_f hb h
  refine SRun.ck tbokF1 5 ⟨179, [(3, vi x2.1), (4, .own 32), (5, vi x2.2.2.1), (6, vi x2.2.2.2), (7, vb x3.1), (8, vi x3.2), (11, vi x5.1), (12, .own 55), (14, vb x6.1), (15, vi x6.2), (16, vb x7.1), (18, .own 77), (19, vi x8.2), (20, .own 84), (21, vi x9.2), (100, vb (x6.2 != x7.2))], [(32, .arr 42 4 x2.2.1.length (x2.2.1.map eTie)), (55, .arr 42 4 x5.2.1.length (x5.2.1.map eTie)), (77, .arr 42 4 x8.1.length (x8.1.map eTie)), (84, .arr 42 4 x9.1.length (x9.1.map eTie))]⟩ ?_
  refine SRun.cut [(100, fun b => b)] (b := (x6.2 != x7.2)) (by kernel_rfl) (fun hb => ?_) (fun hb => ?_)
  replace h := cond_t hb h
  refine SRun.ck tbokF1 20 ⟨179, [(3, vi x2.1), (4, .own 32), (5, vi x2.2.2.1), (6, vi x2.2.2.2), (7, vb x3.1), (8, vi x3.2), (11, vi x5.1), (12, .own 55), (14, vb x6.1), (15, vi x6.2), (18, .own 77), (120, vb true)], [(32, .arr 42 4 x2.2.1.length (x2.2.1.map eTie)), (55, .arr 42 4 x5.2.1.length (x5.2.1.map eTie)), (77, .arr 42 4 x8.1.length (x8.1.map eTie))]⟩ ?_
  refine SRun.nil ?_
  replace h := Option.some.inj h
  subst h
  exact (Le.sub' ([(3, vi x2.1), (4, .own 32), (5, vi x2.2.2.1), (6, vi x2.2.2.2), (7, vb x3.1), (8, vi x3.2), (11, vi x5.1), (12, .own 55), (14, vb x6.1), (15, vi x6.2), (18, .own 77), (120, vb true)] : List (Nat × SV)) ([(32, .arr 42 4 x2.2.1.length (x2.2.1.map eTie)), (55, .arr 42 4 x5.2.1.length (x5.2.1.map eTie)), (77, .arr 42 4 x8.1.length (x8.1.map eTie))] : List (Nat × SO)) (by kernel_rfl) (by kernel_rfl)).trans ((Le.ren' (d := 32) (e := 4) (by kernel_rfl) (by kernel_rfl) (by kernel_rfl)).trans ((Le.ren' (d := 55) (e := 12) (by kernel_rfl) (by kernel_rfl) (by kernel_rfl)).trans ((Le.ren' (d := 77) (e := 18) (by kernel_rfl) (by kernel_rfl) (by kernel_rfl)).trans (Le.sub0))))
  replace h := cond_f hb h
  refine SRun.ck tbokF1 2 ⟨179, [(3, vi x2.1), (4, .own 32), (5, vi x2.2.2.1), (6, vi x2.2.2.2), (7, vb x3.1), (8, vi x3.2), (11, vi x5.1), (12, .own 55), (14, vb x6.1), (15, vi x6.2), (18, .own 77), (19, vi x8.2), (20, .own 84), (21, vi x9.2), (100, vb false), (101, vb x6.1), (102, vb x7.1)], [(32, .arr 42 4 x2.2.1.length (x2.2.1.map eTie)), (55, .arr 42 4 x5.2.1.length (x5.2.1.map eTie)), (77, .arr 42 4 x8.1.length (x8.1.map eTie)), (84, .arr 42 4 x9.1.length (x9.1.map eTie))]⟩ ?_
  refine SRun.ls (x_lstep_eqb tbokF1 (ti := ti4) (i := x6.1) (j := x7.1) true rfl) ?_
  refine SRun.ck tbokF1 2 ⟨179, [(3, vi x2.1), (4, .own 32), (5, vi x2.2.2.1), (6, vi x2.2.2.2), (7, vb x3.1), (8, vi x3.2), (11, vi x5.1), (12, .own 55), (14, vb x6.1), (15, vi x6.2), (18, .own 77), (19, vi x8.2), (20, .own 84), (21, vi x9.2), (105, vb (!(x6.1 == x7.1)))], [(32, .arr 42 4 x2.2.1.length (x2.2.1.map eTie)), (55, .arr 42 4 x5.2.1.length (x5.2.1.map eTie)), (77, .arr 42 4 x8.1.length (x8.1.map eTie)), (84, .arr 42 4 x9.1.length (x9.1.map eTie))]⟩ ?_
  refine SRun.cut [(105, fun b => b)] (b := (!(x6.1 == x7.1))) (by kernel_rfl) (fun hb => ?_) (fun hb => ?_)
  replace h := cond_t hb h
  refine SRun.ck tbokF1 15 ⟨179, [(3, vi x2.1), (4, .own 32), (5, vi x2.2.2.1), (6, vi x2.2.2.2), (7, vb x3.1), (8, vi x3.2), (11, vi x5.1), (12, .own 55), (14, vb x6.1), (15, vi x6.2), (18, .own 77), (120, vb true)], [(32, .arr 42 4 x2.2.1.length (x2.2.1.map eTie)), (55, .arr 42 4 x5.2.1.length (x5.2.1.map eTie)), (77, .arr 42 4 x8.1.length (x8.1.map eTie))]⟩ ?_
  refine SRun.nil ?_
  replace h := Option.some.inj h
  subst h
  exact (Le.sub' ([(3, vi x2.1), (4, .own 32), (5, vi x2.2.2.1), (6, vi x2.2.2.2), (7, vb x3.1), (8, vi x3.2), (11, vi x5.1), (12, .own 55), (14, vb x6.1), (15, vi x6.2), (18, .own 77), (120, vb true)] : List (Nat × SV)) ([(32, .arr 42 4 x2.2.1.length (x2.2.1.map eTie)), (55, .arr 42 4 x5.2.1.length (x5.2.1.map eTie)), (77, .arr 42 4 x8.1.length (x8.1.map eTie))] : List (Nat × SO)) (by kernel_rfl) (by kernel_rfl)).trans ((Le.ren' (d := 32) (e := 4) (by kernel_rfl) (by kernel_rfl) (by kernel_rfl)).trans ((Le.ren' (d := 55) (e := 12) (by kernel_rfl) (by kernel_rfl) (by kernel_rfl)).trans ((Le.ren' (d := 77) (e := 18) (by kernel_rfl) (by kernel_rfl) (by kernel_rfl)).trans (Le.sub0))))
  replace h := cond_f hb h
  refine SRun.ck tbokF1 5 ⟨179, [(3, vi x2.1), (4, .own 32), (5, vi x2.2.2.1), (6, vi x2.2.2.2), (7, vb x3.1), (8, vi x3.2), (11, vi x5.1), (12, .own 55), (14, vb x6.1), (15, vi x6.2), (18, .own 77), (19, vi x8.2), (20, .own 84), (110, vb (x8.2 != x9.2))], [(32, .arr 42 4 x2.2.1.length (x2.2.1.map eTie)), (55, .arr 42 4 x5.2.1.length (x5.2.1.map eTie)), (77, .arr 42 4 x8.1.length (x8.1.map eTie)), (84, .arr 42 4 x9.1.length (x9.1.map eTie))]⟩ ?_
  refine SRun.cut [(110, fun b => b)] (b := (x8.2 != x9.2)) (by kernel_rfl) (fun hb => ?_) (fun hb => ?_)
  replace h := cond_t hb h
  refine SRun.ck tbokF1 10 ⟨179, [(3, vi x2.1), (4, .own 32), (5, vi x2.2.2.1), (6, vi x2.2.2.2), (7, vb x3.1), (8, vi x3.2), (11, vi x5.1), (12, .own 55), (14, vb x6.1), (15, vi x6.2), (18, .own 77), (120, vb true)], [(32, .arr 42 4 x2.2.1.length (x2.2.1.map eTie)), (55, .arr 42 4 x5.2.1.length (x5.2.1.map eTie)), (77, .arr 42 4 x8.1.length (x8.1.map eTie))]⟩ ?_
  refine SRun.nil ?_
  replace h := Option.some.inj h
  subst h
  exact (Le.sub' ([(3, vi x2.1), (4, .own 32), (5, vi x2.2.2.1), (6, vi x2.2.2.2), (7, vb x3.1), (8, vi x3.2), (11, vi x5.1), (12, .own 55), (14, vb x6.1), (15, vi x6.2), (18, .own 77), (120, vb true)] : List (Nat × SV)) ([(32, .arr 42 4 x2.2.1.length (x2.2.1.map eTie)), (55, .arr 42 4 x5.2.1.length (x5.2.1.map eTie)), (77, .arr 42 4 x8.1.length (x8.1.map eTie))] : List (Nat × SO)) (by kernel_rfl) (by kernel_rfl)).trans ((Le.ren' (d := 32) (e := 4) (by kernel_rfl) (by kernel_rfl) (by kernel_rfl)).trans ((Le.ren' (d := 55) (e := 12) (by kernel_rfl) (by kernel_rfl) (by kernel_rfl)).trans ((Le.ren' (d := 77) (e := 18) (by kernel_rfl) (by kernel_rfl) (by kernel_rfl)).trans (Le.sub0))))
  replace h := cond_f hb h
  refine SRun.ck tbokF1 2 ⟨179, [(3, vi x2.1), (4, .own 32), (5, vi x2.2.2.1), (6, vi x2.2.2.2), (7, vb x3.1), (8, vi x3.2), (11, vi x5.1), (12, .own 55), (14, vb x6.1), (15, vi x6.2), (18, .own 77), (19, vi x8.2), (110, vb false), (111, .own 77), (112, .own 84)], [(32, .arr 42 4 x2.2.1.length (x2.2.1.map eTie)), (55, .arr 42 4 x5.2.1.length (x5.2.1.map eTie)), (77, .arr 42 4 x8.1.length (x8.1.map eTie)), (84, .arr 42 4 x9.1.length (x9.1.map eTie))]⟩ ?_
  obtain ⟨x10, hx10, h⟩ := bind_some h
  refine SRun.ls (x_lstep_call (f := 48) (caps := []) (xs := [.own 77, .own 84]) (ys := [vl eTie x8.1, vl eTie x9.1]) (res := ⟨[.v (vb x10)], [], false⟩) (x := vb x10) (y := none) rfl ents48 (laws_likeTies_run x8.1 x9.1 _ hx10) rfl (by intro hc; cases hc)) ?_
  refine SRun.ck tbokF1 3 ⟨179, [(3, vi x2.1), (4, .own 32), (5, vi x2.2.2.1), (6, vi x2.2.2.2), (7, vb x3.1), (8, vi x3.2), (11, vi x5.1), (12, .own 55), (14, vb x6.1), (15, vi x6.2), (18, .own 77), (19, vi x8.2), (116, vb (!x10))], [(32, .arr 42 4 x2.2.1.length (x2.2.1.map eTie)), (55, .arr 42 4 x5.2.1.length (x5.2.1.map eTie)), (77, .arr 42 4 x8.1.length (x8.1.map eTie))]⟩ ?_
  refine SRun.cut [(116, fun b => b)] (b := (!x10)) (by kernel_rfl) (fun hb => ?_) (fun hb => ?_)
  replace h := cond_t hb h
  refine SRun.ck tbokF1 4 ⟨179, [(3, vi x2.1), (4, .own 32), (5, vi x2.2.2.1), (6, vi x2.2.2.2), (7, vb x3.1), (8, vi x3.2), (11, vi x5.1), (12, .own 55), (14, vb x6.1), (15, vi x6.2), (18, .own 77), (120, vb true)], [(32, .arr 42 4 x2.2.1.length (x2.2.1.map eTie)), (55, .arr 42 4 x5.2.1.length (x5.2.1.map eTie)), (77, .arr 42 4 x8.1.length (x8.1.map eTie))]⟩ ?_
  refine SRun.nil ?_
  replace h := Option.some.inj h
  subst h
  exact (Le.sub' ([(3, vi x2.1), (4, .own 32), (5, vi x2.2.2.1), (6, vi x2.2.2.2), (7, vb x3.1), (8, vi x3.2), (11, vi x5.1), (12, .own 55), (14, vb x6.1), (15, vi x6.2), (18, .own 77), (120, vb true)] : List (Nat × SV)) ([(32, .arr 42 4 x2.2.1.length (x2.2.1.map eTie)), (55, .arr 42 4 x5.2.1.length (x5.2.1.map eTie)), (77, .arr 42 4 x8.1.length (x8.1.map eTie))] : List (Nat × SO)) (by kernel_rfl) (by kernel_rfl)).trans ((Le.ren' (d := 32) (e := 4) (by kernel_rfl) (by kernel_rfl) (by kernel_rfl)).trans ((Le.ren' (d := 55) (e := 12) (by kernel_rfl) (by kernel_rfl) (by kernel_rfl)).trans ((Le.ren' (d := 77) (e := 18) (by kernel_rfl) (by kernel_rfl) (by kernel_rfl)).trans (Le.sub0))))
  replace h := cond_f hb h
  refine SRun.ck tbokF1 4 ⟨179, [(3, vi x2.1), (4, .own 32), (5, vi x2.2.2.1), (6, vi x2.2.2.2), (7, vb x3.1), (8, vi x3.2), (11, vi x5.1), (12, .own 55), (14, vb x6.1), (15, vi x6.2), (18, .own 77), (120, vb (x6.2 != x8.2))], [(32, .arr 42 4 x2.2.1.length (x2.2.1.map eTie)), (55, .arr 42 4 x5.2.1.length (x5.2.1.map eTie)), (77, .arr 42 4 x8.1.length (x8.1.map eTie))]⟩ ?_
  refine SRun.nil ?_
  replace h := Option.some.inj h
  subst h
  exact (Le.sub' ([(3, vi x2.1), (4, .own 32), (5, vi x2.2.2.1), (6, vi x2.2.2.2), (7, vb x3.1), (8, vi x3.2), (11, vi x5.1), (12, .own 55), (14, vb x6.1), (15, vi x6.2), (18, .own 77), (120, vb (x6.2 != x8.2))] : List (Nat × SV)) ([(32, .arr 42 4 x2.2.1.length (x2.2.1.map eTie)), (55, .arr 42 4 x5.2.1.length (x5.2.1.map eTie)), (77, .arr 42 4 x8.1.length (x8.1.map eTie))] : List (Nat × SO)) (by kernel_rfl) (by kernel_rfl)).trans ((Le.ren' (d := 32) (e := 4) (by kernel_rfl) (by kernel_rfl) (by kernel_rfl)).trans ((Le.ren' (d := 55) (e := 12) (by kernel_rfl) (by kernel_rfl) (by kernel_rfl)).trans ((Le.ren' (d := 77) (e := 18) (by kernel_rfl) (by kernel_rfl) (by kernel_rfl)).trans (Le.sub0))))
  refine swp_cond (b := j11) (by kernel_rfl) (fun hb => ?_) (fun hb => ?_)
  replace h := cond_t hb h
  refine swp_seq ?_
  refine swp_reg ?_
  refine SRun.ck tbokF1 1 ⟨179, [(2, vb false)], []⟩ ?_
  refine SRun.nil ?_
  refine nx_n ?_
  refine swp_ret ?_
  replace h := Option.some.inj h
  subst h
  exact nx_r (q_fr (fin1 (by kernel_rfl) (finV rfl SV.flat_of (holds_t (by kernel_rfl)))))
  replace h := cond_f hb h
  refine swp_skip ?_
  refine nx_n ?_
  refine swp_seq ?_
  refine swp_seq ?_
  refine swp_reg ?_
  refine SRun.ck tbokF1 2 ⟨179, [(3, vi x2.1), (4, .own 4), (5, vi x2.2.2.1), (6, vi x2.2.2.2), (7, vb x3.1), (8, vi x3.2), (11, vi x5.1), (12, .own 12), (14, vb x6.1), (18, .own 18), (122, vb (x6.2 == 0))], [(4, .arr 42 4 x2.2.1.length (x2.2.1.map eTie)), (12, .arr 42 4 x5.2.1.length (x5.2.1.map eTie)), (18, .arr 42 4 x8.1.length (x8.1.map eTie))]⟩ ?_
  refine SRun.nil ?_
  refine nx_n ?_
  refine swp_seqE (r := r) h (fun j13 => ⟨179, [(3, vi x2.1), (4, .own 4), (5, vi x2.2.2.1), (6, vi x2.2.2.2), (7, vb x3.1), (8, vi x3.2)], [(4, .arr 42 4 x2.2.1.length (x2.2.1.map eTie))]⟩) (fun v14 h => ?_) (fun j13 h => ?_)
  refine swp_cond (b := (x6.2 == 0)) (by kernel_rfl) (fun hb => ?_) (fun hb => ?_)
  replace h := cond_t hb h
  refine swp_seq ?_
  refine swp_reg ?_
  refine SRun.ck tbokF1 2 ⟨179, [(3, vi x2.1), (4, .own 4), (5, vi x2.2.2.1), (6, vi x2.2.2.2), (7, vb x3.1), (8, vi x3.2), (11, vi x5.1), (14, vb x6.1), (18, .own 18), (124, vi x5.1), (125, .own 12)], [(4, .arr 42 4 x2.2.1.length (x2.2.1.map eTie)), (12, .arr 42 4 x5.2.1.length (x5.2.1.map eTie)), (18, .arr 42 4 x8.1.length (x8.1.map eTie))]⟩ ?_
  refine SRun.le (Le.frz' (d := 12) (e := 42) (m := 4) (n := x5.2.1.length) (es := x5.2.1.map eTie) (by kernel_rfl) (by kernel_rfl)) ?_
  obtain ⟨x15, hx15, h⟩ := bind_some h
  refine SRun.ls (x_lstep_call (f := 34) (caps := []) (xs := [vi x5.1, vl eTie x5.2.1]) (ys := [vi x5.1, vl eTie x5.2.1]) (res := ⟨[.own 50 1 x15.1.length (x15.1.map (eL (eI .i64))), .v (vi x15.2)], [], true⟩) (x := .tup [.own 126, vi x15.2]) (y := some (.arr 50 1 x15.1.length (x15.1.map (eL (eI .i64))))) rfl ents34 (impl_GroupsOf_run x5.1 x5.2.1 _ hx15) rfl (fun _ => rfl)) ?_
  refine SRun.ck tbokF1 5 ⟨179, [(3, vi x2.1), (4, .own 4), (5, vi x2.2.2.1), (6, vi x2.2.2.2), (7, vb x3.1), (8, vi x3.2), (11, vi x5.1), (14, vb x6.1), (18, .own 18), (22, .own 126), (23, vi x15.2)], [(4, .arr 42 4 x2.2.1.length (x2.2.1.map eTie)), (18, .arr 42 4 x8.1.length (x8.1.map eTie)), (126, .arr 50 1 x15.1.length (x15.1.map (eL (eI .i64))))]⟩ ?_
  refine SRun.nil ?_
  refine nx_n ?_
  refine swp_seq ?_
  refine swp_reg ?_
  refine SRun.ck tbokF1 2 ⟨179, [(3, vi x2.1), (4, .own 4), (5, vi x2.2.2.1), (6, vi x2.2.2.2), (7, vb x3.1), (8, vi x3.2), (14, vb x6.1), (22, .own 126), (23, vi x15.2), (130, vi x5.1), (131, .own 18)], [(4, .arr 42 4 x2.2.1.length (x2.2.1.map eTie)), (18, .arr 42 4 x8.1.length (x8.1.map eTie)), (126, .arr 50 1 x15.1.length (x15.1.map (eL (eI .i64))))]⟩ ?_
  refine SRun.le (Le.frz' (d := 18) (e := 42) (m := 4) (n := x8.1.length) (es := x8.1.map eTie) (by kernel_rfl) (by kernel_rfl)) ?_
  obtain ⟨x16, hx16, h⟩ := bind_some h
  refine SRun.ls (x_lstep_call (f := 34) (caps := []) (xs := [vi x5.1, vl eTie x8.1]) (ys := [vi x5.1, vl eTie x8.1]) (res := ⟨[.own 50 1 x16.1.length (x16.1.map (eL (eI .i64))), .v (vi x16.2)], [], true⟩) (x := .tup [.own 132, vi x16.2]) (y := some (.arr 50 1 x16.1.length (x16.1.map (eL (eI .i64))))) rfl ents34 (impl_GroupsOf_run x5.1 x8.1 _ hx16) rfl (fun _ => rfl)) ?_
  refine SRun.ck tbokF1 5 ⟨179, [(3, vi x2.1), (4, .own 4), (5, vi x2.2.2.1), (6, vi x2.2.2.2), (7, vb x3.1), (8, vi x3.2), (14, vb x6.1), (22, .own 126), (23, vi x15.2), (24, .own 132), (25, vi x16.2)], [(4, .arr 42 4 x2.2.1.length (x2.2.1.map eTie)), (126, .arr 50 1 x15.1.length (x15.1.map (eL (eI .i64)))), (132, .arr 50 1 x16.1.length (x16.1.map (eL (eI .i64))))]⟩ ?_
  refine SRun.nil ?_
  refine nx_n ?_
  refine swp_seq ?_
  refine swp_regP ⟨179, [(3, vi x2.1), (4, .own 4), (5, vi x2.2.2.1), (6, vi x2.2.2.2), (7, vb x3.1), (8, vi x3.2), (149, vb ((x15.2 != 0) || ((x16.2 != 0) || (!(x6.1 == (decide ((x16.1.length : Int) > (x15.1.length : Int))))))))], [(4, .arr 42 4 x2.2.1.length (x2.2.1.map eTie))]⟩ ?_ ?_
  refine SRun.ck tbokF1 3 ⟨179, [(3, vi x2.1), (4, .own 4), (5, vi x2.2.2.1), (6, vi x2.2.2.2), (7, vb x3.1), (8, vi x3.2), (14, vb x6.1), (22, .own 126), (24, .own 132), (25, vi x16.2), (137, vb (x15.2 != 0))], [(4, .arr 42 4 x2.2.1.length (x2.2.1.map eTie)), (126, .arr 50 1 x15.1.length (x15.1.map (eL (eI .i64)))), (132, .arr 50 1 x16.1.length (x16.1.map (eL (eI .i64))))]⟩ ?_
  generalize (x15.2 != 0) = bb
  cases bb
  refine SRun.ck tbokF1 4 ⟨179, [(3, vi x2.1), (4, .own 4), (5, vi x2.2.2.1), (6, vi x2.2.2.2), (7, vb x3.1), (8, vi x3.2), (14, vb x6.1), (22, .own 126), (24, .own 132), (141, vb (x16.2 != 0))], [(4, .arr 42 4 x2.2.1.length (x2.2.1.map eTie)), (126, .arr 50 1 x15.1.length (x15.1.map (eL (eI .i64)))), (132, .arr 50 1 x16.1.length (x16.1.map (eL (eI .i64))))]⟩ ?_
  generalize (x16.2 != 0) = bb
  cases bb
  refine SRun.ck tbokF1 6 ⟨179, [(3, vi x2.1), (4, .own 4), (5, vi x2.2.2.1), (6, vi x2.2.2.2), (7, vb x3.1), (8, vi x3.2), (141, vb false), (142, vb x6.1), (147, vb (decide ((x16.1.length : Int) > (x15.1.length : Int))))], [(4, .arr 42 4 x2.2.1.length (x2.2.1.map eTie))]⟩ ?_
  refine SRun.ls (x_lstep_eqb tbokF1 (ti := ti4) (i := x6.1) (j := (decide ((x16.1.length : Int) > (x15.1.length : Int)))) true rfl) ?_
  refine SRun.ck tbokF1 1 ⟨179, [(3, vi x2.1), (4, .own 4), (5, vi x2.2.2.1), (6, vi x2.2.2.2), (7, vb x3.1), (8, vi x3.2), (149, vb (!(x6.1 == (decide ((x16.1.length : Int) > (x15.1.length : Int))))))], [(4, .arr 42 4 x2.2.1.length (x2.2.1.map eTie))]⟩ ?_
  exact SRun.nil (Le.sub0)
  refine SRun.ck tbokF1 8 ⟨179, [(3, vi x2.1), (4, .own 4), (5, vi x2.2.2.1), (6, vi x2.2.2.2), (7, vb x3.1), (8, vi x3.2), (149, vb true)], [(4, .arr 42 4 x2.2.1.length (x2.2.1.map eTie))]⟩ ?_
  exact SRun.nil (Le.sub0)
  refine SRun.ck tbokF1 12 ⟨179, [(3, vi x2.1), (4, .own 4), (5, vi x2.2.2.1), (6, vi x2.2.2.2), (7, vb x3.1), (8, vi x3.2), (149, vb true)], [(4, .arr 42 4 x2.2.1.length (x2.2.1.map eTie))]⟩ ?_
  exact SRun.nil (Le.sub0)
  refine swp_cond (b := ((x15.2 != 0) || ((x16.2 != 0) || (!(x6.1 == (decide ((x16.1.length : Int) > (x15.1.length : Int)))))))) (by kernel_rfl) (fun hb => ?_) (fun hb => ?_)
  replace h := cond_t hb h
  refine swp_seq ?_
  refine swp_reg ?_
  refine SRun.ck tbokF1 1 ⟨179, [(2, vb false)], []⟩ ?_
  refine SRun.nil ?_
  refine nx_n ?_
  refine swp_ret ?_
  replace h := Option.some.inj h
  subst h
  exact q_rr (q_fr (fin1 (by kernel_rfl) (finV rfl SV.flat_of (holds_t (by kernel_rfl)))))
  replace h := cond_f hb h
  refine swp_skip ?_
  replace h := Option.some.inj h
  subst h
  exact q_l (Le.sub0)
  replace h := cond_f hb h
  refine swp_skip ?_
  replace h := Option.some.inj h
  subst h
  exact q_l (Le.sub0)
  refine swp_seq ?_
  refine swp_seq ?_
  refine swp_regP ⟨179, [(3, vi x2.1), (4, .own 4), (5, vi x2.2.2.1), (6, vi x2.2.2.2), (7, vb x3.1), (161, vb ((x3.2 != 0) || ((x2.2.2.1 == x2.2.2.2) || ((x2.2.1.length : Int) == 20))))], [(4, .arr 42 4 x2.2.1.length (x2.2.1.map eTie))]⟩ ?_ ?_
  refine SRun.ck tbokF1 3 ⟨179, [(3, vi x2.1), (4, .own 4), (5, vi x2.2.2.1), (6, vi x2.2.2.2), (7, vb x3.1), (152, vb (x3.2 != 0))], [(4, .arr 42 4 x2.2.1.length (x2.2.1.map eTie))]⟩ ?_
  generalize (x3.2 != 0) = bb
  cases bb
  refine SRun.ck tbokF1 5 ⟨179, [(3, vi x2.1), (4, .own 4), (5, vi x2.2.2.1), (6, vi x2.2.2.2), (7, vb x3.1), (157, vb (x2.2.2.1 == x2.2.2.2))], [(4, .arr 42 4 x2.2.1.length (x2.2.1.map eTie))]⟩ ?_
  generalize (x2.2.2.1 == x2.2.2.2) = bb
  cases bb
  refine SRun.ck tbokF1 4 ⟨179, [(3, vi x2.1), (4, .own 4), (5, vi x2.2.2.1), (6, vi x2.2.2.2), (7, vb x3.1), (161, vb ((x2.2.1.length : Int) == 20))], [(4, .arr 42 4 x2.2.1.length (x2.2.1.map eTie))]⟩ ?_
  exact SRun.nil (Le.sub0)
  refine SRun.ck tbokF1 4 ⟨179, [(3, vi x2.1), (4, .own 4), (5, vi x2.2.2.1), (6, vi x2.2.2.2), (7, vb x3.1), (161, vb true)], [(4, .arr 42 4 x2.2.1.length (x2.2.1.map eTie))]⟩ ?_
  exact SRun.nil (Le.sub0)
  refine SRun.ck tbokF1 9 ⟨179, [(3, vi x2.1), (4, .own 4), (5, vi x2.2.2.1), (6, vi x2.2.2.2), (7, vb x3.1), (161, vb true)], [(4, .arr 42 4 x2.2.1.length (x2.2.1.map eTie))]⟩ ?_
  exact SRun.nil (Le.sub0)
  refine swp_cond (b := ((x3.2 != 0) || ((x2.2.2.1 == x2.2.2.2) || ((x2.2.1.length : Int) == 20)))) (by kernel_rfl) (fun hb => ?_) (fun hb => ?_)
  replace h := cond_t hb h
  refine swp_seq ?_
  refine swp_reg ?_
  refine SRun.ck tbokF1 1 ⟨179, [(2, vb true)], []⟩ ?_
  refine SRun.nil ?_
  refine nx_n ?_
  refine swp_ret ?_
  replace h := Option.some.inj h
  subst h
  exact nx_r (q_fr (fin1 (by kernel_rfl) (finV rfl SV.flat_of (holds_t (by kernel_rfl)))))
  replace h := cond_f hb h
  refine swp_skip ?_
  refine nx_n ?_
  refine swp_seq ?_
  refine swp_reg ?_
  refine SRun.ck tbokF1 8 ⟨179, [(7, vb x3.1), (163, vi x2.1), (164, .own 4), (167, vi (minI x2.2.2.1 x2.2.2.2)), (170, vi (maxI x2.2.2.1 x2.2.2.2))], [(4, .arr 42 4 x2.2.1.length (x2.2.1.map eTie))]⟩ ?_
  refine SRun.ls (x_lstep_build (v := .agg [vi (minI x2.2.2.1 x2.2.2.2), vi (maxI x2.2.2.1 x2.2.2.2), vb true, vs (ByteArray.mk #[120])]) tbokF1 rfl) ?_
  obtain ⟨x17, hx17, h⟩ := bind_some h
  refine SRun.ls (x_lstep_call (f := 32) (caps := []) (xs := [vi x2.1, .own 4, .agg [vi (minI x2.2.2.1 x2.2.2.2), vi (maxI x2.2.2.1 x2.2.2.2), vb true, vs (ByteArray.mk #[120])]]) (ys := [vi x2.1, vl eTie x2.2.1, .agg [vi (minI x2.2.2.1 x2.2.2.2), vi (maxI x2.2.2.1 x2.2.2.2), vb true, vs (ByteArray.mk #[120])]]) (res := ⟨[.own 42 4 x17.1.length (x17.1.map eTie), .v (vi x17.2)], [], false⟩) (x := .tup [.own 172, vi x17.2]) (y := some (.arr 42 4 x17.1.length (x17.1.map eTie))) rfl ents32 (impl_AddTie_run x2.1 x2.2.1 (Tie.mk (minI x2.2.2.1 x2.2.2.2) (maxI x2.2.2.1 x2.2.2.2) true (ByteArray.mk #[120])) _ hx17) rfl (by intro hc; cases hc)) ?_
  refine SRun.ck tbokF1 5 ⟨179, [(7, vb x3.1), (27, vi x17.2)], []⟩ ?_
  refine SRun.nil ?_
  refine nx_n ?_
  refine swp_seq ?_
  refine swp_reg ?_
  refine SRun.ck tbokF1 3 ⟨179, [(175, vb x3.1), (177, vb (x17.2 == 0))], []⟩ ?_
  refine SRun.ls (x_lstep_eqb tbokF1 (ti := ti4) (i := x3.1) (j := (x17.2 == 0)) false rfl) ?_
  refine SRun.ck tbokF1 1 ⟨179, [(2, vb (x3.1 == (x17.2 == 0)))], []⟩ ?_
  refine SRun.nil ?_
  refine nx_n ?_
  refine swp_ret ?_
  replace h := Option.some.inj h
  subst h
  exact q_fr (fin1 (by kernel_rfl) (finV rfl SV.flat_of (holds_t (by kernel_rfl))))
theorem ents12 : Ents Tryd.prog 12 := ents_of Tryd.func12 (by kernel_rfl) rfl
noncomputable def spec_DrawAddTie (aCode : (List Int)) : Option (Int × (List Tie) × Tie) :=
  ((spec_l01From aCode).bind fun x1 => ((spec_l31Draw x1).bind fun x2 => ((spec_l31Tie x2.2.2 x2.1).bind fun x3 => some (x2.1, x2.2.1, x3.1))))
set_option maxRecDepth 100000 in
set_option maxHeartbeats 4000000 in
theorem spec_DrawAddTie_run (aCode : (List Int)) (r : Int × (List Tie) × Tie) (h : spec_DrawAddTie aCode = some r) : SCall Tryd.prog 50 [.v (vl (eI .u8) aCode)] ⟨[.v (vi r.1), .own 42 4 r.2.1.length (r.2.1.map eTie), .v (.agg [vi r.2.2.A, vi r.2.2.B, vb r.2.2.Same, vs r.2.2.Reason])], [], false⟩ := by
  refine scall_in Tryd.func50 rfl [(.tmp 2), (.tmp 3), (.cell 4 42)] rfl (fun r => ⟨[.v (vi r.1), .own 42 4 r.2.1.length (r.2.1.map eTie), .v (.agg [vi r.2.2.A, vi r.2.2.B, vb r.2.2.Same, vs r.2.2.Reason])], [], false⟩) (r := r) ?_
  unfold spec_DrawAddTie at h
  refine swp_seq ?_
  refine swp_reg ?_
  refine SRun.ck tbokF1 3 ⟨20, [(0, vl (eI .u8) aCode), (4, .ref 4 0)], [(4, .box [vi 0, vi 0, vb false, vs (ByteArray.mk #[])])]⟩ ?_
  refine SRun.nil ?_
  refine nx_n ?_
  refine swp_seq ?_
  refine swp_reg ?_
  refine SRun.ck tbokF1 1 ⟨20, [(4, .ref 4 0), (8, vl (eI .u8) aCode)], [(4, .box [vi 0, vi 0, vb false, vs (ByteArray.mk #[])])]⟩ ?_
  obtain ⟨x1, hx1, h⟩ := bind_some h
  refine SRun.ls (x_lstep_call (f := 78) (caps := []) (xs := [vl (eI .u8) aCode]) (ys := [vl (eI .u8) aCode]) (res := ⟨[.box [vl (eI .u8) x1.code, vi x1.at', vi x1.seed]], [], true⟩) (x := .ref 9 0) (y := some (.box [vl (eI .u8) x1.code, vi x1.at', vi x1.seed])) rfl ents78 (spec_l01From_run aCode _ hx1) rfl (fun _ => rfl)) ?_
  refine SRun.ck tbokF1 1 ⟨20, [(4, .ref 4 0), (5, .ref 9 0)], [(4, .box [vi 0, vi 0, vb false, vs (ByteArray.mk #[])]), (9, .box [vl (eI .u8) x1.code, vi x1.at', vi x1.seed])]⟩ ?_
  refine SRun.nil ?_
  refine nx_n ?_
  refine swp_seq ?_
  refine swp_reg ?_
  refine SRun.ck tbokF1 1 ⟨20, [(4, .ref 4 0), (5, .ref 9 0), (11, .ref 9 0)], [(4, .box [vi 0, vi 0, vb false, vs (ByteArray.mk #[])]), (9, .box [vl (eI .u8) x1.code, vi x1.at', vi x1.seed])]⟩ ?_
  obtain ⟨x2, hx2, h⟩ := bind_some h
  refine SRun.estep (x_estep_call (f := 79) (caps := []) (xs := [.ref 9 0]) (pre := []) (post := []) (qs := []) (z := .ref 9 0) (d := 9) (pl := 0) (y := .box [vl (eI .u8) x1.code, vi x1.at', vi x1.seed]) (y' := .box [vl (eI .u8) x2.2.2.code, vi x2.2.2.at', vi x2.2.2.seed]) (res := ⟨[.v (vi x2.1), .own 42 4 x2.2.1.length (x2.2.1.map eTie)], [(0, .box [vl (eI .u8) x2.2.2.code, vi x2.2.2.at', vi x2.2.2.seed])], false⟩) (x := .tup [vi x2.1, .own 12]) (yo := some (.arr 42 4 x2.2.1.length (x2.2.1.map eTie))) rfl rfl rfl rfl rfl ents79 (spec_l31Draw_run x1 _ hx2) rfl rfl false (fun _ => rfl) (by intro hc; cases hc)) ?_
  refine SRun.ck tbokF1 5 ⟨20, [(4, .ref 4 0), (5, .ref 9 0), (6, vi x2.1), (7, .own 12)], [(4, .box [vi 0, vi 0, vb false, vs (ByteArray.mk #[])]), (9, .box [vl (eI .u8) x2.2.2.code, vi x2.2.2.at', vi x2.2.2.seed]), (12, .arr 42 4 x2.2.1.length (x2.2.1.map eTie))]⟩ ?_
  refine SRun.nil ?_
  refine nx_n ?_
  refine swp_seq ?_
  refine swp_reg ?_
  refine SRun.ck tbokF1 4 ⟨20, [(4, .ref 4 0), (15, vi x2.1), (16, .own 12), (17, .ref 9 0), (18, vi x2.1)], [(4, .box [vi 0, vi 0, vb false, vs (ByteArray.mk #[])]), (9, .box [vl (eI .u8) x2.2.2.code, vi x2.2.2.at', vi x2.2.2.seed]), (12, .arr 42 4 x2.2.1.length (x2.2.1.map eTie))]⟩ ?_
  obtain ⟨x3, hx3, h⟩ := bind_some h
  refine SRun.estep (x_estep_call (f := 81) (caps := []) (xs := [.ref 9 0, vi x2.1]) (pre := []) (post := [vi x2.1]) (qs := [vi x2.1]) (z := .ref 9 0) (d := 9) (pl := 0) (y := .box [vl (eI .u8) x2.2.2.code, vi x2.2.2.at', vi x2.2.2.seed]) (y' := .box [vl (eI .u8) x3.2.code, vi x3.2.at', vi x3.2.seed]) (res := ⟨[.v (.agg [vi x3.1.A, vi x3.1.B, vb x3.1.Same, vs x3.1.Reason])], [(0, .box [vl (eI .u8) x3.2.code, vi x3.2.at', vi x3.2.seed])], false⟩) (x := .agg [vi x3.1.A, vi x3.1.B, vb x3.1.Same, vs x3.1.Reason]) (yo := none) rfl rfl rfl rfl rfl ents81 (spec_l31Tie_run x2.2.2 x2.1 _ hx3) rfl rfl false (fun _ => rfl) (by intro hc; cases hc)) ?_
  refine SRun.ck tbokF1 2 ⟨20, [(2, vi x2.1), (3, .own 12), (4, .ref 4 0), (19, .agg [vi x3.1.A, vi x3.1.B, vb x3.1.Same, vs x3.1.Reason])], [(4, .box [vi 0, vi 0, vb false, vs (ByteArray.mk #[])]), (12, .arr 42 4 x2.2.1.length (x2.2.1.map eTie))]⟩ ?_
  refine SRun.estep (x_estep_store (d := 4) (k := 0) (ti := ti42) (cs := [vi 0, vi 0, vb false, vs (ByteArray.mk #[])]) (vs := [vi x3.1.A, vi x3.1.B, vb x3.1.Same, vs x3.1.Reason]) (v := .agg [vi x3.1.A, vi x3.1.B, vb x3.1.Same, vs x3.1.Reason]) tbokF1 rfl rfl) ?_
  refine SRun.nil ?_
  refine nx_n ?_
  refine swp_ret ?_
  replace h := Option.some.inj h
  subst h
  exact q_fr (fin3 (by kernel_rfl) (finV rfl SV.flat_of (holds_t (by kernel_rfl))) (finO (d := 12) (holds_t (by kernel_rfl)) (by kernel_rfl) (flat_map eTie_flat _) (by kernel_rfl)) (finV rfl SV.flat_of (holds_c tbokF1 (d := 4) (cs := [vi x3.1.A, vi x3.1.B, vb x3.1.Same, vs x3.1.Reason]) (ti := ti42) (by kernel_rfl) (by kernel_rfl) (by kernel_rfl) (by kernel_rfl))))
theorem ents50 : Ents Tryd.prog 50 := ents_of Tryd.func50 (by kernel_rfl) rfl
noncomputable def spec_DrawRefutation (aCode : (List Int)) : Option (Int × (List Tie)) :=
  ((spec_l01From aCode).bind fun x1 => ((spec_l31Draw x1).bind fun x2 => some (x2.1, x2.2.1)))
set_option maxRecDepth 100000 in
set_option maxHeartbeats 4000000 in
theorem spec_DrawRefutation_run (aCode : (List Int)) (r : Int × (List Tie)) (h : spec_DrawRefutation aCode = some r) : SCall Tryd.prog 51 [.v (vl (eI .u8) aCode)] ⟨[.v (vi r.1), .own 42 4 r.2.length (r.2.map eTie)], [], false⟩ := by
  refine scall_in Tryd.func51 rfl [(.tmp 2), (.tmp 3)] rfl (fun r => ⟨[.v (vi r.1), .own 42 4 r.2.length (r.2.map eTie)], [], false⟩) (r := r) ?_
  unfold spec_DrawRefutation at h
  refine swp_seq ?_
  refine swp_reg ?_
  refine SRun.ck tbokF1 2 ⟨9, [(0, vl (eI .u8) aCode)], []⟩ ?_
  refine SRun.nil ?_
  refine nx_n ?_
  refine swp_seq ?_
  refine swp_reg ?_
  refine SRun.ck tbokF1 1 ⟨9, [(4, vl (eI .u8) aCode)], []⟩ ?_
  obtain ⟨x1, hx1, h⟩ := bind_some h
  refine SRun.ls (x_lstep_call (f := 78) (caps := []) (xs := [vl (eI .u8) aCode]) (ys := [vl (eI .u8) aCode]) (res := ⟨[.box [vl (eI .u8) x1.code, vi x1.at', vi x1.seed]], [], true⟩) (x := .ref 5 0) (y := some (.box [vl (eI .u8) x1.code, vi x1.at', vi x1.seed])) rfl ents78 (spec_l01From_run aCode _ hx1) rfl (fun _ => rfl)) ?_
  obtain ⟨x2, hx2, h⟩ := bind_some h
  refine SRun.estep (x_estep_call (f := 79) (caps := []) (xs := [.ref 5 0]) (pre := []) (post := []) (qs := []) (z := .ref 5 0) (d := 5) (pl := 0) (y := .box [vl (eI .u8) x1.code, vi x1.at', vi x1.seed]) (y' := .box [vl (eI .u8) x2.2.2.code, vi x2.2.2.at', vi x2.2.2.seed]) (res := ⟨[.v (vi x2.1), .own 42 4 x2.2.1.length (x2.2.1.map eTie)], [(0, .box [vl (eI .u8) x2.2.2.code, vi x2.2.2.at', vi x2.2.2.seed])], false⟩) (x := .tup [vi x2.1, .own 6]) (yo := some (.arr 42 4 x2.2.1.length (x2.2.1.map eTie))) rfl rfl rfl rfl rfl ents79 (spec_l31Draw_run x1 _ hx2) rfl rfl false (fun _ => rfl) (by intro hc; cases hc)) ?_
  refine SRun.ck tbokF1 4 ⟨9, [(2, vi x2.1), (3, .own 6)], [(6, .arr 42 4 x2.2.1.length (x2.2.1.map eTie))]⟩ ?_
  refine SRun.nil ?_
  refine nx_n ?_
  refine swp_ret ?_
  replace h := Option.some.inj h
  subst h
  exact q_fr (fin2 (by kernel_rfl) (finV rfl SV.flat_of (holds_t (by kernel_rfl))) (finO (d := 6) (holds_t (by kernel_rfl)) (by kernel_rfl) (flat_map eTie_flat _) (by kernel_rfl)))
theorem ents51 : Ents Tryd.prog 51 := ents_of Tryd.func51 (by kernel_rfl) rfl
noncomputable def laws_likeInts (aA : (List Int)) (aB : (List Int)) : Option (Bool) :=
  (bif ((aA.length : Int) != (aB.length : Int)) then some false else (((forN (aA.length : Int) (fun (i3 : Int) (_ : Unit) => ((at' aA i3).bind fun x7 => ((at' aB i3).bind fun x8 => (bif (x7 != x8) then some (.inr (.inr false)) else some (.inl ()))))) (fun (_ : Unit) => .inl ()) 0 ())).bind (Sum.elim (fun (_ : Unit) => some true) some)))
set_option maxRecDepth 100000 in
set_option maxHeartbeats 4000000 in
theorem laws_likeInts_run (aA : (List Int)) (aB : (List Int)) (r : Bool) (h : laws_likeInts aA aB = some r) : SCall Tryd.prog 52 [.v (vl (eI .i64) aA), .v (vl (eI .i64) aB)] ⟨[.v (vb r)], [], false⟩ := by
  refine scall_in Tryd.func52 rfl [(.tmp 4)] rfl (fun r => ⟨[.v (vb r)], [], false⟩) (r := r) ?_
  unfold laws_likeInts at h
  refine swp_seq ?_
  refine swp_reg ?_
  refine SRun.ck tbokF1 1 ⟨26, [(0, vl (eI .i64) aA), (1, vl (eI .i64) aB)], []⟩ ?_
  refine SRun.nil ?_
  refine nx_n ?_
  refine swp_seq ?_
  refine swp_seq ?_
  refine swp_reg ?_
  refine SRun.ck tbokF1 5 ⟨26, [(0, vl (eI .i64) aA), (1, vl (eI .i64) aB), (10, vb ((aA.length : Int) != (aB.length : Int)))], []⟩ ?_
  refine SRun.nil ?_
  refine nx_n ?_
  refine swp_cond (b := ((aA.length : Int) != (aB.length : Int))) (by kernel_rfl) (fun hb => ?_) (fun hb => ?_)
  replace h := cond_t hb h
  refine swp_seq ?_
  refine swp_reg ?_
  refine SRun.ck tbokF1 1 ⟨26, [(4, vb false)], []⟩ ?_
  refine SRun.nil ?_
  refine nx_n ?_
  refine swp_ret ?_
  replace h := Option.some.inj h
  subst h
  exact nx_r (q_fr (fin1 (by kernel_rfl) (finV rfl SV.flat_of (holds_t (by kernel_rfl)))))
  replace h := cond_f hb h
  refine swp_skip ?_
  refine nx_n ?_
  refine swp_seq ?_
  refine swp_seq ?_
  refine swp_reg ?_
  refine SRun.ck tbokF1 1 ⟨26, [(0, vl (eI .i64) aA), (1, vl (eI .i64) aB), (5, vi 0)], []⟩ ?_
  refine SRun.nil ?_
  refine nx_n ?_
  refine swp_seqE (r := r) h (fun j1 => ⟨26, [], []⟩) (fun v2 h => ?_) (fun j1 h => ?_)
  refine swp_blk (a := v2) ?_
  refine swp_lpL (r := v2) (s := (0, ())) _ (fun s3 => ⟨26, [(0, vl (eI .i64) aA), (1, vl (eI .i64) aB), (5, vi s3.1)], []⟩) _ (Le.sub0) h (fun s3 v4 h => ?_)
  refine swp_seq ?_
  refine swp_seq ?_
  refine swp_reg ?_
  refine SRun.ck tbokF1 4 ⟨26, [(0, vl (eI .i64) aA), (1, vl (eI .i64) aB), (5, vi s3.1), (14, vb (decide (s3.1 < (aA.length : Int))))], []⟩ ?_
  refine SRun.nil ?_
  refine nx_n ?_
  refine swp_cond (b := (decide (s3.1 < (aA.length : Int)))) (by kernel_rfl) (fun hb => ?_) (fun hb => ?_)
  replace h := cond_t hb h
  refine swp_skip ?_
  refine nx_n ?_
  refine swp_seq ?_
  refine swp_seqL (r := v4) h (fun j5 => ⟨26, [(0, vl (eI .i64) aA), (1, vl (eI .i64) aB), (5, vi s3.1)], []⟩) (fun v6 h => ?_) (fun j5 h => ?_)
  refine swp_blk (a := v6) ?_
  refine swp_seq ?_
  refine swp_dr mixed ?_
  refine DGo.chunk' tbokF1 2 (σ' := ⟨26, [(18, vi s3.1), (17, vl (eI .i64) aA), (0, vl (eI .i64) aA), (1, vl (eI .i64) aB), (5, vi s3.1), (14, vb (decide (s3.1 < (aA.length : Int))))], []⟩) (by kernel_rfl) ?_
  obtain ⟨x7, hx7, h⟩ := bind_some h
  refine DGo.step (x_index (L := aA) (f := (eI .i64)) (ti := ti50) (tj := ti2) (e := 2) (k := .i64) tbokF1 rfl hx7) ?_
  refine DGo.chunk' tbokF1 3 (σ' := ⟨26, [(22, vi s3.1), (21, vl (eI .i64) aB), (20, vi x7), (19, .ptr (((eI .i64) x7).map .tr) 0), (18, vi s3.1), (17, vl (eI .i64) aA), (0, vl (eI .i64) aA), (1, vl (eI .i64) aB), (5, vi s3.1), (14, vb (decide (s3.1 < (aA.length : Int))))], []⟩) (by kernel_rfl) ?_
  obtain ⟨x8, hx8, h⟩ := bind_some h
  refine DGo.step (x_index (L := aB) (f := (eI .i64)) (ti := ti50) (tj := ti2) (e := 2) (k := .i64) tbokF1 rfl hx8) ?_
  refine DGo.chunk' tbokF1 2 (σ' := ⟨26, [(25, vb (x7 != x8)), (24, vi x8), (23, .ptr (((eI .i64) x8).map .tr) 0), (22, vi s3.1), (21, vl (eI .i64) aB), (20, vi x7), (19, .ptr (((eI .i64) x7).map .tr) 0), (18, vi s3.1), (17, vl (eI .i64) aA), (0, vl (eI .i64) aA), (1, vl (eI .i64) aB), (5, vi s3.1), (14, vb (decide (s3.1 < (aA.length : Int))))], []⟩) (by kernel_rfl) ?_
  refine DGo.nil (by kernel_rfl) ?_
  refine nx_n ?_
  refine swp_cond (b := (x7 != x8)) (by kernel_rfl) (fun hb => ?_) (fun hb => ?_)
  replace h := cond_t hb h
  refine swp_seq ?_
  refine swp_reg ?_
  refine SRun.ck tbokF1 1 ⟨26, [(4, vb false)], []⟩ ?_
  refine SRun.nil ?_
  refine nx_n ?_
  refine swp_ret ?_
  replace h := Option.some.inj h
  subst h
  exact q_br (q_rr (q_rr (q_br (q_rr (q_fr (fin1 (by kernel_rfl) (finV rfl SV.flat_of (holds_t (by kernel_rfl)))))))))
  replace h := cond_f hb h
  refine swp_skip ?_
  replace h := Option.some.inj h
  subst h
  exact q_bn (q_l (Le.sub0))
  refine swp_reg ?_
  refine SRun.ck tbokF1 3 ⟨26, [(0, vl (eI .i64) aA), (1, vl (eI .i64) aB), (5, vi (w64 (s3.1 + 1)))], []⟩ ?_
  refine SRun.nil ?_
  replace h := Option.some.inj h
  subst h
  exact q_l (Le.sub0)
  replace h := cond_f hb h
  refine swp_exit ?_
  replace h := Option.some.inj h
  subst h
  exact nx_e (q_re (q_bh (q_l (Le.sub0))))
  refine swp_seq ?_
  refine swp_reg ?_
  refine SRun.ck tbokF1 1 ⟨26, [(4, vb true)], []⟩ ?_
  refine SRun.nil ?_
  refine nx_n ?_
  refine swp_ret ?_
  replace h := Option.some.inj h
  subst h
  exact q_fr (fin1 (by kernel_rfl) (finV rfl SV.flat_of (holds_t (by kernel_rfl))))
theorem ents52 : Ents Tryd.prog 52 := ents_of Tryd.func52 (by kernel_rfl) rfl
noncomputable def laws_likeTables (aA : (List (List Int))) (aB : (List (List Int))) : Option (Bool) :=
  (bif ((aA.length : Int) != (aB.length : Int)) then some false else (((forN (aA.length : Int) (fun (i3 : Int) (_ : Unit) => ((at' aA i3).bind fun x7 => ((at' aB i3).bind fun x8 => ((laws_likeInts x7 x8).bind fun x9 => (bif (!x9) then some (.inr (.inr false)) else some (.inl ())))))) (fun (_ : Unit) => .inl ()) 0 ())).bind (Sum.elim (fun (_ : Unit) => some true) some)))
set_option maxRecDepth 100000 in
set_option maxHeartbeats 4000000 in
theorem laws_likeTables_run (aA : (List (List Int))) (aB : (List (List Int))) (r : Bool) (h : laws_likeTables aA aB = some r) : SCall Tryd.prog 53 [.v (vl (eL (eI .i64)) aA), .v (vl (eL (eI .i64)) aB)] ⟨[.v (vb r)], [], false⟩ := by
  refine scall_in Tryd.func53 rfl [(.tmp 4)] rfl (fun r => ⟨[.v (vb r)], [], false⟩) (r := r) ?_
  unfold laws_likeTables at h
  refine swp_seq ?_
  refine swp_reg ?_
  refine SRun.ck tbokF1 1 ⟨27, [(0, vl (eL (eI .i64)) aA), (1, vl (eL (eI .i64)) aB)], []⟩ ?_
  refine SRun.nil ?_
  refine nx_n ?_
  refine swp_seq ?_
  refine swp_seq ?_
  refine swp_reg ?_
  refine SRun.ck tbokF1 5 ⟨27, [(0, vl (eL (eI .i64)) aA), (1, vl (eL (eI .i64)) aB), (10, vb ((aA.length : Int) != (aB.length : Int)))], []⟩ ?_
  refine SRun.nil ?_
  refine nx_n ?_
  refine swp_cond (b := ((aA.length : Int) != (aB.length : Int))) (by kernel_rfl) (fun hb => ?_) (fun hb => ?_)
  replace h := cond_t hb h
  refine swp_seq ?_
  refine swp_reg ?_
  refine SRun.ck tbokF1 1 ⟨27, [(4, vb false)], []⟩ ?_
  refine SRun.nil ?_
  refine nx_n ?_
  refine swp_ret ?_
  replace h := Option.some.inj h
  subst h
  exact nx_r (q_fr (fin1 (by kernel_rfl) (finV rfl SV.flat_of (holds_t (by kernel_rfl)))))
  replace h := cond_f hb h
  refine swp_skip ?_
  refine nx_n ?_
  refine swp_seq ?_
  refine swp_seq ?_
  refine swp_reg ?_
  refine SRun.ck tbokF1 1 ⟨27, [(0, vl (eL (eI .i64)) aA), (1, vl (eL (eI .i64)) aB), (5, vi 0)], []⟩ ?_
  refine SRun.nil ?_
  refine nx_n ?_
  refine swp_seqE (r := r) h (fun j1 => ⟨27, [], []⟩) (fun v2 h => ?_) (fun j1 h => ?_)
  refine swp_blk (a := v2) ?_
  refine swp_lpL (r := v2) (s := (0, ())) _ (fun s3 => ⟨27, [(0, vl (eL (eI .i64)) aA), (1, vl (eL (eI .i64)) aB), (5, vi s3.1)], []⟩) _ (Le.sub0) h (fun s3 v4 h => ?_)
  refine swp_seq ?_
  refine swp_seq ?_
  refine swp_reg ?_
  refine SRun.ck tbokF1 4 ⟨27, [(0, vl (eL (eI .i64)) aA), (1, vl (eL (eI .i64)) aB), (5, vi s3.1), (14, vb (decide (s3.1 < (aA.length : Int))))], []⟩ ?_
  refine SRun.nil ?_
  refine nx_n ?_
  refine swp_cond (b := (decide (s3.1 < (aA.length : Int)))) (by kernel_rfl) (fun hb => ?_) (fun hb => ?_)
  replace h := cond_t hb h
  refine swp_skip ?_
  refine nx_n ?_
  refine swp_seq ?_
  refine swp_seqL (r := v4) h (fun j5 => ⟨27, [(0, vl (eL (eI .i64)) aA), (1, vl (eL (eI .i64)) aB), (5, vi s3.1)], []⟩) (fun v6 h => ?_) (fun j5 h => ?_)
  refine swp_blk (a := v6) ?_
  refine swp_seq ?_
  refine swp_dr mixed ?_
  refine DGo.chunk' tbokF1 2 (σ' := ⟨27, [(18, vi s3.1), (17, vl (eL (eI .i64)) aA), (0, vl (eL (eI .i64)) aA), (1, vl (eL (eI .i64)) aB), (5, vi s3.1), (14, vb (decide (s3.1 < (aA.length : Int))))], []⟩) (by kernel_rfl) ?_
  obtain ⟨x7, hx7, h⟩ := bind_some h
  refine DGo.step (x_index (L := aA) (f := (eL (eI .i64))) (ti := ti45) (tj := ti50) (e := 50) (k := .i64) tbokF1 rfl hx7) ?_
  refine DGo.chunk' tbokF1 3 (σ' := ⟨27, [(22, vi s3.1), (21, vl (eL (eI .i64)) aB), (20, vl (eI .i64) x7), (19, .ptr (((eL (eI .i64)) x7).map .tr) 0), (18, vi s3.1), (17, vl (eL (eI .i64)) aA), (0, vl (eL (eI .i64)) aA), (1, vl (eL (eI .i64)) aB), (5, vi s3.1), (14, vb (decide (s3.1 < (aA.length : Int))))], []⟩) (by kernel_rfl) ?_
  obtain ⟨x8, hx8, h⟩ := bind_some h
  refine DGo.step (x_index (L := aB) (f := (eL (eI .i64))) (ti := ti45) (tj := ti50) (e := 50) (k := .i64) tbokF1 rfl hx8) ?_
  refine DGo.chunk' tbokF1 1 (σ' := ⟨27, [(24, vl (eI .i64) x8), (23, .ptr (((eL (eI .i64)) x8).map .tr) 0), (22, vi s3.1), (21, vl (eL (eI .i64)) aB), (20, vl (eI .i64) x7), (19, .ptr (((eL (eI .i64)) x7).map .tr) 0), (18, vi s3.1), (17, vl (eL (eI .i64)) aA), (0, vl (eL (eI .i64)) aA), (1, vl (eL (eI .i64)) aB), (5, vi s3.1), (14, vb (decide (s3.1 < (aA.length : Int))))], []⟩) (by kernel_rfl) ?_
  obtain ⟨x9, hx9, h⟩ := bind_some h
  refine DGo.step (x_lstep_call (f := 52) (caps := []) (xs := [vl (eI .i64) x7, vl (eI .i64) x8]) (ys := [vl (eI .i64) x7, vl (eI .i64) x8]) (res := ⟨[.v (vb x9)], [], false⟩) (x := vb x9) (y := none) rfl ents52 (laws_likeInts_run x7 x8 _ hx9) rfl (by intro hc; cases hc)) ?_
  refine DGo.chunk' tbokF1 1 (σ' := ⟨27, [(26, vb (!x9)), (25, vb x9), (24, vl (eI .i64) x8), (23, .ptr (((eL (eI .i64)) x8).map .tr) 0), (22, vi s3.1), (21, vl (eL (eI .i64)) aB), (20, vl (eI .i64) x7), (19, .ptr (((eL (eI .i64)) x7).map .tr) 0), (18, vi s3.1), (17, vl (eL (eI .i64)) aA), (0, vl (eL (eI .i64)) aA), (1, vl (eL (eI .i64)) aB), (5, vi s3.1), (14, vb (decide (s3.1 < (aA.length : Int))))], []⟩) (by kernel_rfl) ?_
  refine DGo.nil (by kernel_rfl) ?_
  refine nx_n ?_
  refine swp_cond (b := (!x9)) (by kernel_rfl) (fun hb => ?_) (fun hb => ?_)
  replace h := cond_t hb h
  refine swp_seq ?_
  refine swp_reg ?_
  refine SRun.ck tbokF1 1 ⟨27, [(4, vb false)], []⟩ ?_
  refine SRun.nil ?_
  refine nx_n ?_
  refine swp_ret ?_
  replace h := Option.some.inj h
  subst h
  exact q_br (q_rr (q_rr (q_br (q_rr (q_fr (fin1 (by kernel_rfl) (finV rfl SV.flat_of (holds_t (by kernel_rfl)))))))))
  replace h := cond_f hb h
  refine swp_skip ?_
  replace h := Option.some.inj h
  subst h
  exact q_bn (q_l (Le.sub0))
  refine swp_reg ?_
  refine SRun.ck tbokF1 3 ⟨27, [(0, vl (eL (eI .i64)) aA), (1, vl (eL (eI .i64)) aB), (5, vi (w64 (s3.1 + 1)))], []⟩ ?_
  refine SRun.nil ?_
  replace h := Option.some.inj h
  subst h
  exact q_l (Le.sub0)
  replace h := cond_f hb h
  refine swp_exit ?_
  replace h := Option.some.inj h
  subst h
  exact nx_e (q_re (q_bh (q_l (Le.sub0))))
  refine swp_seq ?_
  refine swp_reg ?_
  refine SRun.ck tbokF1 1 ⟨27, [(4, vb true)], []⟩ ?_
  refine SRun.nil ?_
  refine nx_n ?_
  refine swp_ret ?_
  replace h := Option.some.inj h
  subst h
  exact q_fr (fin1 (by kernel_rfl) (finV rfl SV.flat_of (holds_t (by kernel_rfl))))
theorem ents53 : Ents Tryd.prog 53 := ents_of Tryd.func53 (by kernel_rfl) rfl
noncomputable def laws_FnLinks (aCode : (List Int)) : Option (Bool) :=
  ((laws_big aCode).bind fun x1 => (bif x1 then some true else ((spec_DrawProofOf aCode).bind fun x2 => ((impl_ProofOf x2.1 x2.2.1 x2.2.2.1 x2.2.2.2).bind fun x3 => ((spec_ProofOf x2.1 x2.2.1 x2.2.2.1 x2.2.2.2).bind fun x4 => ((spec_DrawAddTie aCode).bind fun x5 => ((impl_AddTie x5.1 x5.2.1 x5.2.2).bind fun x6 => ((spec_AddTie x5.1 x5.2.1 x5.2.2).bind fun x7 => ((spec_DrawRefutation aCode).bind fun x8 => ((impl_Refutation x8.1 x8.2).bind fun x9 => ((spec_Refutation x8.1 x8.2).bind fun x10 => ((impl_AreSound x8.1 x8.2).bind fun x11 => ((spec_AreSound x8.1 x8.2).bind fun x12 => ((impl_GroupsOf x8.1 x8.2).bind fun x13 => ((spec_GroupsOf x8.1 x8.2).bind fun x14 => (((bif (x3.2 != x4.2) then some true else ((laws_likeInts x3.1 x4.1).bind fun x15 => (bif (!x15) then some true else (bif (x6.2 != x7.2) then some true else ((laws_likeTies x6.1 x7.1).bind fun x16 => (bif (!x16) then some true else (bif (x9.2.2 != x10.2.2) then some true else (bif (x9.1 != x10.1) then some true else ((laws_likeInts x9.2.1 x10.2.1).bind fun x17 => (bif (!x17) then some true else (bif (x11.2 != x12.2) then some true else (bif (!(x11.1 == x12.1)) then some true else (bif (x13.2 != x14.2) then some true else ((laws_likeTables x13.1 x14.1).bind fun x18 => (bif (!x18) then some true else ((impl_AreTies x8.1 x8.2).bind fun x19 => some (!(x19 == (x12.2 == 0)))))))))))))))))))).bind fun (j20 : Bool) => (bif j20 then some false else (bif ((x11.2 == 0) && (!(x11.1 == (x9.2.2 == 4)))) then some false else (((bif (x6.2 == 0) then ((impl_AreSound x5.1 x6.1).bind fun x24 => (bif ((x24.2 != 0) || (!x24.1)) then some (.inr false) else some (.inl ()))) else some (.inl ()))).bind (Sum.elim (fun (_ : Unit) => (((bif (x13.2 == 0) then (((forS (x13.1.length : Int) (fun (i29 : Int) (s29 : Int) => ((at' x13.1 i29).bind fun x33 => some (w64 (s29 + (x33.length : Int))))) (fun (s29 : Int) => s29) 0 0)).bind fun (j27 : Int) => (bif (j27 != x8.1) then some (.inr false) else some (.inl ()))) else some (.inl ()))).bind (Sum.elim (fun (_ : Unit) => (bif (x3.2 != 0) then some true else (((forN (x3.1.length : Int) (fun (i36 : Int) (s36 : Int) => ((at' x3.1 i36).bind fun x40 => ((at' x2.2.1 x40).bind fun x41 => (bif ((!x41.Same) || ((x41.A != s36) && (x41.B != s36))) then some (.inr (.inr false)) else some (.inl (w64 ((w64 (x41.A + x41.B)) - s36))))))) (fun (s36 : Int) => .inl s36) 0 x2.2.2.1)).bind (Sum.elim (fun (j34 : Int) => some (j34 == x2.2.2.2)) some)))) some))) some))))))))))))))))))))
set_option maxRecDepth 100000 in
set_option maxHeartbeats 4000000 in
theorem laws_FnLinks_run (aCode : (List Int)) (r : Bool) (h : laws_FnLinks aCode = some r) : SCall Tryd.prog 13 [.v (vl (eI .u8) aCode)] ⟨[.v (vb r)], [], false⟩ := by
  refine scall_in Tryd.func13 rfl [(.tmp 2)] rfl (fun r => ⟨[.v (vb r)], [], false⟩) (r := r) ?_
  unfold laws_FnLinks at h
  refine swp_seq ?_
  refine swp_reg ?_
  refine SRun.ck tbokF1 1 ⟨275, [(0, vl (eI .u8) aCode)], []⟩ ?_
  refine SRun.nil ?_
  refine nx_n ?_
  refine swp_seq ?_
  refine swp_seq ?_
  refine swp_reg ?_
  refine SRun.ck tbokF1 1 ⟨275, [(0, vl (eI .u8) aCode), (41, vl (eI .u8) aCode)], []⟩ ?_
  obtain ⟨x1, hx1, h⟩ := bind_some h
  refine SRun.ls (x_lstep_call (f := 45) (caps := []) (xs := [vl (eI .u8) aCode]) (ys := [vl (eI .u8) aCode]) (res := ⟨[.v (vb x1)], [], false⟩) (x := vb x1) (y := none) rfl ents45 (laws_big_run aCode _ hx1) rfl (by intro hc; cases hc)) ?_
  refine SRun.nil ?_
  refine nx_n ?_
  refine swp_cond (b := x1) (by kernel_rfl) (fun hb => ?_) (fun hb => ?_)
  replace h := cond_t hb h
  refine swp_seq ?_
  refine swp_reg ?_
  refine SRun.ck tbokF1 1 ⟨275, [(2, vb true)], []⟩ ?_
  refine SRun.nil ?_
  refine nx_n ?_
  refine swp_ret ?_
  replace h := Option.some.inj h
  subst h
  exact nx_r (q_fr (fin1 (by kernel_rfl) (finV rfl SV.flat_of (holds_t (by kernel_rfl)))))
  replace h := cond_f hb h
  refine swp_skip ?_
  refine nx_n ?_
  refine swp_seq ?_
  refine swp_reg ?_
  refine SRun.ck tbokF1 1 ⟨275, [(0, vl (eI .u8) aCode), (44, vl (eI .u8) aCode)], []⟩ ?_
  obtain ⟨x2, hx2, h⟩ := bind_some h
  refine SRun.ls (x_lstep_call (f := 49) (caps := []) (xs := [vl (eI .u8) aCode]) (ys := [vl (eI .u8) aCode]) (res := ⟨[.v (vi x2.1), .own 42 4 x2.2.1.length (x2.2.1.map eTie), .v (vi x2.2.2.1), .v (vi x2.2.2.2)], [], false⟩) (x := .tup [vi x2.1, .own 45, vi x2.2.2.1, vi x2.2.2.2]) (y := some (.arr 42 4 x2.2.1.length (x2.2.1.map eTie))) rfl ents49 (spec_DrawProofOf_run aCode _ hx2) rfl (by intro hc; cases hc)) ?_
  refine SRun.ck tbokF1 9 ⟨275, [(0, vl (eI .u8) aCode), (3, vi x2.1), (4, .own 45), (5, vi x2.2.2.1), (6, vi x2.2.2.2)], [(45, .arr 42 4 x2.2.1.length (x2.2.1.map eTie))]⟩ ?_
  refine SRun.nil ?_
  refine nx_n ?_
  refine swp_seq ?_
  refine swp_reg ?_
  refine SRun.ck tbokF1 4 ⟨275, [(0, vl (eI .u8) aCode), (3, vi x2.1), (4, .own 45), (5, vi x2.2.2.1), (6, vi x2.2.2.2), (51, vi x2.1), (52, .own 45), (53, vi x2.2.2.1), (54, vi x2.2.2.2)], [(45, .arr 42 4 x2.2.1.length (x2.2.1.map eTie))]⟩ ?_
  obtain ⟨x3, hx3, h⟩ := bind_some h
  refine SRun.ls (x_lstep_call (f := 44) (caps := []) (xs := [vi x2.1, .own 45, vi x2.2.2.1, vi x2.2.2.2]) (ys := [vi x2.1, vl eTie x2.2.1, vi x2.2.2.1, vi x2.2.2.2]) (res := ⟨[.own 2 1 x3.1.length (x3.1.map (eI .i64)), .v (vi x3.2)], [], false⟩) (x := .tup [.own 55, vi x3.2]) (y := some (.arr 2 1 x3.1.length (x3.1.map (eI .i64)))) rfl ents44 (impl_ProofOf_run x2.1 x2.2.1 x2.2.2.1 x2.2.2.2 _ hx3) rfl (by intro hc; cases hc)) ?_
  refine SRun.ck tbokF1 5 ⟨275, [(0, vl (eI .u8) aCode), (3, vi x2.1), (4, .own 45), (5, vi x2.2.2.1), (6, vi x2.2.2.2), (7, .own 55), (8, vi x3.2)], [(45, .arr 42 4 x2.2.1.length (x2.2.1.map eTie)), (55, .arr 2 1 x3.1.length (x3.1.map (eI .i64)))]⟩ ?_
  refine SRun.nil ?_
  refine nx_n ?_
  refine swp_seq ?_
  refine swp_reg ?_
  refine SRun.ck tbokF1 4 ⟨275, [(0, vl (eI .u8) aCode), (4, .own 45), (5, vi x2.2.2.1), (6, vi x2.2.2.2), (7, .own 55), (8, vi x3.2), (59, vi x2.1), (60, .own 45), (61, vi x2.2.2.1), (62, vi x2.2.2.2)], [(45, .arr 42 4 x2.2.1.length (x2.2.1.map eTie)), (55, .arr 2 1 x3.1.length (x3.1.map (eI .i64)))]⟩ ?_
  obtain ⟨x4, hx4, h⟩ := bind_some h
  refine SRun.ls (x_lstep_call (f := 43) (caps := []) (xs := [vi x2.1, .own 45, vi x2.2.2.1, vi x2.2.2.2]) (ys := [vi x2.1, vl eTie x2.2.1, vi x2.2.2.1, vi x2.2.2.2]) (res := ⟨[.own 2 1 x4.1.length (x4.1.map (eI .i64)), .v (vi x4.2)], [], false⟩) (x := .tup [.own 63, vi x4.2]) (y := some (.arr 2 1 x4.1.length (x4.1.map (eI .i64)))) rfl ents43 (spec_ProofOf_run x2.1 x2.2.1 x2.2.2.1 x2.2.2.2 _ hx4) rfl (by intro hc; cases hc)) ?_
  refine SRun.ck tbokF1 5 ⟨275, [(0, vl (eI .u8) aCode), (4, .own 45), (5, vi x2.2.2.1), (6, vi x2.2.2.2), (7, .own 55), (8, vi x3.2), (9, .own 63), (10, vi x4.2)], [(45, .arr 42 4 x2.2.1.length (x2.2.1.map eTie)), (55, .arr 2 1 x3.1.length (x3.1.map (eI .i64))), (63, .arr 2 1 x4.1.length (x4.1.map (eI .i64)))]⟩ ?_
  refine SRun.nil ?_
  refine nx_n ?_
  refine swp_seq ?_
  refine swp_reg ?_
  refine SRun.ck tbokF1 1 ⟨275, [(0, vl (eI .u8) aCode), (4, .own 45), (5, vi x2.2.2.1), (6, vi x2.2.2.2), (7, .own 55), (8, vi x3.2), (9, .own 63), (10, vi x4.2), (67, vl (eI .u8) aCode)], [(45, .arr 42 4 x2.2.1.length (x2.2.1.map eTie)), (55, .arr 2 1 x3.1.length (x3.1.map (eI .i64))), (63, .arr 2 1 x4.1.length (x4.1.map (eI .i64)))]⟩ ?_
  obtain ⟨x5, hx5, h⟩ := bind_some h
  refine SRun.ls (x_lstep_call (f := 50) (caps := []) (xs := [vl (eI .u8) aCode]) (ys := [vl (eI .u8) aCode]) (res := ⟨[.v (vi x5.1), .own 42 4 x5.2.1.length (x5.2.1.map eTie), .v (.agg [vi x5.2.2.A, vi x5.2.2.B, vb x5.2.2.Same, vs x5.2.2.Reason])], [], false⟩) (x := .tup [vi x5.1, .own 68, .agg [vi x5.2.2.A, vi x5.2.2.B, vb x5.2.2.Same, vs x5.2.2.Reason]]) (y := some (.arr 42 4 x5.2.1.length (x5.2.1.map eTie))) rfl ents50 (spec_DrawAddTie_run aCode _ hx5) rfl (by intro hc; cases hc)) ?_
  refine SRun.ck tbokF1 7 ⟨275, [(0, vl (eI .u8) aCode), (4, .own 45), (5, vi x2.2.2.1), (6, vi x2.2.2.2), (7, .own 55), (8, vi x3.2), (9, .own 63), (10, vi x4.2), (11, vi x5.1), (12, .own 68), (13, .ref 13 0), (71, .agg [vi x5.2.2.A, vi x5.2.2.B, vb x5.2.2.Same, vs x5.2.2.Reason])], [(13, .box [vi 0, vi 0, vb false, vs (ByteArray.mk #[])]), (45, .arr 42 4 x2.2.1.length (x2.2.1.map eTie)), (55, .arr 2 1 x3.1.length (x3.1.map (eI .i64))), (63, .arr 2 1 x4.1.length (x4.1.map (eI .i64))), (68, .arr 42 4 x5.2.1.length (x5.2.1.map eTie))]⟩ ?_
  refine SRun.estep (x_estep_store (d := 13) (k := 0) (ti := ti42) (cs := [vi 0, vi 0, vb false, vs (ByteArray.mk #[])]) (vs := [vi x5.2.2.A, vi x5.2.2.B, vb x5.2.2.Same, vs x5.2.2.Reason]) (v := .agg [vi x5.2.2.A, vi x5.2.2.B, vb x5.2.2.Same, vs x5.2.2.Reason]) tbokF1 rfl rfl) ?_
  refine SRun.nil ?_
  refine nx_n ?_
  refine swp_seq ?_
  refine swp_reg ?_
  refine SRun.ck tbokF1 3 ⟨275, [(0, vl (eI .u8) aCode), (4, .own 45), (5, vi x2.2.2.1), (6, vi x2.2.2.2), (7, .own 55), (8, vi x3.2), (9, .own 63), (10, vi x4.2), (11, vi x5.1), (12, .own 68), (13, .ref 13 0), (73, vi x5.1), (74, .own 68), (75, .agg [vi x5.2.2.A, vi x5.2.2.B, vb x5.2.2.Same, vs x5.2.2.Reason])], [(13, .box [vi x5.2.2.A, vi x5.2.2.B, vb x5.2.2.Same, vs x5.2.2.Reason]), (45, .arr 42 4 x2.2.1.length (x2.2.1.map eTie)), (55, .arr 2 1 x3.1.length (x3.1.map (eI .i64))), (63, .arr 2 1 x4.1.length (x4.1.map (eI .i64))), (68, .arr 42 4 x5.2.1.length (x5.2.1.map eTie))]⟩ ?_
  obtain ⟨x6, hx6, h⟩ := bind_some h
  refine SRun.ls (x_lstep_call (f := 32) (caps := []) (xs := [vi x5.1, .own 68, .agg [vi x5.2.2.A, vi x5.2.2.B, vb x5.2.2.Same, vs x5.2.2.Reason]]) (ys := [vi x5.1, vl eTie x5.2.1, .agg [vi x5.2.2.A, vi x5.2.2.B, vb x5.2.2.Same, vs x5.2.2.Reason]]) (res := ⟨[.own 42 4 x6.1.length (x6.1.map eTie), .v (vi x6.2)], [], false⟩) (x := .tup [.own 76, vi x6.2]) (y := some (.arr 42 4 x6.1.length (x6.1.map eTie))) rfl ents32 (impl_AddTie_run x5.1 x5.2.1 x5.2.2 _ hx6) rfl (by intro hc; cases hc)) ?_
  refine SRun.ck tbokF1 5 ⟨275, [(0, vl (eI .u8) aCode), (4, .own 45), (5, vi x2.2.2.1), (6, vi x2.2.2.2), (7, .own 55), (8, vi x3.2), (9, .own 63), (10, vi x4.2), (11, vi x5.1), (12, .own 68), (13, .ref 13 0), (14, .own 76), (15, vi x6.2)], [(13, .box [vi x5.2.2.A, vi x5.2.2.B, vb x5.2.2.Same, vs x5.2.2.Reason]), (45, .arr 42 4 x2.2.1.length (x2.2.1.map eTie)), (55, .arr 2 1 x3.1.length (x3.1.map (eI .i64))), (63, .arr 2 1 x4.1.length (x4.1.map (eI .i64))), (68, .arr 42 4 x5.2.1.length (x5.2.1.map eTie)), (76, .arr 42 4 x6.1.length (x6.1.map eTie))]⟩ ?_
  refine SRun.nil ?_
  refine nx_n ?_
  refine swp_seq ?_
  refine swp_reg ?_
  refine SRun.ck tbokF1 3 ⟨275, [(0, vl (eI .u8) aCode), (4, .own 45), (5, vi x2.2.2.1), (6, vi x2.2.2.2), (7, .own 55), (8, vi x3.2), (9, .own 63), (10, vi x4.2), (11, vi x5.1), (14, .own 76), (15, vi x6.2), (80, vi x5.1), (81, .own 68), (82, .agg [vi x5.2.2.A, vi x5.2.2.B, vb x5.2.2.Same, vs x5.2.2.Reason])], [(45, .arr 42 4 x2.2.1.length (x2.2.1.map eTie)), (55, .arr 2 1 x3.1.length (x3.1.map (eI .i64))), (63, .arr 2 1 x4.1.length (x4.1.map (eI .i64))), (68, .arr 42 4 x5.2.1.length (x5.2.1.map eTie)), (76, .arr 42 4 x6.1.length (x6.1.map eTie))]⟩ ?_
  obtain ⟨x7, hx7, h⟩ := bind_some h
  refine SRun.ls (x_lstep_call (f := 30) (caps := []) (xs := [vi x5.1, .own 68, .agg [vi x5.2.2.A, vi x5.2.2.B, vb x5.2.2.Same, vs x5.2.2.Reason]]) (ys := [vi x5.1, vl eTie x5.2.1, .agg [vi x5.2.2.A, vi x5.2.2.B, vb x5.2.2.Same, vs x5.2.2.Reason]]) (res := ⟨[.own 42 4 x7.1.length (x7.1.map eTie), .v (vi x7.2)], [], false⟩) (x := .tup [.own 83, vi x7.2]) (y := some (.arr 42 4 x7.1.length (x7.1.map eTie))) rfl ents30 (spec_AddTie_run x5.1 x5.2.1 x5.2.2 _ hx7) rfl (by intro hc; cases hc)) ?_
  refine SRun.ck tbokF1 5 ⟨275, [(0, vl (eI .u8) aCode), (4, .own 45), (5, vi x2.2.2.1), (6, vi x2.2.2.2), (7, .own 55), (8, vi x3.2), (9, .own 63), (10, vi x4.2), (11, vi x5.1), (14, .own 76), (15, vi x6.2), (16, .own 83), (17, vi x7.2)], [(45, .arr 42 4 x2.2.1.length (x2.2.1.map eTie)), (55, .arr 2 1 x3.1.length (x3.1.map (eI .i64))), (63, .arr 2 1 x4.1.length (x4.1.map (eI .i64))), (76, .arr 42 4 x6.1.length (x6.1.map eTie)), (83, .arr 42 4 x7.1.length (x7.1.map eTie))]⟩ ?_
  refine SRun.nil ?_
  refine nx_n ?_
  refine swp_seq ?_
  refine swp_reg ?_
  refine SRun.ck tbokF1 1 ⟨275, [(4, .own 45), (5, vi x2.2.2.1), (6, vi x2.2.2.2), (7, .own 55), (8, vi x3.2), (9, .own 63), (10, vi x4.2), (11, vi x5.1), (14, .own 76), (15, vi x6.2), (16, .own 83), (17, vi x7.2), (87, vl (eI .u8) aCode)], [(45, .arr 42 4 x2.2.1.length (x2.2.1.map eTie)), (55, .arr 2 1 x3.1.length (x3.1.map (eI .i64))), (63, .arr 2 1 x4.1.length (x4.1.map (eI .i64))), (76, .arr 42 4 x6.1.length (x6.1.map eTie)), (83, .arr 42 4 x7.1.length (x7.1.map eTie))]⟩ ?_
  obtain ⟨x8, hx8, h⟩ := bind_some h
  refine SRun.ls (x_lstep_call (f := 51) (caps := []) (xs := [vl (eI .u8) aCode]) (ys := [vl (eI .u8) aCode]) (res := ⟨[.v (vi x8.1), .own 42 4 x8.2.length (x8.2.map eTie)], [], false⟩) (x := .tup [vi x8.1, .own 88]) (y := some (.arr 42 4 x8.2.length (x8.2.map eTie))) rfl ents51 (spec_DrawRefutation_run aCode _ hx8) rfl (by intro hc; cases hc)) ?_
  refine SRun.ck tbokF1 5 ⟨275, [(4, .own 45), (5, vi x2.2.2.1), (6, vi x2.2.2.2), (7, .own 55), (8, vi x3.2), (9, .own 63), (10, vi x4.2), (11, vi x5.1), (14, .own 76), (15, vi x6.2), (16, .own 83), (17, vi x7.2), (18, vi x8.1), (19, .own 88)], [(45, .arr 42 4 x2.2.1.length (x2.2.1.map eTie)), (55, .arr 2 1 x3.1.length (x3.1.map (eI .i64))), (63, .arr 2 1 x4.1.length (x4.1.map (eI .i64))), (76, .arr 42 4 x6.1.length (x6.1.map eTie)), (83, .arr 42 4 x7.1.length (x7.1.map eTie)), (88, .arr 42 4 x8.2.length (x8.2.map eTie))]⟩ ?_
  refine SRun.nil ?_
  refine nx_n ?_
  refine swp_seq ?_
  refine swp_reg ?_
  refine SRun.ck tbokF1 2 ⟨275, [(4, .own 45), (5, vi x2.2.2.1), (6, vi x2.2.2.2), (7, .own 55), (8, vi x3.2), (9, .own 63), (10, vi x4.2), (11, vi x5.1), (14, .own 76), (15, vi x6.2), (16, .own 83), (17, vi x7.2), (18, vi x8.1), (19, .own 88), (92, vi x8.1), (93, .own 88)], [(45, .arr 42 4 x2.2.1.length (x2.2.1.map eTie)), (55, .arr 2 1 x3.1.length (x3.1.map (eI .i64))), (63, .arr 2 1 x4.1.length (x4.1.map (eI .i64))), (76, .arr 42 4 x6.1.length (x6.1.map eTie)), (83, .arr 42 4 x7.1.length (x7.1.map eTie)), (88, .arr 42 4 x8.2.length (x8.2.map eTie))]⟩ ?_
  obtain ⟨x9, hx9, h⟩ := bind_some h
  refine SRun.ls (x_lstep_call (f := 39) (caps := []) (xs := [vi x8.1, .own 88]) (ys := [vi x8.1, vl eTie x8.2]) (res := ⟨[.v (vi x9.1), .own 2 1 x9.2.1.length (x9.2.1.map (eI .i64)), .v (vi x9.2.2)], [], false⟩) (x := .tup [vi x9.1, .own 94, vi x9.2.2]) (y := some (.arr 2 1 x9.2.1.length (x9.2.1.map (eI .i64)))) rfl ents39 (impl_Refutation_run x8.1 x8.2 _ hx9) rfl (by intro hc; cases hc)) ?_
  refine SRun.ck tbokF1 7 ⟨275, [(4, .own 45), (5, vi x2.2.2.1), (6, vi x2.2.2.2), (7, .own 55), (8, vi x3.2), (9, .own 63), (10, vi x4.2), (11, vi x5.1), (14, .own 76), (15, vi x6.2), (16, .own 83), (17, vi x7.2), (18, vi x8.1), (19, .own 88), (20, vi x9.1), (21, .own 94), (22, vi x9.2.2)], [(45, .arr 42 4 x2.2.1.length (x2.2.1.map eTie)), (55, .arr 2 1 x3.1.length (x3.1.map (eI .i64))), (63, .arr 2 1 x4.1.length (x4.1.map (eI .i64))), (76, .arr 42 4 x6.1.length (x6.1.map eTie)), (83, .arr 42 4 x7.1.length (x7.1.map eTie)), (88, .arr 42 4 x8.2.length (x8.2.map eTie)), (94, .arr 2 1 x9.2.1.length (x9.2.1.map (eI .i64)))]⟩ ?_
  refine SRun.nil ?_
  refine nx_n ?_
  refine swp_seq ?_
  refine swp_reg ?_
  refine SRun.ck tbokF1 2 ⟨275, [(4, .own 45), (5, vi x2.2.2.1), (6, vi x2.2.2.2), (7, .own 55), (8, vi x3.2), (9, .own 63), (10, vi x4.2), (11, vi x5.1), (14, .own 76), (15, vi x6.2), (16, .own 83), (17, vi x7.2), (18, vi x8.1), (19, .own 88), (20, vi x9.1), (21, .own 94), (22, vi x9.2.2), (99, vi x8.1), (100, .own 88)], [(45, .arr 42 4 x2.2.1.length (x2.2.1.map eTie)), (55, .arr 2 1 x3.1.length (x3.1.map (eI .i64))), (63, .arr 2 1 x4.1.length (x4.1.map (eI .i64))), (76, .arr 42 4 x6.1.length (x6.1.map eTie)), (83, .arr 42 4 x7.1.length (x7.1.map eTie)), (88, .arr 42 4 x8.2.length (x8.2.map eTie)), (94, .arr 2 1 x9.2.1.length (x9.2.1.map (eI .i64)))]⟩ ?_
  obtain ⟨x10, hx10, h⟩ := bind_some h
  refine SRun.ls (x_lstep_call (f := 38) (caps := []) (xs := [vi x8.1, .own 88]) (ys := [vi x8.1, vl eTie x8.2]) (res := ⟨[.v (vi x10.1), .own 2 1 x10.2.1.length (x10.2.1.map (eI .i64)), .v (vi x10.2.2)], [], false⟩) (x := .tup [vi x10.1, .own 101, vi x10.2.2]) (y := some (.arr 2 1 x10.2.1.length (x10.2.1.map (eI .i64)))) rfl ents38 (spec_Refutation_run x8.1 x8.2 _ hx10) rfl (by intro hc; cases hc)) ?_
  refine SRun.ck tbokF1 7 ⟨275, [(4, .own 45), (5, vi x2.2.2.1), (6, vi x2.2.2.2), (7, .own 55), (8, vi x3.2), (9, .own 63), (10, vi x4.2), (11, vi x5.1), (14, .own 76), (15, vi x6.2), (16, .own 83), (17, vi x7.2), (18, vi x8.1), (19, .own 88), (20, vi x9.1), (21, .own 94), (22, vi x9.2.2), (23, vi x10.1), (24, .own 101), (25, vi x10.2.2)], [(45, .arr 42 4 x2.2.1.length (x2.2.1.map eTie)), (55, .arr 2 1 x3.1.length (x3.1.map (eI .i64))), (63, .arr 2 1 x4.1.length (x4.1.map (eI .i64))), (76, .arr 42 4 x6.1.length (x6.1.map eTie)), (83, .arr 42 4 x7.1.length (x7.1.map eTie)), (88, .arr 42 4 x8.2.length (x8.2.map eTie)), (94, .arr 2 1 x9.2.1.length (x9.2.1.map (eI .i64))), (101, .arr 2 1 x10.2.1.length (x10.2.1.map (eI .i64)))]⟩ ?_
  refine SRun.nil ?_
  refine nx_n ?_
  refine swp_seq ?_
  refine swp_reg ?_
  refine SRun.ck tbokF1 2 ⟨275, [(4, .own 45), (5, vi x2.2.2.1), (6, vi x2.2.2.2), (7, .own 55), (8, vi x3.2), (9, .own 63), (10, vi x4.2), (11, vi x5.1), (14, .own 76), (15, vi x6.2), (16, .own 83), (17, vi x7.2), (18, vi x8.1), (19, .own 88), (20, vi x9.1), (21, .own 94), (22, vi x9.2.2), (23, vi x10.1), (24, .own 101), (25, vi x10.2.2), (106, vi x8.1), (107, .own 88)], [(45, .arr 42 4 x2.2.1.length (x2.2.1.map eTie)), (55, .arr 2 1 x3.1.length (x3.1.map (eI .i64))), (63, .arr 2 1 x4.1.length (x4.1.map (eI .i64))), (76, .arr 42 4 x6.1.length (x6.1.map eTie)), (83, .arr 42 4 x7.1.length (x7.1.map eTie)), (88, .arr 42 4 x8.2.length (x8.2.map eTie)), (94, .arr 2 1 x9.2.1.length (x9.2.1.map (eI .i64))), (101, .arr 2 1 x10.2.1.length (x10.2.1.map (eI .i64)))]⟩ ?_
  obtain ⟨x11, hx11, h⟩ := bind_some h
  refine SRun.ls (x_lstep_call (f := 24) (caps := []) (xs := [vi x8.1, .own 88]) (ys := [vi x8.1, vl eTie x8.2]) (res := ⟨[.v (vb x11.1), .v (vi x11.2)], [], false⟩) (x := .tup [vb x11.1, vi x11.2]) (y := none) rfl ents24 (impl_AreSound_run x8.1 x8.2 _ hx11) rfl (by intro hc; cases hc)) ?_
  refine SRun.ck tbokF1 5 ⟨275, [(4, .own 45), (5, vi x2.2.2.1), (6, vi x2.2.2.2), (7, .own 55), (8, vi x3.2), (9, .own 63), (10, vi x4.2), (11, vi x5.1), (14, .own 76), (15, vi x6.2), (16, .own 83), (17, vi x7.2), (18, vi x8.1), (19, .own 88), (20, vi x9.1), (21, .own 94), (22, vi x9.2.2), (23, vi x10.1), (24, .own 101), (25, vi x10.2.2), (26, vb x11.1), (27, vi x11.2)], [(45, .arr 42 4 x2.2.1.length (x2.2.1.map eTie)), (55, .arr 2 1 x3.1.length (x3.1.map (eI .i64))), (63, .arr 2 1 x4.1.length (x4.1.map (eI .i64))), (76, .arr 42 4 x6.1.length (x6.1.map eTie)), (83, .arr 42 4 x7.1.length (x7.1.map eTie)), (88, .arr 42 4 x8.2.length (x8.2.map eTie)), (94, .arr 2 1 x9.2.1.length (x9.2.1.map (eI .i64))), (101, .arr 2 1 x10.2.1.length (x10.2.1.map (eI .i64)))]⟩ ?_
  refine SRun.nil ?_
  refine nx_n ?_
  refine swp_seq ?_
  refine swp_reg ?_
  refine SRun.ck tbokF1 2 ⟨275, [(4, .own 45), (5, vi x2.2.2.1), (6, vi x2.2.2.2), (7, .own 55), (8, vi x3.2), (9, .own 63), (10, vi x4.2), (11, vi x5.1), (14, .own 76), (15, vi x6.2), (16, .own 83), (17, vi x7.2), (18, vi x8.1), (19, .own 88), (20, vi x9.1), (21, .own 94), (22, vi x9.2.2), (23, vi x10.1), (24, .own 101), (25, vi x10.2.2), (26, vb x11.1), (27, vi x11.2), (112, vi x8.1), (113, .own 88)], [(45, .arr 42 4 x2.2.1.length (x2.2.1.map eTie)), (55, .arr 2 1 x3.1.length (x3.1.map (eI .i64))), (63, .arr 2 1 x4.1.length (x4.1.map (eI .i64))), (76, .arr 42 4 x6.1.length (x6.1.map eTie)), (83, .arr 42 4 x7.1.length (x7.1.map eTie)), (88, .arr 42 4 x8.2.length (x8.2.map eTie)), (94, .arr 2 1 x9.2.1.length (x9.2.1.map (eI .i64))), (101, .arr 2 1 x10.2.1.length (x10.2.1.map (eI .i64)))]⟩ ?_
  obtain ⟨x12, hx12, h⟩ := bind_some h
  refine SRun.ls (x_lstep_call (f := 23) (caps := []) (xs := [vi x8.1, .own 88]) (ys := [vi x8.1, vl eTie x8.2]) (res := ⟨[.v (vb x12.1), .v (vi x12.2)], [], false⟩) (x := .tup [vb x12.1, vi x12.2]) (y := none) rfl ents23 (spec_AreSound_run x8.1 x8.2 _ hx12) rfl (by intro hc; cases hc)) ?_
  refine SRun.ck tbokF1 5 ⟨275, [(4, .own 45), (5, vi x2.2.2.1), (6, vi x2.2.2.2), (7, .own 55), (8, vi x3.2), (9, .own 63), (10, vi x4.2), (11, vi x5.1), (14, .own 76), (15, vi x6.2), (16, .own 83), (17, vi x7.2), (18, vi x8.1), (19, .own 88), (20, vi x9.1), (21, .own 94), (22, vi x9.2.2), (23, vi x10.1), (24, .own 101), (25, vi x10.2.2), (26, vb x11.1), (27, vi x11.2), (28, vb x12.1), (29, vi x12.2)], [(45, .arr 42 4 x2.2.1.length (x2.2.1.map eTie)), (55, .arr 2 1 x3.1.length (x3.1.map (eI .i64))), (63, .arr 2 1 x4.1.length (x4.1.map (eI .i64))), (76, .arr 42 4 x6.1.length (x6.1.map eTie)), (83, .arr 42 4 x7.1.length (x7.1.map eTie)), (88, .arr 42 4 x8.2.length (x8.2.map eTie)), (94, .arr 2 1 x9.2.1.length (x9.2.1.map (eI .i64))), (101, .arr 2 1 x10.2.1.length (x10.2.1.map (eI .i64)))]⟩ ?_
  refine SRun.nil ?_
  refine nx_n ?_
  refine swp_seq ?_
  refine swp_reg ?_
  refine SRun.ck tbokF1 2 ⟨275, [(4, .own 45), (5, vi x2.2.2.1), (6, vi x2.2.2.2), (7, .own 55), (8, vi x3.2), (9, .own 63), (10, vi x4.2), (11, vi x5.1), (14, .own 76), (15, vi x6.2), (16, .own 83), (17, vi x7.2), (18, vi x8.1), (19, .own 88), (20, vi x9.1), (21, .own 94), (22, vi x9.2.2), (23, vi x10.1), (24, .own 101), (25, vi x10.2.2), (26, vb x11.1), (27, vi x11.2), (28, vb x12.1), (29, vi x12.2), (118, vi x8.1), (119, .own 88)], [(45, .arr 42 4 x2.2.1.length (x2.2.1.map eTie)), (55, .arr 2 1 x3.1.length (x3.1.map (eI .i64))), (63, .arr 2 1 x4.1.length (x4.1.map (eI .i64))), (76, .arr 42 4 x6.1.length (x6.1.map eTie)), (83, .arr 42 4 x7.1.length (x7.1.map eTie)), (88, .arr 42 4 x8.2.length (x8.2.map eTie)), (94, .arr 2 1 x9.2.1.length (x9.2.1.map (eI .i64))), (101, .arr 2 1 x10.2.1.length (x10.2.1.map (eI .i64)))]⟩ ?_
  refine SRun.le (Le.frz' (d := 88) (e := 42) (m := 4) (n := x8.2.length) (es := x8.2.map eTie) (by kernel_rfl) (by kernel_rfl)) ?_
  obtain ⟨x13, hx13, h⟩ := bind_some h
  refine SRun.ls (x_lstep_call (f := 34) (caps := []) (xs := [vi x8.1, vl eTie x8.2]) (ys := [vi x8.1, vl eTie x8.2]) (res := ⟨[.own 50 1 x13.1.length (x13.1.map (eL (eI .i64))), .v (vi x13.2)], [], true⟩) (x := .tup [.own 120, vi x13.2]) (y := some (.arr 50 1 x13.1.length (x13.1.map (eL (eI .i64))))) rfl ents34 (impl_GroupsOf_run x8.1 x8.2 _ hx13) rfl (fun _ => rfl)) ?_
  refine SRun.ck tbokF1 5 ⟨275, [(4, .own 45), (5, vi x2.2.2.1), (6, vi x2.2.2.2), (7, .own 55), (8, vi x3.2), (9, .own 63), (10, vi x4.2), (11, vi x5.1), (14, .own 76), (15, vi x6.2), (16, .own 83), (17, vi x7.2), (18, vi x8.1), (19, vl eTie x8.2), (20, vi x9.1), (21, .own 94), (22, vi x9.2.2), (23, vi x10.1), (24, .own 101), (25, vi x10.2.2), (26, vb x11.1), (27, vi x11.2), (28, vb x12.1), (29, vi x12.2), (30, .own 120), (31, vi x13.2)], [(45, .arr 42 4 x2.2.1.length (x2.2.1.map eTie)), (55, .arr 2 1 x3.1.length (x3.1.map (eI .i64))), (63, .arr 2 1 x4.1.length (x4.1.map (eI .i64))), (76, .arr 42 4 x6.1.length (x6.1.map eTie)), (83, .arr 42 4 x7.1.length (x7.1.map eTie)), (94, .arr 2 1 x9.2.1.length (x9.2.1.map (eI .i64))), (101, .arr 2 1 x10.2.1.length (x10.2.1.map (eI .i64))), (120, .arr 50 1 x13.1.length (x13.1.map (eL (eI .i64))))]⟩ ?_
  refine SRun.nil ?_
  refine nx_n ?_
  refine swp_seq ?_
  refine swp_reg ?_
  refine SRun.ck tbokF1 2 ⟨275, [(4, .own 45), (5, vi x2.2.2.1), (6, vi x2.2.2.2), (7, .own 55), (8, vi x3.2), (9, .own 63), (10, vi x4.2), (11, vi x5.1), (14, .own 76), (15, vi x6.2), (16, .own 83), (17, vi x7.2), (18, vi x8.1), (19, vl eTie x8.2), (20, vi x9.1), (21, .own 94), (22, vi x9.2.2), (23, vi x10.1), (24, .own 101), (25, vi x10.2.2), (26, vb x11.1), (27, vi x11.2), (28, vb x12.1), (29, vi x12.2), (30, .own 120), (31, vi x13.2), (124, vi x8.1), (125, vl eTie x8.2)], [(45, .arr 42 4 x2.2.1.length (x2.2.1.map eTie)), (55, .arr 2 1 x3.1.length (x3.1.map (eI .i64))), (63, .arr 2 1 x4.1.length (x4.1.map (eI .i64))), (76, .arr 42 4 x6.1.length (x6.1.map eTie)), (83, .arr 42 4 x7.1.length (x7.1.map eTie)), (94, .arr 2 1 x9.2.1.length (x9.2.1.map (eI .i64))), (101, .arr 2 1 x10.2.1.length (x10.2.1.map (eI .i64))), (120, .arr 50 1 x13.1.length (x13.1.map (eL (eI .i64))))]⟩ ?_
  obtain ⟨x14, hx14, h⟩ := bind_some h
  refine SRun.ls (x_lstep_call (f := 33) (caps := []) (xs := [vi x8.1, vl eTie x8.2]) (ys := [vi x8.1, vl eTie x8.2]) (res := ⟨[.own 50 1 x14.1.length (x14.1.map (eL (eI .i64))), .v (vi x14.2)], [], true⟩) (x := .tup [.own 126, vi x14.2]) (y := some (.arr 50 1 x14.1.length (x14.1.map (eL (eI .i64))))) rfl ents33 (spec_GroupsOf_run x8.1 x8.2 _ hx14) rfl (fun _ => rfl)) ?_
  refine SRun.ck tbokF1 5 ⟨275, [(4, .own 45), (5, vi x2.2.2.1), (6, vi x2.2.2.2), (7, .own 55), (8, vi x3.2), (9, .own 63), (10, vi x4.2), (11, vi x5.1), (14, .own 76), (15, vi x6.2), (16, .own 83), (17, vi x7.2), (18, vi x8.1), (19, vl eTie x8.2), (20, vi x9.1), (21, .own 94), (22, vi x9.2.2), (23, vi x10.1), (24, .own 101), (25, vi x10.2.2), (26, vb x11.1), (27, vi x11.2), (28, vb x12.1), (29, vi x12.2), (30, .own 120), (31, vi x13.2), (32, .own 126), (33, vi x14.2)], [(45, .arr 42 4 x2.2.1.length (x2.2.1.map eTie)), (55, .arr 2 1 x3.1.length (x3.1.map (eI .i64))), (63, .arr 2 1 x4.1.length (x4.1.map (eI .i64))), (76, .arr 42 4 x6.1.length (x6.1.map eTie)), (83, .arr 42 4 x7.1.length (x7.1.map eTie)), (94, .arr 2 1 x9.2.1.length (x9.2.1.map (eI .i64))), (101, .arr 2 1 x10.2.1.length (x10.2.1.map (eI .i64))), (120, .arr 50 1 x13.1.length (x13.1.map (eL (eI .i64)))), (126, .arr 50 1 x14.1.length (x14.1.map (eL (eI .i64))))]⟩ ?_
  refine SRun.nil ?_
  refine nx_n ?_
  refine swp_seq ?_
  refine swp_seq ?_
  refine swp_regJ h (fun j20 => ⟨275, [(4, .own 4), (5, vi x2.2.2.1), (6, vi x2.2.2.2), (7, .own 7), (8, vi x3.2), (11, vi x5.1), (14, .own 14), (15, vi x6.2), (18, vi x8.1), (22, vi x9.2.2), (26, vb x11.1), (27, vi x11.2), (30, .own 30), (31, vi x13.2), (193, vb j20)], [(4, .arr 42 4 x2.2.1.length (x2.2.1.map eTie)), (7, .arr 2 1 x3.1.length (x3.1.map (eI .i64))), (14, .arr 42 4 x6.1.length (x6.1.map eTie)), (30, .arr 50 1 x13.1.length (x13.1.map (eL (eI .i64))))]⟩) (fun v21 h => ?_) (fun j20 h => ?_)
  refine SRun.ck tbokF1 4 ⟨275, [(4, .own 45), (5, vi x2.2.2.1), (6, vi x2.2.2.2), (7, .own 55), (8, vi x3.2), (9, .own 63), (11, vi x5.1), (14, .own 76), (15, vi x6.2), (16, .own 83), (17, vi x7.2), (18, vi x8.1), (19, vl eTie x8.2), (20, vi x9.1), (21, .own 94), (22, vi x9.2.2), (23, vi x10.1), (24, .own 101), (25, vi x10.2.2), (26, vb x11.1), (27, vi x11.2), (28, vb x12.1), (29, vi x12.2), (30, .own 120), (31, vi x13.2), (32, .own 126), (33, vi x14.2), (132, vb (x3.2 != x4.2))], [(45, .arr 42 4 x2.2.1.length (x2.2.1.map eTie)), (55, .arr 2 1 x3.1.length (x3.1.map (eI .i64))), (63, .arr 2 1 x4.1.length (x4.1.map (eI .i64))), (76, .arr 42 4 x6.1.length (x6.1.map eTie)), (83, .arr 42 4 x7.1.length (x7.1.map eTie)), (94, .arr 2 1 x9.2.1.length (x9.2.1.map (eI .i64))), (101, .arr 2 1 x10.2.1.length (x10.2.1.map (eI .i64))), (120, .arr 50 1 x13.1.length (x13.1.map (eL (eI .i64)))), (126, .arr 50 1 x14.1.length (x14.1.map (eL (eI .i64))))]⟩ ?_
  refine SRun.cut [(132, fun b => b)] (b := (x3.2 != x4.2)) (by kernel_rfl) (fun hb => ?_) (fun hb => ?_)
  replace h := cond_t hb h
  refine SRun.ck tbokF1 61 ⟨275, [(4, .own 45), (5, vi x2.2.2.1), (6, vi x2.2.2.2), (7, .own 55), (8, vi x3.2), (11, vi x5.1), (14, .own 76), (15, vi x6.2), (18, vi x8.1), (22, vi x9.2.2), (26, vb x11.1), (27, vi x11.2), (30, .own 120), (31, vi x13.2), (193, vb true)], [(45, .arr 42 4 x2.2.1.length (x2.2.1.map eTie)), (55, .arr 2 1 x3.1.length (x3.1.map (eI .i64))), (76, .arr 42 4 x6.1.length (x6.1.map eTie)), (120, .arr 50 1 x13.1.length (x13.1.map (eL (eI .i64))))]⟩ ?_
  refine SRun.nil ?_
  replace h := Option.some.inj h
  subst h
  exact (Le.sub' ([(4, .own 45), (5, vi x2.2.2.1), (6, vi x2.2.2.2), (7, .own 55), (8, vi x3.2), (11, vi x5.1), (14, .own 76), (15, vi x6.2), (18, vi x8.1), (22, vi x9.2.2), (26, vb x11.1), (27, vi x11.2), (30, .own 120), (31, vi x13.2), (193, vb true)] : List (Nat × SV)) ([(45, .arr 42 4 x2.2.1.length (x2.2.1.map eTie)), (55, .arr 2 1 x3.1.length (x3.1.map (eI .i64))), (76, .arr 42 4 x6.1.length (x6.1.map eTie)), (120, .arr 50 1 x13.1.length (x13.1.map (eL (eI .i64))))] : List (Nat × SO)) (by kernel_rfl) (by kernel_rfl)).trans ((Le.ren' (d := 45) (e := 4) (by kernel_rfl) (by kernel_rfl) (by kernel_rfl)).trans ((Le.ren' (d := 55) (e := 7) (by kernel_rfl) (by kernel_rfl) (by kernel_rfl)).trans ((Le.ren' (d := 76) (e := 14) (by kernel_rfl) (by kernel_rfl) (by kernel_rfl)).trans ((Le.ren' (d := 120) (e := 30) (by kernel_rfl) (by kernel_rfl) (by kernel_rfl)).trans (Le.sub0)))))
  replace h := cond_f hb h
  refine SRun.ck tbokF1 2 ⟨275, [(4, .own 45), (5, vi x2.2.2.1), (6, vi x2.2.2.2), (7, .own 55), (8, vi x3.2), (11, vi x5.1), (14, .own 76), (15, vi x6.2), (16, .own 83), (17, vi x7.2), (18, vi x8.1), (19, vl eTie x8.2), (20, vi x9.1), (21, .own 94), (22, vi x9.2.2), (23, vi x10.1), (24, .own 101), (25, vi x10.2.2), (26, vb x11.1), (27, vi x11.2), (28, vb x12.1), (29, vi x12.2), (30, .own 120), (31, vi x13.2), (32, .own 126), (33, vi x14.2), (132, vb false), (133, .own 55), (134, .own 63)], [(45, .arr 42 4 x2.2.1.length (x2.2.1.map eTie)), (55, .arr 2 1 x3.1.length (x3.1.map (eI .i64))), (63, .arr 2 1 x4.1.length (x4.1.map (eI .i64))), (76, .arr 42 4 x6.1.length (x6.1.map eTie)), (83, .arr 42 4 x7.1.length (x7.1.map eTie)), (94, .arr 2 1 x9.2.1.length (x9.2.1.map (eI .i64))), (101, .arr 2 1 x10.2.1.length (x10.2.1.map (eI .i64))), (120, .arr 50 1 x13.1.length (x13.1.map (eL (eI .i64)))), (126, .arr 50 1 x14.1.length (x14.1.map (eL (eI .i64))))]⟩ ?_
  obtain ⟨x15, hx15, h⟩ := bind_some h
  refine SRun.ls (x_lstep_call (f := 52) (caps := []) (xs := [.own 55, .own 63]) (ys := [vl (eI .i64) x3.1, vl (eI .i64) x4.1]) (res := ⟨[.v (vb x15)], [], false⟩) (x := vb x15) (y := none) rfl ents52 (laws_likeInts_run x3.1 x4.1 _ hx15) rfl (by intro hc; cases hc)) ?_
  refine SRun.ck tbokF1 3 ⟨275, [(4, .own 45), (5, vi x2.2.2.1), (6, vi x2.2.2.2), (7, .own 55), (8, vi x3.2), (11, vi x5.1), (14, .own 76), (15, vi x6.2), (16, .own 83), (17, vi x7.2), (18, vi x8.1), (19, vl eTie x8.2), (20, vi x9.1), (21, .own 94), (22, vi x9.2.2), (23, vi x10.1), (24, .own 101), (25, vi x10.2.2), (26, vb x11.1), (27, vi x11.2), (28, vb x12.1), (29, vi x12.2), (30, .own 120), (31, vi x13.2), (32, .own 126), (33, vi x14.2), (138, vb (!x15))], [(45, .arr 42 4 x2.2.1.length (x2.2.1.map eTie)), (55, .arr 2 1 x3.1.length (x3.1.map (eI .i64))), (76, .arr 42 4 x6.1.length (x6.1.map eTie)), (83, .arr 42 4 x7.1.length (x7.1.map eTie)), (94, .arr 2 1 x9.2.1.length (x9.2.1.map (eI .i64))), (101, .arr 2 1 x10.2.1.length (x10.2.1.map (eI .i64))), (120, .arr 50 1 x13.1.length (x13.1.map (eL (eI .i64)))), (126, .arr 50 1 x14.1.length (x14.1.map (eL (eI .i64))))]⟩ ?_
  refine SRun.cut [(138, fun b => b)] (b := (!x15)) (by kernel_rfl) (fun hb => ?_) (fun hb => ?_)
  replace h := cond_t hb h
  refine SRun.ck tbokF1 55 ⟨275, [(4, .own 45), (5, vi x2.2.2.1), (6, vi x2.2.2.2), (7, .own 55), (8, vi x3.2), (11, vi x5.1), (14, .own 76), (15, vi x6.2), (18, vi x8.1), (22, vi x9.2.2), (26, vb x11.1), (27, vi x11.2), (30, .own 120), (31, vi x13.2), (193, vb true)], [(45, .arr 42 4 x2.2.1.length (x2.2.1.map eTie)), (55, .arr 2 1 x3.1.length (x3.1.map (eI .i64))), (76, .arr 42 4 x6.1.length (x6.1.map eTie)), (120, .arr 50 1 x13.1.length (x13.1.map (eL (eI .i64))))]⟩ ?_
  refine SRun.nil ?_
  replace h := Option.some.inj h
  subst h
  exact (Le.sub' ([(4, .own 45), (5, vi x2.2.2.1), (6, vi x2.2.2.2), (7, .own 55), (8, vi x3.2), (11, vi x5.1), (14, .own 76), (15, vi x6.2), (18, vi x8.1), (22, vi x9.2.2), (26, vb x11.1), (27, vi x11.2), (30, .own 120), (31, vi x13.2), (193, vb true)] : List (Nat × SV)) ([(45, .arr 42 4 x2.2.1.length (x2.2.1.map eTie)), (55, .arr 2 1 x3.1.length (x3.1.map (eI .i64))), (76, .arr 42 4 x6.1.length (x6.1.map eTie)), (120, .arr 50 1 x13.1.length (x13.1.map (eL (eI .i64))))] : List (Nat × SO)) (by kernel_rfl) (by kernel_rfl)).trans ((Le.ren' (d := 45) (e := 4) (by kernel_rfl) (by kernel_rfl) (by kernel_rfl)).trans ((Le.ren' (d := 55) (e := 7) (by kernel_rfl) (by kernel_rfl) (by kernel_rfl)).trans ((Le.ren' (d := 76) (e := 14) (by kernel_rfl) (by kernel_rfl) (by kernel_rfl)).trans ((Le.ren' (d := 120) (e := 30) (by kernel_rfl) (by kernel_rfl) (by kernel_rfl)).trans (Le.sub0)))))
  replace h := cond_f hb h
  refine SRun.ck tbokF1 5 ⟨275, [(4, .own 45), (5, vi x2.2.2.1), (6, vi x2.2.2.2), (7, .own 55), (8, vi x3.2), (11, vi x5.1), (14, .own 76), (15, vi x6.2), (16, .own 83), (18, vi x8.1), (19, vl eTie x8.2), (20, vi x9.1), (21, .own 94), (22, vi x9.2.2), (23, vi x10.1), (24, .own 101), (25, vi x10.2.2), (26, vb x11.1), (27, vi x11.2), (28, vb x12.1), (29, vi x12.2), (30, .own 120), (31, vi x13.2), (32, .own 126), (33, vi x14.2), (143, vb (x6.2 != x7.2))], [(45, .arr 42 4 x2.2.1.length (x2.2.1.map eTie)), (55, .arr 2 1 x3.1.length (x3.1.map (eI .i64))), (76, .arr 42 4 x6.1.length (x6.1.map eTie)), (83, .arr 42 4 x7.1.length (x7.1.map eTie)), (94, .arr 2 1 x9.2.1.length (x9.2.1.map (eI .i64))), (101, .arr 2 1 x10.2.1.length (x10.2.1.map (eI .i64))), (120, .arr 50 1 x13.1.length (x13.1.map (eL (eI .i64)))), (126, .arr 50 1 x14.1.length (x14.1.map (eL (eI .i64))))]⟩ ?_
  refine SRun.cut [(143, fun b => b)] (b := (x6.2 != x7.2)) (by kernel_rfl) (fun hb => ?_) (fun hb => ?_)
  replace h := cond_t hb h
  refine SRun.ck tbokF1 50 ⟨275, [(4, .own 45), (5, vi x2.2.2.1), (6, vi x2.2.2.2), (7, .own 55), (8, vi x3.2), (11, vi x5.1), (14, .own 76), (15, vi x6.2), (18, vi x8.1), (22, vi x9.2.2), (26, vb x11.1), (27, vi x11.2), (30, .own 120), (31, vi x13.2), (193, vb true)], [(45, .arr 42 4 x2.2.1.length (x2.2.1.map eTie)), (55, .arr 2 1 x3.1.length (x3.1.map (eI .i64))), (76, .arr 42 4 x6.1.length (x6.1.map eTie)), (120, .arr 50 1 x13.1.length (x13.1.map (eL (eI .i64))))]⟩ ?_
  refine SRun.nil ?_
  replace h := Option.some.inj h
  subst h
  exact (Le.sub' ([(4, .own 45), (5, vi x2.2.2.1), (6, vi x2.2.2.2), (7, .own 55), (8, vi x3.2), (11, vi x5.1), (14, .own 76), (15, vi x6.2), (18, vi x8.1), (22, vi x9.2.2), (26, vb x11.1), (27, vi x11.2), (30, .own 120), (31, vi x13.2), (193, vb true)] : List (Nat × SV)) ([(45, .arr 42 4 x2.2.1.length (x2.2.1.map eTie)), (55, .arr 2 1 x3.1.length (x3.1.map (eI .i64))), (76, .arr 42 4 x6.1.length (x6.1.map eTie)), (120, .arr 50 1 x13.1.length (x13.1.map (eL (eI .i64))))] : List (Nat × SO)) (by kernel_rfl) (by kernel_rfl)).trans ((Le.ren' (d := 45) (e := 4) (by kernel_rfl) (by kernel_rfl) (by kernel_rfl)).trans ((Le.ren' (d := 55) (e := 7) (by kernel_rfl) (by kernel_rfl) (by kernel_rfl)).trans ((Le.ren' (d := 76) (e := 14) (by kernel_rfl) (by kernel_rfl) (by kernel_rfl)).trans ((Le.ren' (d := 120) (e := 30) (by kernel_rfl) (by kernel_rfl) (by kernel_rfl)).trans (Le.sub0)))))
  replace h := cond_f hb h
  refine SRun.ck tbokF1 2 ⟨275, [(4, .own 45), (5, vi x2.2.2.1), (6, vi x2.2.2.2), (7, .own 55), (8, vi x3.2), (11, vi x5.1), (14, .own 76), (15, vi x6.2), (18, vi x8.1), (19, vl eTie x8.2), (20, vi x9.1), (21, .own 94), (22, vi x9.2.2), (23, vi x10.1), (24, .own 101), (25, vi x10.2.2), (26, vb x11.1), (27, vi x11.2), (28, vb x12.1), (29, vi x12.2), (30, .own 120), (31, vi x13.2), (32, .own 126), (33, vi x14.2), (143, vb false), (144, .own 76), (145, .own 83)], [(45, .arr 42 4 x2.2.1.length (x2.2.1.map eTie)), (55, .arr 2 1 x3.1.length (x3.1.map (eI .i64))), (76, .arr 42 4 x6.1.length (x6.1.map eTie)), (83, .arr 42 4 x7.1.length (x7.1.map eTie)), (94, .arr 2 1 x9.2.1.length (x9.2.1.map (eI .i64))), (101, .arr 2 1 x10.2.1.length (x10.2.1.map (eI .i64))), (120, .arr 50 1 x13.1.length (x13.1.map (eL (eI .i64)))), (126, .arr 50 1 x14.1.length (x14.1.map (eL (eI .i64))))]⟩ ?_
  obtain ⟨x16, hx16, h⟩ := bind_some h
  refine SRun.ls (x_lstep_call (f := 48) (caps := []) (xs := [.own 76, .own 83]) (ys := [vl eTie x6.1, vl eTie x7.1]) (res := ⟨[.v (vb x16)], [], false⟩) (x := vb x16) (y := none) rfl ents48 (laws_likeTies_run x6.1 x7.1 _ hx16) rfl (by intro hc; cases hc)) ?_
  refine SRun.ck tbokF1 3 ⟨275, [(4, .own 45), (5, vi x2.2.2.1), (6, vi x2.2.2.2), (7, .own 55), (8, vi x3.2), (11, vi x5.1), (14, .own 76), (15, vi x6.2), (18, vi x8.1), (19, vl eTie x8.2), (20, vi x9.1), (21, .own 94), (22, vi x9.2.2), (23, vi x10.1), (24, .own 101), (25, vi x10.2.2), (26, vb x11.1), (27, vi x11.2), (28, vb x12.1), (29, vi x12.2), (30, .own 120), (31, vi x13.2), (32, .own 126), (33, vi x14.2), (149, vb (!x16))], [(45, .arr 42 4 x2.2.1.length (x2.2.1.map eTie)), (55, .arr 2 1 x3.1.length (x3.1.map (eI .i64))), (76, .arr 42 4 x6.1.length (x6.1.map eTie)), (94, .arr 2 1 x9.2.1.length (x9.2.1.map (eI .i64))), (101, .arr 2 1 x10.2.1.length (x10.2.1.map (eI .i64))), (120, .arr 50 1 x13.1.length (x13.1.map (eL (eI .i64)))), (126, .arr 50 1 x14.1.length (x14.1.map (eL (eI .i64))))]⟩ ?_
  refine SRun.cut [(149, fun b => b)] (b := (!x16)) (by kernel_rfl) (fun hb => ?_) (fun hb => ?_)
  replace h := cond_t hb h
  refine SRun.ck tbokF1 44 ⟨275, [(4, .own 45), (5, vi x2.2.2.1), (6, vi x2.2.2.2), (7, .own 55), (8, vi x3.2), (11, vi x5.1), (14, .own 76), (15, vi x6.2), (18, vi x8.1), (22, vi x9.2.2), (26, vb x11.1), (27, vi x11.2), (30, .own 120), (31, vi x13.2), (193, vb true)], [(45, .arr 42 4 x2.2.1.length (x2.2.1.map eTie)), (55, .arr 2 1 x3.1.length (x3.1.map (eI .i64))), (76, .arr 42 4 x6.1.length (x6.1.map eTie)), (120, .arr 50 1 x13.1.length (x13.1.map (eL (eI .i64))))]⟩ ?_
  refine SRun.nil ?_
  replace h := Option.some.inj h
  subst h
  exact (Le.sub' ([(4, .own 45), (5, vi x2.2.2.1), (6, vi x2.2.2.2), (7, .own 55), (8, vi x3.2), (11, vi x5.1), (14, .own 76), (15, vi x6.2), (18, vi x8.1), (22, vi x9.2.2), (26, vb x11.1), (27, vi x11.2), (30, .own 120), (31, vi x13.2), (193, vb true)] : List (Nat × SV)) ([(45, .arr 42 4 x2.2.1.length (x2.2.1.map eTie)), (55, .arr 2 1 x3.1.length (x3.1.map (eI .i64))), (76, .arr 42 4 x6.1.length (x6.1.map eTie)), (120, .arr 50 1 x13.1.length (x13.1.map (eL (eI .i64))))] : List (Nat × SO)) (by kernel_rfl) (by kernel_rfl)).trans ((Le.ren' (d := 45) (e := 4) (by kernel_rfl) (by kernel_rfl) (by kernel_rfl)).trans ((Le.ren' (d := 55) (e := 7) (by kernel_rfl) (by kernel_rfl) (by kernel_rfl)).trans ((Le.ren' (d := 76) (e := 14) (by kernel_rfl) (by kernel_rfl) (by kernel_rfl)).trans ((Le.ren' (d := 120) (e := 30) (by kernel_rfl) (by kernel_rfl) (by kernel_rfl)).trans (Le.sub0)))))
  replace h := cond_f hb h
  refine SRun.ck tbokF1 5 ⟨275, [(4, .own 45), (5, vi x2.2.2.1), (6, vi x2.2.2.2), (7, .own 55), (8, vi x3.2), (11, vi x5.1), (14, .own 76), (15, vi x6.2), (18, vi x8.1), (19, vl eTie x8.2), (20, vi x9.1), (21, .own 94), (22, vi x9.2.2), (23, vi x10.1), (24, .own 101), (26, vb x11.1), (27, vi x11.2), (28, vb x12.1), (29, vi x12.2), (30, .own 120), (31, vi x13.2), (32, .own 126), (33, vi x14.2), (154, vb (x9.2.2 != x10.2.2))], [(45, .arr 42 4 x2.2.1.length (x2.2.1.map eTie)), (55, .arr 2 1 x3.1.length (x3.1.map (eI .i64))), (76, .arr 42 4 x6.1.length (x6.1.map eTie)), (94, .arr 2 1 x9.2.1.length (x9.2.1.map (eI .i64))), (101, .arr 2 1 x10.2.1.length (x10.2.1.map (eI .i64))), (120, .arr 50 1 x13.1.length (x13.1.map (eL (eI .i64)))), (126, .arr 50 1 x14.1.length (x14.1.map (eL (eI .i64))))]⟩ ?_
  refine SRun.cut [(154, fun b => b)] (b := (x9.2.2 != x10.2.2)) (by kernel_rfl) (fun hb => ?_) (fun hb => ?_)
  replace h := cond_t hb h
  refine SRun.ck tbokF1 39 ⟨275, [(4, .own 45), (5, vi x2.2.2.1), (6, vi x2.2.2.2), (7, .own 55), (8, vi x3.2), (11, vi x5.1), (14, .own 76), (15, vi x6.2), (18, vi x8.1), (22, vi x9.2.2), (26, vb x11.1), (27, vi x11.2), (30, .own 120), (31, vi x13.2), (193, vb true)], [(45, .arr 42 4 x2.2.1.length (x2.2.1.map eTie)), (55, .arr 2 1 x3.1.length (x3.1.map (eI .i64))), (76, .arr 42 4 x6.1.length (x6.1.map eTie)), (120, .arr 50 1 x13.1.length (x13.1.map (eL (eI .i64))))]⟩ ?_
  refine SRun.nil ?_
  replace h := Option.some.inj h
  subst h
  exact (Le.sub' ([(4, .own 45), (5, vi x2.2.2.1), (6, vi x2.2.2.2), (7, .own 55), (8, vi x3.2), (11, vi x5.1), (14, .own 76), (15, vi x6.2), (18, vi x8.1), (22, vi x9.2.2), (26, vb x11.1), (27, vi x11.2), (30, .own 120), (31, vi x13.2), (193, vb true)] : List (Nat × SV)) ([(45, .arr 42 4 x2.2.1.length (x2.2.1.map eTie)), (55, .arr 2 1 x3.1.length (x3.1.map (eI .i64))), (76, .arr 42 4 x6.1.length (x6.1.map eTie)), (120, .arr 50 1 x13.1.length (x13.1.map (eL (eI .i64))))] : List (Nat × SO)) (by kernel_rfl) (by kernel_rfl)).trans ((Le.ren' (d := 45) (e := 4) (by kernel_rfl) (by kernel_rfl) (by kernel_rfl)).trans ((Le.ren' (d := 55) (e := 7) (by kernel_rfl) (by kernel_rfl) (by kernel_rfl)).trans ((Le.ren' (d := 76) (e := 14) (by kernel_rfl) (by kernel_rfl) (by kernel_rfl)).trans ((Le.ren' (d := 120) (e := 30) (by kernel_rfl) (by kernel_rfl) (by kernel_rfl)).trans (Le.sub0)))))
  replace h := cond_f hb h
  refine SRun.ck tbokF1 5 ⟨275, [(4, .own 45), (5, vi x2.2.2.1), (6, vi x2.2.2.2), (7, .own 55), (8, vi x3.2), (11, vi x5.1), (14, .own 76), (15, vi x6.2), (18, vi x8.1), (19, vl eTie x8.2), (21, .own 94), (22, vi x9.2.2), (24, .own 101), (26, vb x11.1), (27, vi x11.2), (28, vb x12.1), (29, vi x12.2), (30, .own 120), (31, vi x13.2), (32, .own 126), (33, vi x14.2), (159, vb (x9.1 != x10.1))], [(45, .arr 42 4 x2.2.1.length (x2.2.1.map eTie)), (55, .arr 2 1 x3.1.length (x3.1.map (eI .i64))), (76, .arr 42 4 x6.1.length (x6.1.map eTie)), (94, .arr 2 1 x9.2.1.length (x9.2.1.map (eI .i64))), (101, .arr 2 1 x10.2.1.length (x10.2.1.map (eI .i64))), (120, .arr 50 1 x13.1.length (x13.1.map (eL (eI .i64)))), (126, .arr 50 1 x14.1.length (x14.1.map (eL (eI .i64))))]⟩ ?_
  refine SRun.cut [(159, fun b => b)] (b := (x9.1 != x10.1)) (by kernel_rfl) (fun hb => ?_) (fun hb => ?_)
  replace h := cond_t hb h
  refine SRun.ck tbokF1 34 ⟨275, [(4, .own 45), (5, vi x2.2.2.1), (6, vi x2.2.2.2), (7, .own 55), (8, vi x3.2), (11, vi x5.1), (14, .own 76), (15, vi x6.2), (18, vi x8.1), (22, vi x9.2.2), (26, vb x11.1), (27, vi x11.2), (30, .own 120), (31, vi x13.2), (193, vb true)], [(45, .arr 42 4 x2.2.1.length (x2.2.1.map eTie)), (55, .arr 2 1 x3.1.length (x3.1.map (eI .i64))), (76, .arr 42 4 x6.1.length (x6.1.map eTie)), (120, .arr 50 1 x13.1.length (x13.1.map (eL (eI .i64))))]⟩ ?_
  refine SRun.nil ?_
  replace h := Option.some.inj h
  subst h
  exact (Le.sub' ([(4, .own 45), (5, vi x2.2.2.1), (6, vi x2.2.2.2), (7, .own 55), (8, vi x3.2), (11, vi x5.1), (14, .own 76), (15, vi x6.2), (18, vi x8.1), (22, vi x9.2.2), (26, vb x11.1), (27, vi x11.2), (30, .own 120), (31, vi x13.2), (193, vb true)] : List (Nat × SV)) ([(45, .arr 42 4 x2.2.1.length (x2.2.1.map eTie)), (55, .arr 2 1 x3.1.length (x3.1.map (eI .i64))), (76, .arr 42 4 x6.1.length (x6.1.map eTie)), (120, .arr 50 1 x13.1.length (x13.1.map (eL (eI .i64))))] : List (Nat × SO)) (by kernel_rfl) (by kernel_rfl)).trans ((Le.ren' (d := 45) (e := 4) (by kernel_rfl) (by kernel_rfl) (by kernel_rfl)).trans ((Le.ren' (d := 55) (e := 7) (by kernel_rfl) (by kernel_rfl) (by kernel_rfl)).trans ((Le.ren' (d := 76) (e := 14) (by kernel_rfl) (by kernel_rfl) (by kernel_rfl)).trans ((Le.ren' (d := 120) (e := 30) (by kernel_rfl) (by kernel_rfl) (by kernel_rfl)).trans (Le.sub0)))))
  replace h := cond_f hb h
  refine SRun.ck tbokF1 2 ⟨275, [(4, .own 45), (5, vi x2.2.2.1), (6, vi x2.2.2.2), (7, .own 55), (8, vi x3.2), (11, vi x5.1), (14, .own 76), (15, vi x6.2), (18, vi x8.1), (19, vl eTie x8.2), (22, vi x9.2.2), (26, vb x11.1), (27, vi x11.2), (28, vb x12.1), (29, vi x12.2), (30, .own 120), (31, vi x13.2), (32, .own 126), (33, vi x14.2), (159, vb false), (160, .own 94), (161, .own 101)], [(45, .arr 42 4 x2.2.1.length (x2.2.1.map eTie)), (55, .arr 2 1 x3.1.length (x3.1.map (eI .i64))), (76, .arr 42 4 x6.1.length (x6.1.map eTie)), (94, .arr 2 1 x9.2.1.length (x9.2.1.map (eI .i64))), (101, .arr 2 1 x10.2.1.length (x10.2.1.map (eI .i64))), (120, .arr 50 1 x13.1.length (x13.1.map (eL (eI .i64)))), (126, .arr 50 1 x14.1.length (x14.1.map (eL (eI .i64))))]⟩ ?_
  obtain ⟨x17, hx17, h⟩ := bind_some h
  refine SRun.ls (x_lstep_call (f := 52) (caps := []) (xs := [.own 94, .own 101]) (ys := [vl (eI .i64) x9.2.1, vl (eI .i64) x10.2.1]) (res := ⟨[.v (vb x17)], [], false⟩) (x := vb x17) (y := none) rfl ents52 (laws_likeInts_run x9.2.1 x10.2.1 _ hx17) rfl (by intro hc; cases hc)) ?_
  refine SRun.ck tbokF1 3 ⟨275, [(4, .own 45), (5, vi x2.2.2.1), (6, vi x2.2.2.2), (7, .own 55), (8, vi x3.2), (11, vi x5.1), (14, .own 76), (15, vi x6.2), (18, vi x8.1), (19, vl eTie x8.2), (22, vi x9.2.2), (26, vb x11.1), (27, vi x11.2), (28, vb x12.1), (29, vi x12.2), (30, .own 120), (31, vi x13.2), (32, .own 126), (33, vi x14.2), (165, vb (!x17))], [(45, .arr 42 4 x2.2.1.length (x2.2.1.map eTie)), (55, .arr 2 1 x3.1.length (x3.1.map (eI .i64))), (76, .arr 42 4 x6.1.length (x6.1.map eTie)), (120, .arr 50 1 x13.1.length (x13.1.map (eL (eI .i64)))), (126, .arr 50 1 x14.1.length (x14.1.map (eL (eI .i64))))]⟩ ?_
  refine SRun.cut [(165, fun b => b)] (b := (!x17)) (by kernel_rfl) (fun hb => ?_) (fun hb => ?_)
  replace h := cond_t hb h
  refine SRun.ck tbokF1 28 ⟨275, [(4, .own 45), (5, vi x2.2.2.1), (6, vi x2.2.2.2), (7, .own 55), (8, vi x3.2), (11, vi x5.1), (14, .own 76), (15, vi x6.2), (18, vi x8.1), (22, vi x9.2.2), (26, vb x11.1), (27, vi x11.2), (30, .own 120), (31, vi x13.2), (193, vb true)], [(45, .arr 42 4 x2.2.1.length (x2.2.1.map eTie)), (55, .arr 2 1 x3.1.length (x3.1.map (eI .i64))), (76, .arr 42 4 x6.1.length (x6.1.map eTie)), (120, .arr 50 1 x13.1.length (x13.1.map (eL (eI .i64))))]⟩ ?_
  refine SRun.nil ?_
  replace h := Option.some.inj h
  subst h
  exact (Le.sub' ([(4, .own 45), (5, vi x2.2.2.1), (6, vi x2.2.2.2), (7, .own 55), (8, vi x3.2), (11, vi x5.1), (14, .own 76), (15, vi x6.2), (18, vi x8.1), (22, vi x9.2.2), (26, vb x11.1), (27, vi x11.2), (30, .own 120), (31, vi x13.2), (193, vb true)] : List (Nat × SV)) ([(45, .arr 42 4 x2.2.1.length (x2.2.1.map eTie)), (55, .arr 2 1 x3.1.length (x3.1.map (eI .i64))), (76, .arr 42 4 x6.1.length (x6.1.map eTie)), (120, .arr 50 1 x13.1.length (x13.1.map (eL (eI .i64))))] : List (Nat × SO)) (by kernel_rfl) (by kernel_rfl)).trans ((Le.ren' (d := 45) (e := 4) (by kernel_rfl) (by kernel_rfl) (by kernel_rfl)).trans ((Le.ren' (d := 55) (e := 7) (by kernel_rfl) (by kernel_rfl) (by kernel_rfl)).trans ((Le.ren' (d := 76) (e := 14) (by kernel_rfl) (by kernel_rfl) (by kernel_rfl)).trans ((Le.ren' (d := 120) (e := 30) (by kernel_rfl) (by kernel_rfl) (by kernel_rfl)).trans (Le.sub0)))))
  replace h := cond_f hb h
  refine SRun.ck tbokF1 5 ⟨275, [(4, .own 45), (5, vi x2.2.2.1), (6, vi x2.2.2.2), (7, .own 55), (8, vi x3.2), (11, vi x5.1), (14, .own 76), (15, vi x6.2), (18, vi x8.1), (19, vl eTie x8.2), (22, vi x9.2.2), (26, vb x11.1), (27, vi x11.2), (28, vb x12.1), (29, vi x12.2), (30, .own 120), (31, vi x13.2), (32, .own 126), (33, vi x14.2), (170, vb (x11.2 != x12.2))], [(45, .arr 42 4 x2.2.1.length (x2.2.1.map eTie)), (55, .arr 2 1 x3.1.length (x3.1.map (eI .i64))), (76, .arr 42 4 x6.1.length (x6.1.map eTie)), (120, .arr 50 1 x13.1.length (x13.1.map (eL (eI .i64)))), (126, .arr 50 1 x14.1.length (x14.1.map (eL (eI .i64))))]⟩ ?_
  refine SRun.cut [(170, fun b => b)] (b := (x11.2 != x12.2)) (by kernel_rfl) (fun hb => ?_) (fun hb => ?_)
  replace h := cond_t hb h
  refine SRun.ck tbokF1 23 ⟨275, [(4, .own 45), (5, vi x2.2.2.1), (6, vi x2.2.2.2), (7, .own 55), (8, vi x3.2), (11, vi x5.1), (14, .own 76), (15, vi x6.2), (18, vi x8.1), (22, vi x9.2.2), (26, vb x11.1), (27, vi x11.2), (30, .own 120), (31, vi x13.2), (193, vb true)], [(45, .arr 42 4 x2.2.1.length (x2.2.1.map eTie)), (55, .arr 2 1 x3.1.length (x3.1.map (eI .i64))), (76, .arr 42 4 x6.1.length (x6.1.map eTie)), (120, .arr 50 1 x13.1.length (x13.1.map (eL (eI .i64))))]⟩ ?_
  refine SRun.nil ?_
  replace h := Option.some.inj h
  subst h
  exact (Le.sub' ([(4, .own 45), (5, vi x2.2.2.1), (6, vi x2.2.2.2), (7, .own 55), (8, vi x3.2), (11, vi x5.1), (14, .own 76), (15, vi x6.2), (18, vi x8.1), (22, vi x9.2.2), (26, vb x11.1), (27, vi x11.2), (30, .own 120), (31, vi x13.2), (193, vb true)] : List (Nat × SV)) ([(45, .arr 42 4 x2.2.1.length (x2.2.1.map eTie)), (55, .arr 2 1 x3.1.length (x3.1.map (eI .i64))), (76, .arr 42 4 x6.1.length (x6.1.map eTie)), (120, .arr 50 1 x13.1.length (x13.1.map (eL (eI .i64))))] : List (Nat × SO)) (by kernel_rfl) (by kernel_rfl)).trans ((Le.ren' (d := 45) (e := 4) (by kernel_rfl) (by kernel_rfl) (by kernel_rfl)).trans ((Le.ren' (d := 55) (e := 7) (by kernel_rfl) (by kernel_rfl) (by kernel_rfl)).trans ((Le.ren' (d := 76) (e := 14) (by kernel_rfl) (by kernel_rfl) (by kernel_rfl)).trans ((Le.ren' (d := 120) (e := 30) (by kernel_rfl) (by kernel_rfl) (by kernel_rfl)).trans (Le.sub0)))))
  replace h := cond_f hb h
  refine SRun.ck tbokF1 2 ⟨275, [(4, .own 45), (5, vi x2.2.2.1), (6, vi x2.2.2.2), (7, .own 55), (8, vi x3.2), (11, vi x5.1), (14, .own 76), (15, vi x6.2), (18, vi x8.1), (19, vl eTie x8.2), (22, vi x9.2.2), (26, vb x11.1), (27, vi x11.2), (29, vi x12.2), (30, .own 120), (31, vi x13.2), (32, .own 126), (33, vi x14.2), (170, vb false), (171, vb x11.1), (172, vb x12.1)], [(45, .arr 42 4 x2.2.1.length (x2.2.1.map eTie)), (55, .arr 2 1 x3.1.length (x3.1.map (eI .i64))), (76, .arr 42 4 x6.1.length (x6.1.map eTie)), (120, .arr 50 1 x13.1.length (x13.1.map (eL (eI .i64)))), (126, .arr 50 1 x14.1.length (x14.1.map (eL (eI .i64))))]⟩ ?_
  refine SRun.ls (x_lstep_eqb tbokF1 (ti := ti4) (i := x11.1) (j := x12.1) true rfl) ?_
  refine SRun.ck tbokF1 2 ⟨275, [(4, .own 45), (5, vi x2.2.2.1), (6, vi x2.2.2.2), (7, .own 55), (8, vi x3.2), (11, vi x5.1), (14, .own 76), (15, vi x6.2), (18, vi x8.1), (19, vl eTie x8.2), (22, vi x9.2.2), (26, vb x11.1), (27, vi x11.2), (29, vi x12.2), (30, .own 120), (31, vi x13.2), (32, .own 126), (33, vi x14.2), (175, vb (!(x11.1 == x12.1)))], [(45, .arr 42 4 x2.2.1.length (x2.2.1.map eTie)), (55, .arr 2 1 x3.1.length (x3.1.map (eI .i64))), (76, .arr 42 4 x6.1.length (x6.1.map eTie)), (120, .arr 50 1 x13.1.length (x13.1.map (eL (eI .i64)))), (126, .arr 50 1 x14.1.length (x14.1.map (eL (eI .i64))))]⟩ ?_
  refine SRun.cut [(175, fun b => b)] (b := (!(x11.1 == x12.1))) (by kernel_rfl) (fun hb => ?_) (fun hb => ?_)
  replace h := cond_t hb h
  refine SRun.ck tbokF1 18 ⟨275, [(4, .own 45), (5, vi x2.2.2.1), (6, vi x2.2.2.2), (7, .own 55), (8, vi x3.2), (11, vi x5.1), (14, .own 76), (15, vi x6.2), (18, vi x8.1), (22, vi x9.2.2), (26, vb x11.1), (27, vi x11.2), (30, .own 120), (31, vi x13.2), (193, vb true)], [(45, .arr 42 4 x2.2.1.length (x2.2.1.map eTie)), (55, .arr 2 1 x3.1.length (x3.1.map (eI .i64))), (76, .arr 42 4 x6.1.length (x6.1.map eTie)), (120, .arr 50 1 x13.1.length (x13.1.map (eL (eI .i64))))]⟩ ?_
  refine SRun.nil ?_
  replace h := Option.some.inj h
  subst h
  exact (Le.sub' ([(4, .own 45), (5, vi x2.2.2.1), (6, vi x2.2.2.2), (7, .own 55), (8, vi x3.2), (11, vi x5.1), (14, .own 76), (15, vi x6.2), (18, vi x8.1), (22, vi x9.2.2), (26, vb x11.1), (27, vi x11.2), (30, .own 120), (31, vi x13.2), (193, vb true)] : List (Nat × SV)) ([(45, .arr 42 4 x2.2.1.length (x2.2.1.map eTie)), (55, .arr 2 1 x3.1.length (x3.1.map (eI .i64))), (76, .arr 42 4 x6.1.length (x6.1.map eTie)), (120, .arr 50 1 x13.1.length (x13.1.map (eL (eI .i64))))] : List (Nat × SO)) (by kernel_rfl) (by kernel_rfl)).trans ((Le.ren' (d := 45) (e := 4) (by kernel_rfl) (by kernel_rfl) (by kernel_rfl)).trans ((Le.ren' (d := 55) (e := 7) (by kernel_rfl) (by kernel_rfl) (by kernel_rfl)).trans ((Le.ren' (d := 76) (e := 14) (by kernel_rfl) (by kernel_rfl) (by kernel_rfl)).trans ((Le.ren' (d := 120) (e := 30) (by kernel_rfl) (by kernel_rfl) (by kernel_rfl)).trans (Le.sub0)))))
  replace h := cond_f hb h
  refine SRun.ck tbokF1 5 ⟨275, [(4, .own 45), (5, vi x2.2.2.1), (6, vi x2.2.2.2), (7, .own 55), (8, vi x3.2), (11, vi x5.1), (14, .own 76), (15, vi x6.2), (18, vi x8.1), (19, vl eTie x8.2), (22, vi x9.2.2), (26, vb x11.1), (27, vi x11.2), (29, vi x12.2), (30, .own 120), (31, vi x13.2), (32, .own 126), (180, vb (x13.2 != x14.2))], [(45, .arr 42 4 x2.2.1.length (x2.2.1.map eTie)), (55, .arr 2 1 x3.1.length (x3.1.map (eI .i64))), (76, .arr 42 4 x6.1.length (x6.1.map eTie)), (120, .arr 50 1 x13.1.length (x13.1.map (eL (eI .i64)))), (126, .arr 50 1 x14.1.length (x14.1.map (eL (eI .i64))))]⟩ ?_
  refine SRun.cut [(180, fun b => b)] (b := (x13.2 != x14.2)) (by kernel_rfl) (fun hb => ?_) (fun hb => ?_)
  replace h := cond_t hb h
  refine SRun.ck tbokF1 13 ⟨275, [(4, .own 45), (5, vi x2.2.2.1), (6, vi x2.2.2.2), (7, .own 55), (8, vi x3.2), (11, vi x5.1), (14, .own 76), (15, vi x6.2), (18, vi x8.1), (22, vi x9.2.2), (26, vb x11.1), (27, vi x11.2), (30, .own 120), (31, vi x13.2), (193, vb true)], [(45, .arr 42 4 x2.2.1.length (x2.2.1.map eTie)), (55, .arr 2 1 x3.1.length (x3.1.map (eI .i64))), (76, .arr 42 4 x6.1.length (x6.1.map eTie)), (120, .arr 50 1 x13.1.length (x13.1.map (eL (eI .i64))))]⟩ ?_
  refine SRun.nil ?_
  replace h := Option.some.inj h
  subst h
  exact (Le.sub' ([(4, .own 45), (5, vi x2.2.2.1), (6, vi x2.2.2.2), (7, .own 55), (8, vi x3.2), (11, vi x5.1), (14, .own 76), (15, vi x6.2), (18, vi x8.1), (22, vi x9.2.2), (26, vb x11.1), (27, vi x11.2), (30, .own 120), (31, vi x13.2), (193, vb true)] : List (Nat × SV)) ([(45, .arr 42 4 x2.2.1.length (x2.2.1.map eTie)), (55, .arr 2 1 x3.1.length (x3.1.map (eI .i64))), (76, .arr 42 4 x6.1.length (x6.1.map eTie)), (120, .arr 50 1 x13.1.length (x13.1.map (eL (eI .i64))))] : List (Nat × SO)) (by kernel_rfl) (by kernel_rfl)).trans ((Le.ren' (d := 45) (e := 4) (by kernel_rfl) (by kernel_rfl) (by kernel_rfl)).trans ((Le.ren' (d := 55) (e := 7) (by kernel_rfl) (by kernel_rfl) (by kernel_rfl)).trans ((Le.ren' (d := 76) (e := 14) (by kernel_rfl) (by kernel_rfl) (by kernel_rfl)).trans ((Le.ren' (d := 120) (e := 30) (by kernel_rfl) (by kernel_rfl) (by kernel_rfl)).trans (Le.sub0)))))
  replace h := cond_f hb h
  refine SRun.ck tbokF1 2 ⟨275, [(4, .own 45), (5, vi x2.2.2.1), (6, vi x2.2.2.2), (7, .own 55), (8, vi x3.2), (11, vi x5.1), (14, .own 76), (15, vi x6.2), (18, vi x8.1), (19, vl eTie x8.2), (22, vi x9.2.2), (26, vb x11.1), (27, vi x11.2), (29, vi x12.2), (30, .own 120), (31, vi x13.2), (180, vb false), (181, .own 120), (182, .own 126)], [(45, .arr 42 4 x2.2.1.length (x2.2.1.map eTie)), (55, .arr 2 1 x3.1.length (x3.1.map (eI .i64))), (76, .arr 42 4 x6.1.length (x6.1.map eTie)), (120, .arr 50 1 x13.1.length (x13.1.map (eL (eI .i64)))), (126, .arr 50 1 x14.1.length (x14.1.map (eL (eI .i64))))]⟩ ?_
  obtain ⟨x18, hx18, h⟩ := bind_some h
  refine SRun.ls (x_lstep_call (f := 53) (caps := []) (xs := [.own 120, .own 126]) (ys := [vl (eL (eI .i64)) x13.1, vl (eL (eI .i64)) x14.1]) (res := ⟨[.v (vb x18)], [], false⟩) (x := vb x18) (y := none) rfl ents53 (laws_likeTables_run x13.1 x14.1 _ hx18) rfl (by intro hc; cases hc)) ?_
  refine SRun.ck tbokF1 3 ⟨275, [(4, .own 45), (5, vi x2.2.2.1), (6, vi x2.2.2.2), (7, .own 55), (8, vi x3.2), (11, vi x5.1), (14, .own 76), (15, vi x6.2), (18, vi x8.1), (19, vl eTie x8.2), (22, vi x9.2.2), (26, vb x11.1), (27, vi x11.2), (29, vi x12.2), (30, .own 120), (31, vi x13.2), (186, vb (!x18))], [(45, .arr 42 4 x2.2.1.length (x2.2.1.map eTie)), (55, .arr 2 1 x3.1.length (x3.1.map (eI .i64))), (76, .arr 42 4 x6.1.length (x6.1.map eTie)), (120, .arr 50 1 x13.1.length (x13.1.map (eL (eI .i64))))]⟩ ?_
  refine SRun.cut [(186, fun b => b)] (b := (!x18)) (by kernel_rfl) (fun hb => ?_) (fun hb => ?_)
  replace h := cond_t hb h
  refine SRun.ck tbokF1 7 ⟨275, [(4, .own 45), (5, vi x2.2.2.1), (6, vi x2.2.2.2), (7, .own 55), (8, vi x3.2), (11, vi x5.1), (14, .own 76), (15, vi x6.2), (18, vi x8.1), (22, vi x9.2.2), (26, vb x11.1), (27, vi x11.2), (30, .own 120), (31, vi x13.2), (193, vb true)], [(45, .arr 42 4 x2.2.1.length (x2.2.1.map eTie)), (55, .arr 2 1 x3.1.length (x3.1.map (eI .i64))), (76, .arr 42 4 x6.1.length (x6.1.map eTie)), (120, .arr 50 1 x13.1.length (x13.1.map (eL (eI .i64))))]⟩ ?_
  refine SRun.nil ?_
  replace h := Option.some.inj h
  subst h
  exact (Le.sub' ([(4, .own 45), (5, vi x2.2.2.1), (6, vi x2.2.2.2), (7, .own 55), (8, vi x3.2), (11, vi x5.1), (14, .own 76), (15, vi x6.2), (18, vi x8.1), (22, vi x9.2.2), (26, vb x11.1), (27, vi x11.2), (30, .own 120), (31, vi x13.2), (193, vb true)] : List (Nat × SV)) ([(45, .arr 42 4 x2.2.1.length (x2.2.1.map eTie)), (55, .arr 2 1 x3.1.length (x3.1.map (eI .i64))), (76, .arr 42 4 x6.1.length (x6.1.map eTie)), (120, .arr 50 1 x13.1.length (x13.1.map (eL (eI .i64))))] : List (Nat × SO)) (by kernel_rfl) (by kernel_rfl)).trans ((Le.ren' (d := 45) (e := 4) (by kernel_rfl) (by kernel_rfl) (by kernel_rfl)).trans ((Le.ren' (d := 55) (e := 7) (by kernel_rfl) (by kernel_rfl) (by kernel_rfl)).trans ((Le.ren' (d := 76) (e := 14) (by kernel_rfl) (by kernel_rfl) (by kernel_rfl)).trans ((Le.ren' (d := 120) (e := 30) (by kernel_rfl) (by kernel_rfl) (by kernel_rfl)).trans (Le.sub0)))))
  replace h := cond_f hb h
  refine SRun.ck tbokF1 2 ⟨275, [(4, .own 45), (5, vi x2.2.2.1), (6, vi x2.2.2.2), (7, .own 55), (8, vi x3.2), (11, vi x5.1), (14, .own 76), (15, vi x6.2), (18, vi x8.1), (22, vi x9.2.2), (26, vb x11.1), (27, vi x11.2), (29, vi x12.2), (30, .own 120), (31, vi x13.2), (186, vb false), (187, vi x8.1), (188, vl eTie x8.2)], [(45, .arr 42 4 x2.2.1.length (x2.2.1.map eTie)), (55, .arr 2 1 x3.1.length (x3.1.map (eI .i64))), (76, .arr 42 4 x6.1.length (x6.1.map eTie)), (120, .arr 50 1 x13.1.length (x13.1.map (eL (eI .i64))))]⟩ ?_
  obtain ⟨x19, hx19, h⟩ := bind_some h
  refine SRun.ls (x_lstep_call (f := 17) (caps := []) (xs := [vi x8.1, vl eTie x8.2]) (ys := [vi x8.1, vl eTie x8.2]) (res := ⟨[.v (vb x19)], [], false⟩) (x := vb x19) (y := none) rfl ents17 (impl_AreTies_run x8.1 x8.2 _ hx19) rfl (by intro hc; cases hc)) ?_
  refine SRun.ck tbokF1 2 ⟨275, [(4, .own 45), (5, vi x2.2.2.1), (6, vi x2.2.2.2), (7, .own 55), (8, vi x3.2), (11, vi x5.1), (14, .own 76), (15, vi x6.2), (18, vi x8.1), (22, vi x9.2.2), (26, vb x11.1), (27, vi x11.2), (30, .own 120), (31, vi x13.2), (186, vb false), (189, vb x19), (191, vb (x12.2 == 0))], [(45, .arr 42 4 x2.2.1.length (x2.2.1.map eTie)), (55, .arr 2 1 x3.1.length (x3.1.map (eI .i64))), (76, .arr 42 4 x6.1.length (x6.1.map eTie)), (120, .arr 50 1 x13.1.length (x13.1.map (eL (eI .i64))))]⟩ ?_
  refine SRun.ls (x_lstep_eqb tbokF1 (ti := ti4) (i := x19) (j := (x12.2 == 0)) true rfl) ?_
  refine SRun.ck tbokF1 1 ⟨275, [(4, .own 45), (5, vi x2.2.2.1), (6, vi x2.2.2.2), (7, .own 55), (8, vi x3.2), (11, vi x5.1), (14, .own 76), (15, vi x6.2), (18, vi x8.1), (22, vi x9.2.2), (26, vb x11.1), (27, vi x11.2), (30, .own 120), (31, vi x13.2), (193, vb (!(x19 == (x12.2 == 0))))], [(45, .arr 42 4 x2.2.1.length (x2.2.1.map eTie)), (55, .arr 2 1 x3.1.length (x3.1.map (eI .i64))), (76, .arr 42 4 x6.1.length (x6.1.map eTie)), (120, .arr 50 1 x13.1.length (x13.1.map (eL (eI .i64))))]⟩ ?_
  refine SRun.nil ?_
  replace h := Option.some.inj h
  subst h
  exact (Le.sub' ([(4, .own 45), (5, vi x2.2.2.1), (6, vi x2.2.2.2), (7, .own 55), (8, vi x3.2), (11, vi x5.1), (14, .own 76), (15, vi x6.2), (18, vi x8.1), (22, vi x9.2.2), (26, vb x11.1), (27, vi x11.2), (30, .own 120), (31, vi x13.2), (193, vb (!(x19 == (x12.2 == 0))))] : List (Nat × SV)) ([(45, .arr 42 4 x2.2.1.length (x2.2.1.map eTie)), (55, .arr 2 1 x3.1.length (x3.1.map (eI .i64))), (76, .arr 42 4 x6.1.length (x6.1.map eTie)), (120, .arr 50 1 x13.1.length (x13.1.map (eL (eI .i64))))] : List (Nat × SO)) (by kernel_rfl) (by kernel_rfl)).trans ((Le.ren' (d := 45) (e := 4) (by kernel_rfl) (by kernel_rfl) (by kernel_rfl)).trans ((Le.ren' (d := 55) (e := 7) (by kernel_rfl) (by kernel_rfl) (by kernel_rfl)).trans ((Le.ren' (d := 76) (e := 14) (by kernel_rfl) (by kernel_rfl) (by kernel_rfl)).trans ((Le.ren' (d := 120) (e := 30) (by kernel_rfl) (by kernel_rfl) (by kernel_rfl)).trans (Le.sub0)))))
  refine swp_cond (b := j20) (by kernel_rfl) (fun hb => ?_) (fun hb => ?_)
  replace h := cond_t hb h
  refine swp_seq ?_
  refine swp_reg ?_
  refine SRun.ck tbokF1 1 ⟨275, [(2, vb false)], []⟩ ?_
  refine SRun.nil ?_
  refine nx_n ?_
  refine swp_ret ?_
  replace h := Option.some.inj h
  subst h
  exact nx_r (q_fr (fin1 (by kernel_rfl) (finV rfl SV.flat_of (holds_t (by kernel_rfl)))))
  replace h := cond_f hb h
  refine swp_skip ?_
  refine nx_n ?_
  refine swp_seq ?_
  refine swp_seq ?_
  refine swp_regP ⟨275, [(4, .own 4), (5, vi x2.2.2.1), (6, vi x2.2.2.2), (7, .own 7), (8, vi x3.2), (11, vi x5.1), (14, .own 14), (15, vi x6.2), (18, vi x8.1), (30, .own 30), (31, vi x13.2), (201, vb ((x11.2 == 0) && (!(x11.1 == (x9.2.2 == 4)))))], [(4, .arr 42 4 x2.2.1.length (x2.2.1.map eTie)), (7, .arr 2 1 x3.1.length (x3.1.map (eI .i64))), (14, .arr 42 4 x6.1.length (x6.1.map eTie)), (30, .arr 50 1 x13.1.length (x13.1.map (eL (eI .i64))))]⟩ ?_ ?_
  refine SRun.ck tbokF1 3 ⟨275, [(4, .own 4), (5, vi x2.2.2.1), (6, vi x2.2.2.2), (7, .own 7), (8, vi x3.2), (11, vi x5.1), (14, .own 14), (15, vi x6.2), (18, vi x8.1), (22, vi x9.2.2), (26, vb x11.1), (30, .own 30), (31, vi x13.2), (196, vb (x11.2 == 0))], [(4, .arr 42 4 x2.2.1.length (x2.2.1.map eTie)), (7, .arr 2 1 x3.1.length (x3.1.map (eI .i64))), (14, .arr 42 4 x6.1.length (x6.1.map eTie)), (30, .arr 50 1 x13.1.length (x13.1.map (eL (eI .i64))))]⟩ ?_
  generalize (x11.2 == 0) = bb
  cases bb
  refine SRun.ck tbokF1 5 ⟨275, [(4, .own 4), (5, vi x2.2.2.1), (6, vi x2.2.2.2), (7, .own 7), (8, vi x3.2), (11, vi x5.1), (14, .own 14), (15, vi x6.2), (18, vi x8.1), (30, .own 30), (31, vi x13.2), (201, vb false)], [(4, .arr 42 4 x2.2.1.length (x2.2.1.map eTie)), (7, .arr 2 1 x3.1.length (x3.1.map (eI .i64))), (14, .arr 42 4 x6.1.length (x6.1.map eTie)), (30, .arr 50 1 x13.1.length (x13.1.map (eL (eI .i64))))]⟩ ?_
  exact SRun.nil (Le.sub0)
  refine SRun.ck tbokF1 3 ⟨275, [(4, .own 4), (5, vi x2.2.2.1), (6, vi x2.2.2.2), (7, .own 7), (8, vi x3.2), (11, vi x5.1), (14, .own 14), (15, vi x6.2), (18, vi x8.1), (30, .own 30), (31, vi x13.2), (196, vb true), (197, vb x11.1), (199, vb (x9.2.2 == 4))], [(4, .arr 42 4 x2.2.1.length (x2.2.1.map eTie)), (7, .arr 2 1 x3.1.length (x3.1.map (eI .i64))), (14, .arr 42 4 x6.1.length (x6.1.map eTie)), (30, .arr 50 1 x13.1.length (x13.1.map (eL (eI .i64))))]⟩ ?_
  refine SRun.ls (x_lstep_eqb tbokF1 (ti := ti4) (i := x11.1) (j := (x9.2.2 == 4)) true rfl) ?_
  refine SRun.ck tbokF1 1 ⟨275, [(4, .own 4), (5, vi x2.2.2.1), (6, vi x2.2.2.2), (7, .own 7), (8, vi x3.2), (11, vi x5.1), (14, .own 14), (15, vi x6.2), (18, vi x8.1), (30, .own 30), (31, vi x13.2), (201, vb (!(x11.1 == (x9.2.2 == 4))))], [(4, .arr 42 4 x2.2.1.length (x2.2.1.map eTie)), (7, .arr 2 1 x3.1.length (x3.1.map (eI .i64))), (14, .arr 42 4 x6.1.length (x6.1.map eTie)), (30, .arr 50 1 x13.1.length (x13.1.map (eL (eI .i64))))]⟩ ?_
  exact SRun.nil (Le.sub0)
  refine swp_cond (b := ((x11.2 == 0) && (!(x11.1 == (x9.2.2 == 4))))) (by kernel_rfl) (fun hb => ?_) (fun hb => ?_)
  replace h := cond_t hb h
  refine swp_seq ?_
  refine swp_reg ?_
  refine SRun.ck tbokF1 1 ⟨275, [(2, vb false)], []⟩ ?_
  refine SRun.nil ?_
  refine nx_n ?_
  refine swp_ret ?_
  replace h := Option.some.inj h
  subst h
  exact nx_r (q_fr (fin1 (by kernel_rfl) (finV rfl SV.flat_of (holds_t (by kernel_rfl)))))
  replace h := cond_f hb h
  refine swp_skip ?_
  refine nx_n ?_
  refine swp_seq ?_
  refine swp_seq ?_
  refine swp_reg ?_
  refine SRun.ck tbokF1 2 ⟨275, [(4, .own 4), (5, vi x2.2.2.1), (6, vi x2.2.2.2), (7, .own 7), (8, vi x3.2), (11, vi x5.1), (14, .own 14), (18, vi x8.1), (30, .own 30), (31, vi x13.2), (203, vb (x6.2 == 0))], [(4, .arr 42 4 x2.2.1.length (x2.2.1.map eTie)), (7, .arr 2 1 x3.1.length (x3.1.map (eI .i64))), (14, .arr 42 4 x6.1.length (x6.1.map eTie)), (30, .arr 50 1 x13.1.length (x13.1.map (eL (eI .i64))))]⟩ ?_
  refine SRun.nil ?_
  refine nx_n ?_
  refine swp_seqE (r := r) h (fun j22 => ⟨275, [(4, .own 4), (5, vi x2.2.2.1), (6, vi x2.2.2.2), (7, .own 7), (8, vi x3.2), (18, vi x8.1), (30, .own 30), (31, vi x13.2)], [(4, .arr 42 4 x2.2.1.length (x2.2.1.map eTie)), (7, .arr 2 1 x3.1.length (x3.1.map (eI .i64))), (30, .arr 50 1 x13.1.length (x13.1.map (eL (eI .i64))))]⟩) (fun v23 h => ?_) (fun j22 h => ?_)
  refine swp_cond (b := (x6.2 == 0)) (by kernel_rfl) (fun hb => ?_) (fun hb => ?_)
  replace h := cond_t hb h
  refine swp_seq ?_
  refine swp_reg ?_
  refine SRun.ck tbokF1 2 ⟨275, [(4, .own 4), (5, vi x2.2.2.1), (6, vi x2.2.2.2), (7, .own 7), (8, vi x3.2), (18, vi x8.1), (30, .own 30), (31, vi x13.2), (205, vi x5.1), (206, .own 14)], [(4, .arr 42 4 x2.2.1.length (x2.2.1.map eTie)), (7, .arr 2 1 x3.1.length (x3.1.map (eI .i64))), (14, .arr 42 4 x6.1.length (x6.1.map eTie)), (30, .arr 50 1 x13.1.length (x13.1.map (eL (eI .i64))))]⟩ ?_
  obtain ⟨x24, hx24, h⟩ := bind_some h
  refine SRun.ls (x_lstep_call (f := 24) (caps := []) (xs := [vi x5.1, .own 14]) (ys := [vi x5.1, vl eTie x6.1]) (res := ⟨[.v (vb x24.1), .v (vi x24.2)], [], false⟩) (x := .tup [vb x24.1, vi x24.2]) (y := none) rfl ents24 (impl_AreSound_run x5.1 x6.1 _ hx24) rfl (by intro hc; cases hc)) ?_
  refine SRun.ck tbokF1 5 ⟨275, [(4, .own 4), (5, vi x2.2.2.1), (6, vi x2.2.2.2), (7, .own 7), (8, vi x3.2), (18, vi x8.1), (30, .own 30), (31, vi x13.2), (34, vb x24.1), (35, vi x24.2)], [(4, .arr 42 4 x2.2.1.length (x2.2.1.map eTie)), (7, .arr 2 1 x3.1.length (x3.1.map (eI .i64))), (30, .arr 50 1 x13.1.length (x13.1.map (eL (eI .i64))))]⟩ ?_
  refine SRun.nil ?_
  refine nx_n ?_
  refine swp_seq ?_
  refine swp_regP ⟨275, [(4, .own 4), (5, vi x2.2.2.1), (6, vi x2.2.2.2), (7, .own 7), (8, vi x3.2), (18, vi x8.1), (30, .own 30), (31, vi x13.2), (215, vb ((x24.2 != 0) || (!x24.1)))], [(4, .arr 42 4 x2.2.1.length (x2.2.1.map eTie)), (7, .arr 2 1 x3.1.length (x3.1.map (eI .i64))), (30, .arr 50 1 x13.1.length (x13.1.map (eL (eI .i64))))]⟩ ?_ ?_
  refine SRun.ck tbokF1 3 ⟨275, [(4, .own 4), (5, vi x2.2.2.1), (6, vi x2.2.2.2), (7, .own 7), (8, vi x3.2), (18, vi x8.1), (30, .own 30), (31, vi x13.2), (34, vb x24.1), (212, vb (x24.2 != 0))], [(4, .arr 42 4 x2.2.1.length (x2.2.1.map eTie)), (7, .arr 2 1 x3.1.length (x3.1.map (eI .i64))), (30, .arr 50 1 x13.1.length (x13.1.map (eL (eI .i64))))]⟩ ?_
  generalize (x24.2 != 0) = bb
  cases bb
  refine SRun.ck tbokF1 3 ⟨275, [(4, .own 4), (5, vi x2.2.2.1), (6, vi x2.2.2.2), (7, .own 7), (8, vi x3.2), (18, vi x8.1), (30, .own 30), (31, vi x13.2), (215, vb (!x24.1))], [(4, .arr 42 4 x2.2.1.length (x2.2.1.map eTie)), (7, .arr 2 1 x3.1.length (x3.1.map (eI .i64))), (30, .arr 50 1 x13.1.length (x13.1.map (eL (eI .i64))))]⟩ ?_
  exact SRun.nil (Le.sub0)
  refine SRun.ck tbokF1 3 ⟨275, [(4, .own 4), (5, vi x2.2.2.1), (6, vi x2.2.2.2), (7, .own 7), (8, vi x3.2), (18, vi x8.1), (30, .own 30), (31, vi x13.2), (215, vb true)], [(4, .arr 42 4 x2.2.1.length (x2.2.1.map eTie)), (7, .arr 2 1 x3.1.length (x3.1.map (eI .i64))), (30, .arr 50 1 x13.1.length (x13.1.map (eL (eI .i64))))]⟩ ?_
  exact SRun.nil (Le.sub0)
  refine swp_cond (b := ((x24.2 != 0) || (!x24.1))) (by kernel_rfl) (fun hb => ?_) (fun hb => ?_)
  replace h := cond_t hb h
  refine swp_seq ?_
  refine swp_reg ?_
  refine SRun.ck tbokF1 1 ⟨275, [(2, vb false)], []⟩ ?_
  refine SRun.nil ?_
  refine nx_n ?_
  refine swp_ret ?_
  replace h := Option.some.inj h
  subst h
  exact q_rr (q_fr (fin1 (by kernel_rfl) (finV rfl SV.flat_of (holds_t (by kernel_rfl)))))
  replace h := cond_f hb h
  refine swp_skip ?_
  replace h := Option.some.inj h
  subst h
  exact q_l (Le.sub0)
  replace h := cond_f hb h
  refine swp_skip ?_
  replace h := Option.some.inj h
  subst h
  exact q_l (Le.sub0)
  refine swp_seq ?_
  refine swp_seq ?_
  refine swp_reg ?_
  refine SRun.ck tbokF1 2 ⟨275, [(4, .own 4), (5, vi x2.2.2.1), (6, vi x2.2.2.2), (7, .own 7), (8, vi x3.2), (18, vi x8.1), (30, .own 30), (217, vb (x13.2 == 0))], [(4, .arr 42 4 x2.2.1.length (x2.2.1.map eTie)), (7, .arr 2 1 x3.1.length (x3.1.map (eI .i64))), (30, .arr 50 1 x13.1.length (x13.1.map (eL (eI .i64))))]⟩ ?_
  refine SRun.nil ?_
  refine nx_n ?_
  refine swp_seqE (r := r) h (fun j25 => ⟨275, [(4, .own 4), (5, vi x2.2.2.1), (6, vi x2.2.2.2), (7, .own 7), (8, vi x3.2)], [(4, .arr 42 4 x2.2.1.length (x2.2.1.map eTie)), (7, .arr 2 1 x3.1.length (x3.1.map (eI .i64)))]⟩) (fun v26 h => ?_) (fun j25 h => ?_)
  refine swp_cond (b := (x13.2 == 0)) (by kernel_rfl) (fun hb => ?_) (fun hb => ?_)
  replace h := cond_t hb h
  refine swp_seq ?_
  refine swp_reg ?_
  refine SRun.ck tbokF1 1 ⟨275, [(4, .own 4), (5, vi x2.2.2.1), (6, vi x2.2.2.2), (7, .own 7), (8, vi x3.2), (18, vi x8.1), (30, .own 30), (36, vi 0)], [(4, .arr 42 4 x2.2.1.length (x2.2.1.map eTie)), (7, .arr 2 1 x3.1.length (x3.1.map (eI .i64))), (30, .arr 50 1 x13.1.length (x13.1.map (eL (eI .i64))))]⟩ ?_
  refine SRun.nil ?_
  refine nx_n ?_
  refine swp_seq ?_
  refine swp_seq ?_
  refine swp_reg ?_
  refine SRun.ck tbokF1 1 ⟨275, [(4, .own 4), (5, vi x2.2.2.1), (6, vi x2.2.2.2), (7, .own 7), (8, vi x3.2), (18, vi x8.1), (30, .own 30), (36, vi 0), (37, vi 0)], [(4, .arr 42 4 x2.2.1.length (x2.2.1.map eTie)), (7, .arr 2 1 x3.1.length (x3.1.map (eI .i64))), (30, .arr 50 1 x13.1.length (x13.1.map (eL (eI .i64))))]⟩ ?_
  refine SRun.nil ?_
  refine nx_n ?_
  refine swp_seqJ h (fun j27 => ⟨275, [(4, .own 4), (5, vi x2.2.2.1), (6, vi x2.2.2.2), (7, .own 7), (8, vi x3.2), (18, vi x8.1), (36, vi j27)], [(4, .arr 42 4 x2.2.1.length (x2.2.1.map eTie)), (7, .arr 2 1 x3.1.length (x3.1.map (eI .i64)))]⟩) (fun v28 h => ?_) (fun j27 h => ?_)
  refine swp_blk (a := v28) ?_
  refine swp_lpL (r := v28) (s := (0, 0)) _ (fun s29 => ⟨275, [(4, .own 4), (5, vi x2.2.2.1), (6, vi x2.2.2.2), (7, .own 7), (8, vi x3.2), (18, vi x8.1), (30, .own 30), (36, vi s29.2), (37, vi s29.1)], [(4, .arr 42 4 x2.2.1.length (x2.2.1.map eTie)), (7, .arr 2 1 x3.1.length (x3.1.map (eI .i64))), (30, .arr 50 1 x13.1.length (x13.1.map (eL (eI .i64))))]⟩) _ (Le.sub0) h (fun s29 v30 h => ?_)
  refine swp_seq ?_
  refine swp_seq ?_
  refine swp_reg ?_
  refine SRun.ck tbokF1 4 ⟨275, [(4, .own 4), (5, vi x2.2.2.1), (6, vi x2.2.2.2), (7, .own 7), (8, vi x3.2), (18, vi x8.1), (30, .own 30), (36, vi s29.2), (37, vi s29.1), (221, vb (decide (s29.1 < (x13.1.length : Int))))], [(4, .arr 42 4 x2.2.1.length (x2.2.1.map eTie)), (7, .arr 2 1 x3.1.length (x3.1.map (eI .i64))), (30, .arr 50 1 x13.1.length (x13.1.map (eL (eI .i64))))]⟩ ?_
  refine SRun.nil ?_
  refine nx_n ?_
  refine swp_cond (b := (decide (s29.1 < (x13.1.length : Int)))) (by kernel_rfl) (fun hb => ?_) (fun hb => ?_)
  replace h := cond_t hb h
  refine swp_skip ?_
  refine nx_n ?_
  refine swp_seq ?_
  refine swp_seqJ h (fun j31 => ⟨275, [(4, .own 4), (5, vi x2.2.2.1), (6, vi x2.2.2.2), (7, .own 7), (8, vi x3.2), (18, vi x8.1), (30, .own 30), (36, vi j31), (37, vi s29.1)], [(4, .arr 42 4 x2.2.1.length (x2.2.1.map eTie)), (7, .arr 2 1 x3.1.length (x3.1.map (eI .i64))), (30, .arr 50 1 x13.1.length (x13.1.map (eL (eI .i64))))]⟩) (fun v32 h => ?_) (fun j31 h => ?_)
  refine swp_blk (a := v32) ?_
  refine swp_reg ?_
  refine SRun.ck tbokF1 3 ⟨275, [(4, .own 4), (5, vi x2.2.2.1), (6, vi x2.2.2.2), (7, .own 7), (8, vi x3.2), (18, vi x8.1), (30, .own 30), (37, vi s29.1), (224, vi s29.2), (225, .own 30), (226, vi s29.1)], [(4, .arr 42 4 x2.2.1.length (x2.2.1.map eTie)), (7, .arr 2 1 x3.1.length (x3.1.map (eI .i64))), (30, .arr 50 1 x13.1.length (x13.1.map (eL (eI .i64))))]⟩ ?_
  obtain ⟨x33, hx33, h⟩ := bind_some h
  refine SRun.ls (x_index_own (d := 30) (L := x13.1) (f := (eL (eI .i64))) (ti := ti45) (tj := ti50) (e := 50) (e' := 50) (m := 1) (k := .i64) tbokF1 rfl hx33) ?_
  refine SRun.ls (x_load_own (d := 30) (m := 1) (j := 0) (L := x13.1) (f := (eL (eI .i64))) (ti := ti50) (e := 50) (v := vl (eI .i64) x33) tbokF1 rfl hx33) ?_
  refine SRun.ck tbokF1 3 ⟨275, [(4, .own 4), (5, vi x2.2.2.1), (6, vi x2.2.2.2), (7, .own 7), (8, vi x3.2), (18, vi x8.1), (30, .own 30), (36, vi (w64 (s29.2 + (x33.length : Int)))), (37, vi s29.1)], [(4, .arr 42 4 x2.2.1.length (x2.2.1.map eTie)), (7, .arr 2 1 x3.1.length (x3.1.map (eI .i64))), (30, .arr 50 1 x13.1.length (x13.1.map (eL (eI .i64))))]⟩ ?_
  refine SRun.nil ?_
  replace h := Option.some.inj h
  subst h
  exact q_bn (q_j (Le.sub0))
  refine swp_reg ?_
  refine SRun.ck tbokF1 3 ⟨275, [(4, .own 4), (5, vi x2.2.2.1), (6, vi x2.2.2.2), (7, .own 7), (8, vi x3.2), (18, vi x8.1), (30, .own 30), (36, vi j31), (37, vi (w64 (s29.1 + 1)))], [(4, .arr 42 4 x2.2.1.length (x2.2.1.map eTie)), (7, .arr 2 1 x3.1.length (x3.1.map (eI .i64))), (30, .arr 50 1 x13.1.length (x13.1.map (eL (eI .i64))))]⟩ ?_
  refine SRun.nil ?_
  replace h := Option.some.inj h
  subst h
  exact q_l (Le.sub0)
  replace h := cond_f hb h
  refine swp_exit ?_
  replace h := Option.some.inj h
  subst h
  exact nx_e (q_re (q_bh (q_j (Le.sub0))))
  refine swp_seq ?_
  refine swp_reg ?_
  refine SRun.ck tbokF1 3 ⟨275, [(4, .own 4), (5, vi x2.2.2.1), (6, vi x2.2.2.2), (7, .own 7), (8, vi x3.2), (233, vb (j27 != x8.1))], [(4, .arr 42 4 x2.2.1.length (x2.2.1.map eTie)), (7, .arr 2 1 x3.1.length (x3.1.map (eI .i64)))]⟩ ?_
  refine SRun.nil ?_
  refine nx_n ?_
  refine swp_cond (b := (j27 != x8.1)) (by kernel_rfl) (fun hb => ?_) (fun hb => ?_)
  replace h := cond_t hb h
  refine swp_seq ?_
  refine swp_reg ?_
  refine SRun.ck tbokF1 1 ⟨275, [(2, vb false)], []⟩ ?_
  refine SRun.nil ?_
  refine nx_n ?_
  refine swp_ret ?_
  replace h := Option.some.inj h
  subst h
  exact q_rr (q_fr (fin1 (by kernel_rfl) (finV rfl SV.flat_of (holds_t (by kernel_rfl)))))
  replace h := cond_f hb h
  refine swp_skip ?_
  replace h := Option.some.inj h
  subst h
  exact q_l (Le.sub0)
  replace h := cond_f hb h
  refine swp_skip ?_
  replace h := Option.some.inj h
  subst h
  exact q_l (Le.sub0)
  refine swp_seq ?_
  refine swp_seq ?_
  refine swp_reg ?_
  refine SRun.ck tbokF1 2 ⟨275, [(4, .own 4), (5, vi x2.2.2.1), (6, vi x2.2.2.2), (7, .own 7), (235, vb (x3.2 != 0))], [(4, .arr 42 4 x2.2.1.length (x2.2.1.map eTie)), (7, .arr 2 1 x3.1.length (x3.1.map (eI .i64)))]⟩ ?_
  refine SRun.nil ?_
  refine nx_n ?_
  refine swp_cond (b := (x3.2 != 0)) (by kernel_rfl) (fun hb => ?_) (fun hb => ?_)
  replace h := cond_t hb h
  refine swp_seq ?_
  refine swp_reg ?_
  refine SRun.ck tbokF1 1 ⟨275, [(2, vb true)], []⟩ ?_
  refine SRun.nil ?_
  refine nx_n ?_
  refine swp_ret ?_
  replace h := Option.some.inj h
  subst h
  exact nx_r (q_fr (fin1 (by kernel_rfl) (finV rfl SV.flat_of (holds_t (by kernel_rfl)))))
  replace h := cond_f hb h
  refine swp_skip ?_
  refine nx_n ?_
  refine swp_seq ?_
  refine swp_reg ?_
  refine SRun.ck tbokF1 2 ⟨275, [(4, .own 4), (6, vi x2.2.2.2), (7, .own 7), (38, vi x2.2.2.1)], [(4, .arr 42 4 x2.2.1.length (x2.2.1.map eTie)), (7, .arr 2 1 x3.1.length (x3.1.map (eI .i64)))]⟩ ?_
  refine SRun.nil ?_
  refine nx_n ?_
  refine swp_seq ?_
  refine swp_seq ?_
  refine swp_reg ?_
  refine SRun.ck tbokF1 1 ⟨275, [(4, .own 4), (6, vi x2.2.2.2), (7, .own 7), (38, vi x2.2.2.1), (39, vi 0)], [(4, .arr 42 4 x2.2.1.length (x2.2.1.map eTie)), (7, .arr 2 1 x3.1.length (x3.1.map (eI .i64)))]⟩ ?_
  refine SRun.nil ?_
  refine nx_n ?_
  refine swp_seqE (r := r) h (fun j34 => ⟨275, [(6, vi x2.2.2.2), (38, vi j34)], []⟩) (fun v35 h => ?_) (fun j34 h => ?_)
  refine swp_blk (a := v35) ?_
  refine swp_lpL (r := v35) (s := (0, x2.2.2.1)) _ (fun s36 => ⟨275, [(4, .own 4), (6, vi x2.2.2.2), (7, .own 7), (38, vi s36.2), (39, vi s36.1)], [(4, .arr 42 4 x2.2.1.length (x2.2.1.map eTie)), (7, .arr 2 1 x3.1.length (x3.1.map (eI .i64)))]⟩) _ (Le.sub0) h (fun s36 v37 h => ?_)
  refine swp_seq ?_
  refine swp_seq ?_
  refine swp_reg ?_
  refine SRun.ck tbokF1 4 ⟨275, [(4, .own 4), (6, vi x2.2.2.2), (7, .own 7), (38, vi s36.2), (39, vi s36.1), (240, vb (decide (s36.1 < (x3.1.length : Int))))], [(4, .arr 42 4 x2.2.1.length (x2.2.1.map eTie)), (7, .arr 2 1 x3.1.length (x3.1.map (eI .i64)))]⟩ ?_
  refine SRun.nil ?_
  refine nx_n ?_
  refine swp_cond (b := (decide (s36.1 < (x3.1.length : Int)))) (by kernel_rfl) (fun hb => ?_) (fun hb => ?_)
  replace h := cond_t hb h
  refine swp_skip ?_
  refine nx_n ?_
  refine swp_seq ?_
  refine swp_seqL (r := v37) h (fun j38 => ⟨275, [(4, .own 4), (6, vi x2.2.2.2), (7, .own 7), (38, vi j38), (39, vi s36.1)], [(4, .arr 42 4 x2.2.1.length (x2.2.1.map eTie)), (7, .arr 2 1 x3.1.length (x3.1.map (eI .i64)))]⟩) (fun v39 h => ?_) (fun j38 h => ?_)
  refine swp_blk (a := v39) ?_
  refine swp_seq ?_
  refine swp_reg ?_
  refine SRun.ck tbokF1 3 ⟨275, [(4, .own 4), (6, vi x2.2.2.2), (7, .own 7), (38, vi s36.2), (39, vi s36.1), (243, .own 4), (244, .own 7), (245, vi s36.1)], [(4, .arr 42 4 x2.2.1.length (x2.2.1.map eTie)), (7, .arr 2 1 x3.1.length (x3.1.map (eI .i64)))]⟩ ?_
  obtain ⟨x40, hx40, h⟩ := bind_some h
  refine SRun.ls (x_index_own (d := 7) (L := x3.1) (f := (eI .i64)) (ti := ti50) (tj := ti2) (e := 2) (e' := 2) (m := 1) (k := .i64) tbokF1 rfl hx40) ?_
  refine SRun.ls (x_load_own (d := 7) (m := 1) (j := 0) (L := x3.1) (f := (eI .i64)) (ti := ti2) (e := 2) (v := vi x40) tbokF1 rfl hx40) ?_
  obtain ⟨x41, hx41, h⟩ := bind_some h
  refine SRun.ls (x_index_own (d := 4) (L := x2.2.1) (f := eTie) (ti := ti25) (tj := ti42) (e := 42) (e' := 42) (m := 4) (k := .i64) tbokF1 rfl hx41) ?_
  refine SRun.ls (x_load_own (d := 4) (m := 4) (j := 0) (L := x2.2.1) (f := eTie) (ti := ti42) (e := 42) (v := .agg [vi x41.A, vi x41.B, vb x41.Same, vs x41.Reason]) tbokF1 rfl hx41) ?_
  refine SRun.ck tbokF1 1 ⟨275, [(4, .own 4), (6, vi x2.2.2.2), (7, .own 7), (38, vi s36.2), (39, vi s36.1), (40, .ref 40 0), (249, .agg [vi x41.A, vi x41.B, vb x41.Same, vs x41.Reason])], [(4, .arr 42 4 x2.2.1.length (x2.2.1.map eTie)), (7, .arr 2 1 x3.1.length (x3.1.map (eI .i64))), (40, .box [vi 0, vi 0, vb false, vs (ByteArray.mk #[])])]⟩ ?_
  refine SRun.estep (x_estep_store (d := 40) (k := 0) (ti := ti42) (cs := [vi 0, vi 0, vb false, vs (ByteArray.mk #[])]) (vs := [vi x41.A, vi x41.B, vb x41.Same, vs x41.Reason]) (v := .agg [vi x41.A, vi x41.B, vb x41.Same, vs x41.Reason]) tbokF1 rfl rfl) ?_
  refine SRun.nil ?_
  refine nx_n ?_
  refine swp_seq ?_
  refine swp_seq ?_
  refine swp_regP ⟨275, [(4, .own 4), (6, vi x2.2.2.2), (7, .own 7), (38, vi s36.2), (39, vi s36.1), (40, .ref 40 0), (264, vb ((!x41.Same) || ((x41.A != s36.2) && (x41.B != s36.2))))], [(4, .arr 42 4 x2.2.1.length (x2.2.1.map eTie)), (7, .arr 2 1 x3.1.length (x3.1.map (eI .i64))), (40, .box [vi x41.A, vi x41.B, vb x41.Same, vs x41.Reason])]⟩ ?_ ?_
  refine SRun.ck tbokF1 4 ⟨275, [(4, .own 4), (6, vi x2.2.2.2), (7, .own 7), (38, vi s36.2), (39, vi s36.1), (40, .ref 40 0), (253, vb (!x41.Same))], [(4, .arr 42 4 x2.2.1.length (x2.2.1.map eTie)), (7, .arr 2 1 x3.1.length (x3.1.map (eI .i64))), (40, .box [vi x41.A, vi x41.B, vb x41.Same, vs x41.Reason])]⟩ ?_
  generalize (!x41.Same) = bb
  cases bb
  refine SRun.ck tbokF1 5 ⟨275, [(4, .own 4), (6, vi x2.2.2.2), (7, .own 7), (38, vi s36.2), (39, vi s36.1), (40, .ref 40 0), (253, vb false), (258, vb (x41.A != s36.2))], [(4, .arr 42 4 x2.2.1.length (x2.2.1.map eTie)), (7, .arr 2 1 x3.1.length (x3.1.map (eI .i64))), (40, .box [vi x41.A, vi x41.B, vb x41.Same, vs x41.Reason])]⟩ ?_
  generalize (x41.A != s36.2) = bb
  cases bb
  refine SRun.ck tbokF1 6 ⟨275, [(4, .own 4), (6, vi x2.2.2.2), (7, .own 7), (38, vi s36.2), (39, vi s36.1), (40, .ref 40 0), (264, vb false)], [(4, .arr 42 4 x2.2.1.length (x2.2.1.map eTie)), (7, .arr 2 1 x3.1.length (x3.1.map (eI .i64))), (40, .box [vi x41.A, vi x41.B, vb x41.Same, vs x41.Reason])]⟩ ?_
  exact SRun.nil (Le.sub0)
  refine SRun.ck tbokF1 6 ⟨275, [(4, .own 4), (6, vi x2.2.2.2), (7, .own 7), (38, vi s36.2), (39, vi s36.1), (40, .ref 40 0), (264, vb (x41.B != s36.2))], [(4, .arr 42 4 x2.2.1.length (x2.2.1.map eTie)), (7, .arr 2 1 x3.1.length (x3.1.map (eI .i64))), (40, .box [vi x41.A, vi x41.B, vb x41.Same, vs x41.Reason])]⟩ ?_
  exact SRun.nil (Le.sub0)
  refine SRun.ck tbokF1 11 ⟨275, [(4, .own 4), (6, vi x2.2.2.2), (7, .own 7), (38, vi s36.2), (39, vi s36.1), (40, .ref 40 0), (264, vb true)], [(4, .arr 42 4 x2.2.1.length (x2.2.1.map eTie)), (7, .arr 2 1 x3.1.length (x3.1.map (eI .i64))), (40, .box [vi x41.A, vi x41.B, vb x41.Same, vs x41.Reason])]⟩ ?_
  exact SRun.nil (Le.sub0)
  refine swp_cond (b := ((!x41.Same) || ((x41.A != s36.2) && (x41.B != s36.2)))) (by kernel_rfl) (fun hb => ?_) (fun hb => ?_)
  replace h := cond_t hb h
  refine swp_seq ?_
  refine swp_reg ?_
  refine SRun.ck tbokF1 1 ⟨275, [(2, vb false)], []⟩ ?_
  refine SRun.nil ?_
  refine nx_n ?_
  refine swp_ret ?_
  replace h := Option.some.inj h
  subst h
  exact nx_r (q_br (q_rr (q_rr (q_br (q_rr (q_fr (fin1 (by kernel_rfl) (finV rfl SV.flat_of (holds_t (by kernel_rfl))))))))))
  replace h := cond_f hb h
  refine swp_skip ?_
  refine nx_n ?_
  refine swp_reg ?_
  refine SRun.ck tbokF1 8 ⟨275, [(4, .own 4), (6, vi x2.2.2.2), (7, .own 7), (38, vi (w64 ((w64 (x41.A + x41.B)) - s36.2))), (39, vi s36.1)], [(4, .arr 42 4 x2.2.1.length (x2.2.1.map eTie)), (7, .arr 2 1 x3.1.length (x3.1.map (eI .i64)))]⟩ ?_
  refine SRun.nil ?_
  replace h := Option.some.inj h
  subst h
  exact q_bn (q_l (Le.sub0))
  refine swp_reg ?_
  refine SRun.ck tbokF1 3 ⟨275, [(4, .own 4), (6, vi x2.2.2.2), (7, .own 7), (38, vi j38), (39, vi (w64 (s36.1 + 1)))], [(4, .arr 42 4 x2.2.1.length (x2.2.1.map eTie)), (7, .arr 2 1 x3.1.length (x3.1.map (eI .i64)))]⟩ ?_
  refine SRun.nil ?_
  replace h := Option.some.inj h
  subst h
  exact q_l (Le.sub0)
  replace h := cond_f hb h
  refine swp_exit ?_
  replace h := Option.some.inj h
  subst h
  exact nx_e (q_re (q_bh (q_l (Le.sub0))))
  refine swp_seq ?_
  refine swp_reg ?_
  refine SRun.ck tbokF1 4 ⟨275, [(2, vb (j34 == x2.2.2.2))], []⟩ ?_
  refine SRun.nil ?_
  refine nx_n ?_
  refine swp_ret ?_
  replace h := Option.some.inj h
  subst h
  exact q_fr (fin1 (by kernel_rfl) (finV rfl SV.flat_of (holds_t (by kernel_rfl))))
theorem ents13 : Ents Tryd.prog 13 := ents_of Tryd.func13 (by kernel_rfl) rfl
end Go.Proofs.YtmbejkchgdcdhaaDoor.Sh
