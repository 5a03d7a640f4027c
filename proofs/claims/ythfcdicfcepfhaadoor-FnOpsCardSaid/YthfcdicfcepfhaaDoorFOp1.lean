/- Typed functions and the calls that do what they say. -/
import Derived.Test.YthfcdicfcepfhaaDoorFOp0
import Derived.Test.YthfcdicfcepfhaaDoorKA
import Derived.Test.YthfcdicfcepfhaaDoorKS
import Derived.Test.YthfcdicfcepfhaaDoorH1
namespace Go.Proofs.YthfcdicfcepfhaaDoor.Sh
open Go.RowKit
noncomputable def spec_l32Two (aS : l01Source) : Option ((List Op) × (List Op) × l01Source) :=
  ((spec_l01Next aS 4).bind fun x1 => ((spec_l32Grow x1.2 ([] : List Op) x1.1).bind fun x2 => ((spec_l01Next x2.2 4).bind fun x3 => (((loop (fun (s6 : (List Op) × Int × l01Source) => (bif (decide (s6.2.1 > 0)) then ((((spec_l01Next s6.2.2 2).bind fun x10 => ((spec_l01Next x10.2 2).bind fun x11 => ((at' ([(ByteArray.mk #[97, 115, 104]), (ByteArray.mk #[98, 114, 105, 103])] : List ByteArray) x11.1).bind fun x12 => ((spec_l01GoodPhrase x11.2).bind fun x13 => ((spec_MakeOp s6.1 x10.1 x12 x13.1).bind fun x14 => (bif (x14.2 == 0) then some (x14.1, x13.2) else some (s6.1, x13.2)))))))).bind fun (j8 : (List Op) × l01Source) => some (.inl (j8.1, (w64 (s6.2.1 - 1)), j8.2))) else some (.inr (s6.1, s6.2.2)))) (x2.1, x3.1, x3.2))).bind fun (j4 : (List Op) × l01Source) => ((spec_l01Next j4.2 4).bind fun x15 => (((loop (fun (s18 : (List Op) × Int × l01Source) => (bif (decide (s18.2.1 > 0)) then ((((spec_l01Next s18.2.2 2).bind fun x22 => ((spec_l01Next x22.2 2).bind fun x23 => ((at' ([(ByteArray.mk #[97, 115, 104]), (ByteArray.mk #[98, 114, 105, 103])] : List ByteArray) x23.1).bind fun x24 => ((spec_l01GoodPhrase x23.2).bind fun x25 => ((spec_MakeOp s18.1 (w64 (2 + x22.1)) x24 x25.1).bind fun x26 => (bif (x26.2 == 0) then some (x26.1, x25.2) else some (s18.1, x25.2)))))))).bind fun (j20 : (List Op) × l01Source) => some (.inl (j20.1, (w64 (s18.2.1 - 1)), j20.2))) else some (.inr (s18.1, s18.2.2)))) (x2.1, x15.1, x15.2))).bind fun (j16 : (List Op) × l01Source) => ((spec_l01Next j16.2 8).bind fun x27 => (((bif (x27.1 == 0) then ((spec_l32Grow x27.2 j16.1 2).bind fun x30 => some (x30.1, x30.2)) else some (j16.1, x27.2))).bind fun (j28 : (List Op) × l01Source) => some (j4.1, j28.1, j28.2)))))))))
set_option maxRecDepth 100000 in
set_option maxHeartbeats 4000000 in
theorem spec_l32Two_run (aS : l01Source) (r : (List Op) × (List Op) × l01Source) (h : spec_l32Two aS = some r) : SCall Tryd.prog 92 [.o (.box [vl (eI .u8) aS.code, vi aS.at', vi aS.seed])] ⟨[.v (vl eOp r.1), .v (vl eOp r.2.1)], [(0, .box [vl (eI .u8) r.2.2.code, vi r.2.2.at', vi r.2.2.seed])], true⟩ := by
  refine scall_in Tryd.func92 rfl [(.tmp 2), (.tmp 3)] rfl (fun r => ⟨[.v (vl eOp r.1), .v (vl eOp r.2.1)], [(0, .box [vl (eI .u8) r.2.2.code, vi r.2.2.at', vi r.2.2.seed])], true⟩) (r := r) ?_
  unfold spec_l32Two at h
  refine swp_seq ?_
  refine swp_reg ?_
  refine SRun.ck tbok 2 ⟨75, [(0, .ref 1000000 0)], [(1000000, .box [vl (eI .u8) aS.code, vi aS.at', vi aS.seed])]⟩ ?_
  refine SRun.nil ?_
  refine nx_n ?_
  refine swp_seq ?_
  refine swp_reg ?_
  refine SRun.ck tbok 3 ⟨75, [(0, .ref 1000000 0), (13, .ref 1000000 0), (14, .own 14), (15, .ref 1000000 0)], [(14, .arr 61 5 ([] : List Op).length (([] : List Op).map eOp)), (1000000, .box [vl (eI .u8) aS.code, vi aS.at', vi aS.seed])]⟩ ?_
  obtain ⟨x1, hx1, h⟩ := bind_some h
  refine SRun.estep (x_estep_call (f := 77) (caps := []) (xs := [.ref 1000000 0, vi 4]) (pre := []) (post := [vi 4]) (qs := [vi 4]) (z := .ref 1000000 0) (d := 1000000) (pl := 0) (y := .box [vl (eI .u8) aS.code, vi aS.at', vi aS.seed]) (y' := .box [vl (eI .u8) x1.2.code, vi x1.2.at', vi x1.2.seed]) (res := ⟨[.v (vi x1.1)], [(0, .box [vl (eI .u8) x1.2.code, vi x1.2.at', vi x1.2.seed])], false⟩) (x := vi x1.1) (yo := none) rfl rfl rfl rfl rfl ents77 (spec_l01Next_run aS 4 _ hx1) rfl rfl false (fun _ => rfl) (by intro hc; cases hc)) ?_
  refine SRun.le (Le.frz' (d := 14) (e := 61) (m := 5) (n := ([] : List Op).length) (es := ([] : List Op).map eOp) (by kernel_rfl) (by kernel_rfl)) ?_
  obtain ⟨x2, hx2, h⟩ := bind_some h
  refine SRun.estep (x_estep_call (f := 93) (caps := []) (xs := [.ref 1000000 0, vl eOp ([] : List Op), vi x1.1]) (pre := []) (post := [vl eOp ([] : List Op), vi x1.1]) (qs := [vl eOp ([] : List Op), vi x1.1]) (z := .ref 1000000 0) (d := 1000000) (pl := 0) (y := .box [vl (eI .u8) x1.2.code, vi x1.2.at', vi x1.2.seed]) (y' := .box [vl (eI .u8) x2.2.code, vi x2.2.at', vi x2.2.seed]) (res := ⟨[.v (vl eOp x2.1)], [(0, .box [vl (eI .u8) x2.2.code, vi x2.2.at', vi x2.2.seed])], true⟩) (x := vl eOp x2.1) (yo := none) rfl rfl rfl rfl rfl ents93 (spec_l32Grow_run x1.2 ([] : List Op) x1.1 _ hx2) rfl rfl false (fun _ => rfl) (by intro hc; cases hc)) ?_
  refine SRun.ck tbok 1 ⟨75, [(0, .ref 1000000 0), (4, vl eOp x2.1)], [(1000000, .box [vl (eI .u8) x2.2.code, vi x2.2.at', vi x2.2.seed])]⟩ ?_
  refine SRun.nil ?_
  refine nx_n ?_
  refine swp_seq ?_
  refine swp_reg ?_
  refine SRun.ck tbok 4 ⟨75, [(0, .ref 1000000 0), (5, vl eOp x2.1), (6, vl eOp x2.1)], [(1000000, .box [vl (eI .u8) x2.2.code, vi x2.2.at', vi x2.2.seed])]⟩ ?_
  refine SRun.nil ?_
  refine nx_n ?_
  refine swp_seq ?_
  refine swp_seq ?_
  refine swp_reg ?_
  refine SRun.ck tbok 1 ⟨75, [(0, .ref 1000000 0), (5, vl eOp x2.1), (6, vl eOp x2.1), (20, .ref 1000000 0)], [(1000000, .box [vl (eI .u8) x2.2.code, vi x2.2.at', vi x2.2.seed])]⟩ ?_
  obtain ⟨x3, hx3, h⟩ := bind_some h
  refine SRun.estep (x_estep_call (f := 77) (caps := []) (xs := [.ref 1000000 0, vi 4]) (pre := []) (post := [vi 4]) (qs := [vi 4]) (z := .ref 1000000 0) (d := 1000000) (pl := 0) (y := .box [vl (eI .u8) x2.2.code, vi x2.2.at', vi x2.2.seed]) (y' := .box [vl (eI .u8) x3.2.code, vi x3.2.at', vi x3.2.seed]) (res := ⟨[.v (vi x3.1)], [(0, .box [vl (eI .u8) x3.2.code, vi x3.2.at', vi x3.2.seed])], false⟩) (x := vi x3.1) (yo := none) rfl rfl rfl rfl rfl ents77 (spec_l01Next_run x2.2 4 _ hx3) rfl rfl false (fun _ => rfl) (by intro hc; cases hc)) ?_
  refine SRun.ck tbok 1 ⟨75, [(0, .ref 1000000 0), (5, vl eOp x2.1), (6, vl eOp x2.1), (7, vi x3.1)], [(1000000, .box [vl (eI .u8) x3.2.code, vi x3.2.at', vi x3.2.seed])]⟩ ?_
  refine SRun.nil ?_
  refine nx_n ?_
  refine swp_seqJ h (fun j4 => ⟨75, [(0, .ref 1000000 0), (5, vl eOp j4.1), (6, vl eOp x2.1)], [(1000000, .box [vl (eI .u8) j4.2.code, vi j4.2.at', vi j4.2.seed])]⟩) (fun v5 h => ?_) (fun j4 h => ?_)
  refine swp_blk (a := v5) ?_
  refine swp_lpL (r := v5) (s := (x2.1, x3.1, x3.2)) _ (fun s6 => ⟨75, [(0, .ref 1000000 0), (5, vl eOp s6.1), (6, vl eOp x2.1), (7, vi s6.2.1)], [(1000000, .box [vl (eI .u8) s6.2.2.code, vi s6.2.2.at', vi s6.2.2.seed])]⟩) _ (Le.sub0) h (fun s6 v7 h => ?_)
  refine swp_seq ?_
  refine swp_seq ?_
  refine swp_reg ?_
  refine SRun.ck tbok 2 ⟨75, [(0, .ref 1000000 0), (5, vl eOp s6.1), (6, vl eOp x2.1), (7, vi s6.2.1), (23, vb (decide (s6.2.1 > 0)))], [(1000000, .box [vl (eI .u8) s6.2.2.code, vi s6.2.2.at', vi s6.2.2.seed])]⟩ ?_
  refine SRun.nil ?_
  refine nx_n ?_
  refine swp_cond (b := (decide (s6.2.1 > 0))) (by kernel_rfl) (fun hb => ?_) (fun hb => ?_)
  replace h := cond_t hb h
  refine swp_skip ?_
  refine nx_n ?_
  refine swp_seq ?_
  refine swp_seqJ h (fun j8 => ⟨75, [(0, .ref 1000000 0), (5, vl eOp j8.1), (6, vl eOp x2.1), (7, vi s6.2.1)], [(1000000, .box [vl (eI .u8) j8.2.code, vi j8.2.at', vi j8.2.seed])]⟩) (fun v9 h => ?_) (fun j8 h => ?_)
  refine swp_blk (a := v9) ?_
  refine swp_seq ?_
  obtain ⟨x10, hx10, h⟩ := bind_some h
  obtain ⟨x11, hx11, h⟩ := bind_some h
  obtain ⟨x12, hx12, h⟩ := bind_some h
  obtain ⟨x13, hx13, h⟩ := bind_some h
  obtain ⟨x14, hx14, h⟩ := bind_some h
  refine swp_dr mixed ?_
  refine DGo.enum (σE := ⟨75, [(0, .ref 1000000 0), (5, vl eOp s6.1), (6, vl eOp x2.1), (7, vi s6.2.1), (8, .own 37), (9, vi x14.2)], [(37, .deep 61 5 x14.1.length [.flat, .flat, .flat, .flat, (.sl 2 1 [.flat])] (x14.1.map eOp)), (1000000, .box [vl (eI .u8) x13.2.code, vi x13.2.at', vi x13.2.seed])]⟩) (n := 16) (L0 := #[false, false, false, false, false, false, false, false, false, false, false, false, false, false, false, false]) (by kernel_rfl) (by kernel_rfl) (fun K hk => ?_) ?_
  refine DE.share (fuel := 0) (L := #[true, true, true, true, true, true, true, true, true, true, true, true, true, true, true, true]) (σ := ⟨75, [(0, .ref 1000000 0), (5, vl eOp s6.1), (6, vl eOp x2.1), (7, vi s6.2.1), (8, .own 37), (9, vi x14.2)], [(37, .deep 61 5 x14.1.length [.flat, .flat, .flat, .flat, (.sl 2 1 [.flat])] (x14.1.map eOp)), (1000000, .box [vl (eI .u8) x13.2.code, vi x13.2.at', vi x13.2.seed])]⟩) ?_ (fun d23 => ?_)
  exact DE.done (by kernel_rfl) hk
  refine DE.share (fuel := 1) (L := #[true, true, true, true, true, true, true, true, true, true, true, true, true, true, true, false]) (σ := ⟨75, [(0, .ref 1000000 0), (5, vl eOp s6.1), (6, vl eOp x2.1), (7, vi s6.2.1), (8, .own 37), (39, vi x14.2)], [(37, .deep 61 5 x14.1.length [.flat, .flat, .flat, .flat, (.sl 2 1 [.flat])] (x14.1.map eOp)), (1000000, .box [vl (eI .u8) x13.2.code, vi x13.2.at', vi x13.2.seed])]⟩) ?_ (fun d22 => ?_)
  exact DE.take (i := 15) (L' := #[true, true, true, true, true, true, true, true, true, true, true, true, true, true, true, true]) rfl (.inr rfl) rfl (by kernel_rfl) (by kernel_rfl) (by kernel_rfl) (EStep.le (EStep.ofN2 tbok (σ' := ⟨75, [(9, vi x14.2), (0, .ref 1000000 0), (5, vl eOp s6.1), (6, vl eOp x2.1), (7, vi s6.2.1), (8, .own 37), (39, vi x14.2)], [(37, .deep 61 5 x14.1.length [.flat, .flat, .flat, .flat, (.sl 2 1 [.flat])] (x14.1.map eOp)), (1000000, .box [vl (eI .u8) x13.2.code, vi x13.2.at', vi x13.2.seed])]⟩) (by kernel_rfl)) Le.sub0) (by kernel_rfl) d23
  refine DE.share (fuel := 2) (L := #[true, true, true, true, true, true, true, true, true, true, true, true, true, true, false, false]) (σ := ⟨75, [(0, .ref 1000000 0), (5, vl eOp s6.1), (6, vl eOp x2.1), (7, vi s6.2.1), (38, .own 37), (39, vi x14.2)], [(37, .deep 61 5 x14.1.length [.flat, .flat, .flat, .flat, (.sl 2 1 [.flat])] (x14.1.map eOp)), (1000000, .box [vl (eI .u8) x13.2.code, vi x13.2.at', vi x13.2.seed])]⟩) ?_ (fun d21 => ?_)
  exact DE.take (i := 14) (L' := #[true, true, true, true, true, true, true, true, true, true, true, true, true, true, true, false]) rfl (.inr rfl) rfl (by kernel_rfl) (by kernel_rfl) (by kernel_rfl) (EStep.le (EStep.ofN2 tbok (σ' := ⟨75, [(8, .own 37), (0, .ref 1000000 0), (5, vl eOp s6.1), (6, vl eOp x2.1), (7, vi s6.2.1), (38, .own 37), (39, vi x14.2)], [(37, .deep 61 5 x14.1.length [.flat, .flat, .flat, .flat, (.sl 2 1 [.flat])] (x14.1.map eOp)), (1000000, .box [vl (eI .u8) x13.2.code, vi x13.2.at', vi x13.2.seed])]⟩) (by kernel_rfl)) Le.sub0) (by kernel_rfl) d22
  refine DE.share (fuel := 2) (L := #[true, true, true, true, true, true, true, true, true, true, true, true, true, false, true, false]) (σ := ⟨75, [(0, .ref 1000000 0), (5, vl eOp s6.1), (6, vl eOp x2.1), (7, vi s6.2.1), (8, .own 37), (26, .tup [.own 37, vi x14.2])], [(37, .deep 61 5 x14.1.length [.flat, .flat, .flat, .flat, (.sl 2 1 [.flat])] (x14.1.map eOp)), (1000000, .box [vl (eI .u8) x13.2.code, vi x13.2.at', vi x13.2.seed])]⟩) ?_ (fun d20 => ?_)
  exact DE.all [13] (by kernel_rfl) (by simp) (List.forall_mem_cons.2 ⟨DEs.mk (i := 13) (L' := #[true, true, true, true, true, true, true, true, true, true, true, true, true, true, true, false]) rfl (EStep.le (EStep.ofN2 tbok (σ' := ⟨75, [(39, vi x14.2), (0, .ref 1000000 0), (5, vl eOp s6.1), (6, vl eOp x2.1), (7, vi s6.2.1), (8, .own 37), (26, .tup [.own 37, vi x14.2])], [(37, .deep 61 5 x14.1.length [.flat, .flat, .flat, .flat, (.sl 2 1 [.flat])] (x14.1.map eOp)), (1000000, .box [vl (eI .u8) x13.2.code, vi x13.2.at', vi x13.2.seed])]⟩) (by kernel_rfl)) Le.sub0) (by kernel_rfl) d22, (fun _ h => absurd h List.not_mem_nil)⟩)
  refine DE.share (fuel := 3) (L := #[true, true, true, true, true, true, true, true, true, true, true, true, false, true, false, false]) (σ := ⟨75, [(0, .ref 1000000 0), (5, vl eOp s6.1), (6, vl eOp x2.1), (7, vi s6.2.1), (26, .tup [.own 37, vi x14.2]), (39, vi x14.2)], [(37, .deep 61 5 x14.1.length [.flat, .flat, .flat, .flat, (.sl 2 1 [.flat])] (x14.1.map eOp)), (1000000, .box [vl (eI .u8) x13.2.code, vi x13.2.at', vi x13.2.seed])]⟩) ?_ (fun d19 => ?_)
  exact DE.all [12] (by kernel_rfl) (by simp) (List.forall_mem_cons.2 ⟨DEs.mk (i := 12) (L' := #[true, true, true, true, true, true, true, true, true, true, true, true, true, true, false, false]) rfl (EStep.le (EStep.ofN2 tbok (σ' := ⟨75, [(38, .own 37), (0, .ref 1000000 0), (5, vl eOp s6.1), (6, vl eOp x2.1), (7, vi s6.2.1), (26, .tup [.own 37, vi x14.2]), (39, vi x14.2)], [(37, .deep 61 5 x14.1.length [.flat, .flat, .flat, .flat, (.sl 2 1 [.flat])] (x14.1.map eOp)), (1000000, .box [vl (eI .u8) x13.2.code, vi x13.2.at', vi x13.2.seed])]⟩) (by kernel_rfl)) Le.sub0) (by kernel_rfl) d21, (fun _ h => absurd h List.not_mem_nil)⟩)
  refine DE.share (fuel := 3) (L := #[true, true, true, true, true, true, true, true, true, true, true, true, true, false, false, false]) (σ := ⟨75, [(0, .ref 1000000 0), (5, vl eOp s6.1), (6, vl eOp x2.1), (7, vi s6.2.1), (26, .tup [.own 37, vi x14.2]), (38, .own 37)], [(37, .deep 61 5 x14.1.length [.flat, .flat, .flat, .flat, (.sl 2 1 [.flat])] (x14.1.map eOp)), (1000000, .box [vl (eI .u8) x13.2.code, vi x13.2.at', vi x13.2.seed])]⟩) ?_ (fun d18 => ?_)
  exact DE.take (i := 14) (L' := #[true, true, true, true, true, true, true, true, true, true, true, true, true, false, true, false]) rfl (.inr rfl) rfl (by kernel_rfl) (by kernel_rfl) (by kernel_rfl) (EStep.le (EStep.ofN2 tbok (σ' := ⟨75, [(8, .own 37), (0, .ref 1000000 0), (5, vl eOp s6.1), (6, vl eOp x2.1), (7, vi s6.2.1), (26, .tup [.own 37, vi x14.2]), (38, .own 37)], [(37, .deep 61 5 x14.1.length [.flat, .flat, .flat, .flat, (.sl 2 1 [.flat])] (x14.1.map eOp)), (1000000, .box [vl (eI .u8) x13.2.code, vi x13.2.at', vi x13.2.seed])]⟩) (by kernel_rfl)) Le.sub0) (by kernel_rfl) d20
  refine DE.share (fuel := 4) (L := #[true, true, true, true, true, true, true, true, true, true, true, true, false, false, false, false]) (σ := ⟨75, [(0, .ref 1000000 0), (5, vl eOp s6.1), (6, vl eOp x2.1), (7, vi s6.2.1), (26, .tup [.own 37, vi x14.2])], [(37, .deep 61 5 x14.1.length [.flat, .flat, .flat, .flat, (.sl 2 1 [.flat])] (x14.1.map eOp)), (1000000, .box [vl (eI .u8) x13.2.code, vi x13.2.at', vi x13.2.seed])]⟩) ?_ (fun d17 => ?_)
  exact DE.all [12, 13] (by kernel_rfl) (by simp) (List.forall_mem_cons.2 ⟨DEs.mk (i := 12) (L' := #[true, true, true, true, true, true, true, true, true, true, true, true, true, false, false, false]) rfl (EStep.le (EStep.ofN2 tbok (σ' := ⟨75, [(38, .own 37), (0, .ref 1000000 0), (5, vl eOp s6.1), (6, vl eOp x2.1), (7, vi s6.2.1), (26, .tup [.own 37, vi x14.2])], [(37, .deep 61 5 x14.1.length [.flat, .flat, .flat, .flat, (.sl 2 1 [.flat])] (x14.1.map eOp)), (1000000, .box [vl (eI .u8) x13.2.code, vi x13.2.at', vi x13.2.seed])]⟩) (by kernel_rfl)) Le.sub0) (by kernel_rfl) d18, (List.forall_mem_cons.2 ⟨DEs.mk (i := 13) (L' := #[true, true, true, true, true, true, true, true, true, true, true, true, false, true, false, false]) rfl (EStep.le (EStep.ofN2 tbok (σ' := ⟨75, [(39, vi x14.2), (0, .ref 1000000 0), (5, vl eOp s6.1), (6, vl eOp x2.1), (7, vi s6.2.1), (26, .tup [.own 37, vi x14.2])], [(37, .deep 61 5 x14.1.length [.flat, .flat, .flat, .flat, (.sl 2 1 [.flat])] (x14.1.map eOp)), (1000000, .box [vl (eI .u8) x13.2.code, vi x13.2.at', vi x13.2.seed])]⟩) (by kernel_rfl)) Le.sub0) (by kernel_rfl) d19, (fun _ h => absurd h List.not_mem_nil)⟩)⟩)
  refine DE.share (fuel := 5) (L := #[true, true, true, true, true, true, true, true, true, true, true, false, false, false, false, false]) (σ := ⟨75, [(0, .ref 1000000 0), (5, vl eOp s6.1), (6, vl eOp x2.1), (7, vi s6.2.1), (37, .tup [.own 37, vi x14.2])], [(37, .deep 61 5 x14.1.length [.flat, .flat, .flat, .flat, (.sl 2 1 [.flat])] (x14.1.map eOp)), (1000000, .box [vl (eI .u8) x13.2.code, vi x13.2.at', vi x13.2.seed])]⟩) ?_ (fun d16 => ?_)
  exact DE.take (i := 11) (L' := #[true, true, true, true, true, true, true, true, true, true, true, true, false, false, false, false]) rfl (.inl rfl) rfl (by kernel_rfl) (by kernel_rfl) (by kernel_rfl) (EStep.le (EStep.ofN2 tbok (σ' := ⟨75, [(26, .tup [.own 37, vi x14.2]), (0, .ref 1000000 0), (5, vl eOp s6.1), (6, vl eOp x2.1), (7, vi s6.2.1), (37, .tup [.own 37, vi x14.2])], [(37, .deep 61 5 x14.1.length [.flat, .flat, .flat, .flat, (.sl 2 1 [.flat])] (x14.1.map eOp)), (1000000, .box [vl (eI .u8) x13.2.code, vi x13.2.at', vi x13.2.seed])]⟩) (by kernel_rfl)) Le.sub0) (by kernel_rfl) d17
  refine DE.share (fuel := 6) (L := #[true, true, true, true, true, true, true, true, true, true, false, false, false, false, false, false]) (σ := ⟨75, [(0, .ref 1000000 0), (5, vl eOp s6.1), (6, vl eOp x2.1), (7, vi s6.2.1), (27, vl eOp s6.1), (29, vi x10.1), (34, vs x12), (36, vs x13.1)], [(1000000, .box [vl (eI .u8) x13.2.code, vi x13.2.at', vi x13.2.seed])]⟩) ?_ (fun d15 => ?_)
  exact DE.all [10] (by kernel_rfl) (by simp) (List.forall_mem_cons.2 ⟨DEs.mk (i := 10) (L' := #[true, true, true, true, true, true, true, true, true, true, true, false, false, false, false, false]) rfl (EStep.le (EStep.ofL (x_lstep_call (f := 32) (caps := []) (xs := [vl eOp s6.1, vi x10.1, vs x12, vs x13.1]) (ys := [vl eOp s6.1, vi x10.1, vs x12, vs x13.1]) (res := ⟨[.deep 61 5 x14.1.length [.flat, .flat, .flat, .flat, (.sl 2 1 [.flat])] (x14.1.map eOp), .v (vi x14.2)], [], false⟩) (x := .tup [.own 37, vi x14.2]) (y := some (.deep 61 5 x14.1.length [.flat, .flat, .flat, .flat, (.sl 2 1 [.flat])] (x14.1.map eOp))) rfl ents32 (spec_MakeOp_run s6.1 x10.1 x12 x13.1 _ hx14) rfl (by intro hc; cases hc)) (by kernel_rfl)) Le.sub0) (by kernel_rfl) d16, (fun _ h => absurd h List.not_mem_nil)⟩)
  refine DE.share (fuel := 7) (L := #[true, true, true, true, true, true, true, false, true, true, false, false, false, false, false, false]) (σ := ⟨75, [(0, .ref 1000000 0), (5, vl eOp s6.1), (6, vl eOp x2.1), (7, vi s6.2.1), (27, vl eOp s6.1), (29, vi x10.1), (33, .eref 30 1 (Int.toNat x11.1) 0), (36, vs x13.1)], [(30, .arr 9 1 ([(ByteArray.mk #[97, 115, 104]), (ByteArray.mk #[98, 114, 105, 103])] : List ByteArray).length (([(ByteArray.mk #[97, 115, 104]), (ByteArray.mk #[98, 114, 105, 103])] : List ByteArray).map eS)), (1000000, .box [vl (eI .u8) x13.2.code, vi x13.2.at', vi x13.2.seed])]⟩) ?_ (fun d14 => ?_)
  exact DE.all [7] (by kernel_rfl) (by simp) (List.forall_mem_cons.2 ⟨DEs.mk (i := 7) (L' := #[true, true, true, true, true, true, true, true, true, true, false, false, false, false, false, false]) rfl (EStep.le (EStep.ofL (x_load_own (d := 30) (m := 1) (j := 0) (L := ([(ByteArray.mk #[97, 115, 104]), (ByteArray.mk #[98, 114, 105, 103])] : List ByteArray)) (f := eS) (ti := ti9) (e := 9) (v := vs x12) tbok rfl hx12) (by kernel_rfl)) Le.sub0) (by kernel_rfl) d15, (fun _ h => absurd h List.not_mem_nil)⟩)
  refine DE.share (fuel := 7) (L := #[true, true, true, true, true, true, true, true, true, false, false, false, false, false, false, false]) (σ := ⟨75, [(0, .ref 1000000 0), (5, vl eOp s6.1), (6, vl eOp x2.1), (7, vi s6.2.1), (27, vl eOp s6.1), (29, vi x10.1), (34, vs x12), (35, .ref 1000000 0)], [(1000000, .box [vl (eI .u8) x11.2.code, vi x11.2.at', vi x11.2.seed])]⟩) ?_ (fun d13 => ?_)
  exact DE.all [9] (by kernel_rfl) (by simp) (List.forall_mem_cons.2 ⟨DEs.mk (i := 9) (L' := #[true, true, true, true, true, true, true, true, true, true, false, false, false, false, false, false]) rfl (EStep.le (x_estep_call (f := 95) (caps := []) (xs := [.ref 1000000 0]) (pre := []) (post := []) (qs := []) (z := .ref 1000000 0) (d := 1000000) (pl := 0) (y := .box [vl (eI .u8) x11.2.code, vi x11.2.at', vi x11.2.seed]) (y' := .box [vl (eI .u8) x13.2.code, vi x13.2.at', vi x13.2.seed]) (res := ⟨[.v (vs x13.1)], [(0, .box [vl (eI .u8) x13.2.code, vi x13.2.at', vi x13.2.seed])], false⟩) (x := vs x13.1) (yo := none) rfl rfl rfl rfl rfl ents95 (spec_l01GoodPhrase_run x11.2 _ hx13) rfl rfl false (fun _ => rfl) (by intro hc; cases hc)) Le.sub0) (by kernel_rfl) d15, (fun _ h => absurd h List.not_mem_nil)⟩)
  refine DE.share (fuel := 8) (L := #[true, true, true, true, true, true, false, false, true, true, false, false, false, false, false, false]) (σ := ⟨75, [(0, .ref 1000000 0), (5, vl eOp s6.1), (6, vl eOp x2.1), (7, vi s6.2.1), (27, vl eOp s6.1), (29, vi x10.1), (30, .own 30), (32, vi x11.1), (36, vs x13.1)], [(30, .arr 9 1 ([(ByteArray.mk #[97, 115, 104]), (ByteArray.mk #[98, 114, 105, 103])] : List ByteArray).length (([(ByteArray.mk #[97, 115, 104]), (ByteArray.mk #[98, 114, 105, 103])] : List ByteArray).map eS)), (1000000, .box [vl (eI .u8) x13.2.code, vi x13.2.at', vi x13.2.seed])]⟩) ?_ (fun d12 => ?_)
  exact DE.all [6] (by kernel_rfl) (by simp) (List.forall_mem_cons.2 ⟨DEs.mk (i := 6) (L' := #[true, true, true, true, true, true, true, false, true, true, false, false, false, false, false, false]) rfl (EStep.le (EStep.ofL (x_index_own (d := 30) (L := ([(ByteArray.mk #[97, 115, 104]), (ByteArray.mk #[98, 114, 105, 103])] : List ByteArray)) (f := eS) (ti := ti86) (tj := ti9) (e := 9) (e' := 9) (m := 1) (k := .i64) tbok rfl hx12) (by kernel_rfl)) Le.sub0) (by kernel_rfl) d14, (fun _ h => absurd h List.not_mem_nil)⟩)
  refine DE.share (fuel := 8) (L := #[true, true, true, true, true, true, true, false, true, false, false, false, false, false, false, false]) (σ := ⟨75, [(0, .ref 1000000 0), (5, vl eOp s6.1), (6, vl eOp x2.1), (7, vi s6.2.1), (27, vl eOp s6.1), (29, vi x10.1), (33, .eref 30 1 (Int.toNat x11.1) 0), (35, .ref 1000000 0)], [(30, .arr 9 1 ([(ByteArray.mk #[97, 115, 104]), (ByteArray.mk #[98, 114, 105, 103])] : List ByteArray).length (([(ByteArray.mk #[97, 115, 104]), (ByteArray.mk #[98, 114, 105, 103])] : List ByteArray).map eS)), (1000000, .box [vl (eI .u8) x11.2.code, vi x11.2.at', vi x11.2.seed])]⟩) ?_ (fun d11 => ?_)
  exact DE.all [7, 9] (by kernel_rfl) (by simp) (List.forall_mem_cons.2 ⟨DEs.mk (i := 7) (L' := #[true, true, true, true, true, true, true, true, true, false, false, false, false, false, false, false]) rfl (EStep.le (EStep.ofL (x_load_own (d := 30) (m := 1) (j := 0) (L := ([(ByteArray.mk #[97, 115, 104]), (ByteArray.mk #[98, 114, 105, 103])] : List ByteArray)) (f := eS) (ti := ti9) (e := 9) (v := vs x12) tbok rfl hx12) (by kernel_rfl)) Le.sub0) (by kernel_rfl) d13, (List.forall_mem_cons.2 ⟨DEs.mk (i := 9) (L' := #[true, true, true, true, true, true, true, false, true, true, false, false, false, false, false, false]) rfl (EStep.le (x_estep_call (f := 95) (caps := []) (xs := [.ref 1000000 0]) (pre := []) (post := []) (qs := []) (z := .ref 1000000 0) (d := 1000000) (pl := 0) (y := .box [vl (eI .u8) x11.2.code, vi x11.2.at', vi x11.2.seed]) (y' := .box [vl (eI .u8) x13.2.code, vi x13.2.at', vi x13.2.seed]) (res := ⟨[.v (vs x13.1)], [(0, .box [vl (eI .u8) x13.2.code, vi x13.2.at', vi x13.2.seed])], false⟩) (x := vs x13.1) (yo := none) rfl rfl rfl rfl rfl ents95 (spec_l01GoodPhrase_run x11.2 _ hx13) rfl rfl false (fun _ => rfl) (by intro hc; cases hc)) Le.sub0) (by kernel_rfl) d14, (fun _ h => absurd h List.not_mem_nil)⟩)⟩)
  refine DE.share (fuel := 9) (L := #[true, true, true, false, true, true, false, false, true, true, false, false, false, false, false, false]) (σ := ⟨75, [(0, .ref 1000000 0), (5, vl eOp s6.1), (6, vl eOp x2.1), (7, vi s6.2.1), (27, vl eOp s6.1), (29, vi x10.1), (32, vi x11.1), (36, vs x13.1)], [(1000000, .box [vl (eI .u8) x13.2.code, vi x13.2.at', vi x13.2.seed])]⟩) ?_ (fun d10 => ?_)
  exact DE.all [3] (by kernel_rfl) (by simp) (List.forall_mem_cons.2 ⟨DEs.mk (i := 3) (L' := #[true, true, true, true, true, true, false, false, true, true, false, false, false, false, false, false]) rfl (EStep.le (EStep.ofN2 tbok (σ' := ⟨75, [(30, .own 30), (0, .ref 1000000 0), (5, vl eOp s6.1), (6, vl eOp x2.1), (7, vi s6.2.1), (27, vl eOp s6.1), (29, vi x10.1), (32, vi x11.1), (36, vs x13.1)], [(30, .arr 9 1 ([(ByteArray.mk #[97, 115, 104]), (ByteArray.mk #[98, 114, 105, 103])] : List ByteArray).length (([(ByteArray.mk #[97, 115, 104]), (ByteArray.mk #[98, 114, 105, 103])] : List ByteArray).map eS)), (1000000, .box [vl (eI .u8) x13.2.code, vi x13.2.at', vi x13.2.seed])]⟩) (by kernel_rfl)) Le.sub0) (by kernel_rfl) d12, (fun _ h => absurd h List.not_mem_nil)⟩)
  refine DE.share (fuel := 9) (L := #[true, true, true, true, true, true, false, false, true, false, false, false, false, false, false, false]) (σ := ⟨75, [(0, .ref 1000000 0), (5, vl eOp s6.1), (6, vl eOp x2.1), (7, vi s6.2.1), (27, vl eOp s6.1), (29, vi x10.1), (30, .own 30), (32, vi x11.1), (35, .ref 1000000 0)], [(30, .arr 9 1 ([(ByteArray.mk #[97, 115, 104]), (ByteArray.mk #[98, 114, 105, 103])] : List ByteArray).length (([(ByteArray.mk #[97, 115, 104]), (ByteArray.mk #[98, 114, 105, 103])] : List ByteArray).map eS)), (1000000, .box [vl (eI .u8) x11.2.code, vi x11.2.at', vi x11.2.seed])]⟩) ?_ (fun d9 => ?_)
  exact DE.all [6, 9] (by kernel_rfl) (by simp) (List.forall_mem_cons.2 ⟨DEs.mk (i := 6) (L' := #[true, true, true, true, true, true, true, false, true, false, false, false, false, false, false, false]) rfl (EStep.le (EStep.ofL (x_index_own (d := 30) (L := ([(ByteArray.mk #[97, 115, 104]), (ByteArray.mk #[98, 114, 105, 103])] : List ByteArray)) (f := eS) (ti := ti86) (tj := ti9) (e := 9) (e' := 9) (m := 1) (k := .i64) tbok rfl hx12) (by kernel_rfl)) Le.sub0) (by kernel_rfl) d11, (List.forall_mem_cons.2 ⟨DEs.mk (i := 9) (L' := #[true, true, true, true, true, true, false, false, true, true, false, false, false, false, false, false]) rfl (EStep.le (x_estep_call (f := 95) (caps := []) (xs := [.ref 1000000 0]) (pre := []) (post := []) (qs := []) (z := .ref 1000000 0) (d := 1000000) (pl := 0) (y := .box [vl (eI .u8) x11.2.code, vi x11.2.at', vi x11.2.seed]) (y' := .box [vl (eI .u8) x13.2.code, vi x13.2.at', vi x13.2.seed]) (res := ⟨[.v (vs x13.1)], [(0, .box [vl (eI .u8) x13.2.code, vi x13.2.at', vi x13.2.seed])], false⟩) (x := vs x13.1) (yo := none) rfl rfl rfl rfl rfl ents95 (spec_l01GoodPhrase_run x11.2 _ hx13) rfl rfl false (fun _ => rfl) (by intro hc; cases hc)) Le.sub0) (by kernel_rfl) d12, (fun _ h => absurd h List.not_mem_nil)⟩)⟩)
  refine DE.share (fuel := 10) (L := #[true, true, true, false, true, true, false, false, true, false, false, false, false, false, false, false]) (σ := ⟨75, [(0, .ref 1000000 0), (5, vl eOp s6.1), (6, vl eOp x2.1), (7, vi s6.2.1), (27, vl eOp s6.1), (29, vi x10.1), (32, vi x11.1), (35, .ref 1000000 0)], [(1000000, .box [vl (eI .u8) x11.2.code, vi x11.2.at', vi x11.2.seed])]⟩) ?_ (fun d8 => ?_)
  exact DE.all [3, 9] (by kernel_rfl) (by simp) (List.forall_mem_cons.2 ⟨DEs.mk (i := 3) (L' := #[true, true, true, true, true, true, false, false, true, false, false, false, false, false, false, false]) rfl (EStep.le (EStep.ofN2 tbok (σ' := ⟨75, [(30, .own 30), (0, .ref 1000000 0), (5, vl eOp s6.1), (6, vl eOp x2.1), (7, vi s6.2.1), (27, vl eOp s6.1), (29, vi x10.1), (32, vi x11.1), (35, .ref 1000000 0)], [(30, .arr 9 1 ([(ByteArray.mk #[97, 115, 104]), (ByteArray.mk #[98, 114, 105, 103])] : List ByteArray).length (([(ByteArray.mk #[97, 115, 104]), (ByteArray.mk #[98, 114, 105, 103])] : List ByteArray).map eS)), (1000000, .box [vl (eI .u8) x11.2.code, vi x11.2.at', vi x11.2.seed])]⟩) (by kernel_rfl)) Le.sub0) (by kernel_rfl) d9, (List.forall_mem_cons.2 ⟨DEs.mk (i := 9) (L' := #[true, true, true, false, true, true, false, false, true, true, false, false, false, false, false, false]) rfl (EStep.le (x_estep_call (f := 95) (caps := []) (xs := [.ref 1000000 0]) (pre := []) (post := []) (qs := []) (z := .ref 1000000 0) (d := 1000000) (pl := 0) (y := .box [vl (eI .u8) x11.2.code, vi x11.2.at', vi x11.2.seed]) (y' := .box [vl (eI .u8) x13.2.code, vi x13.2.at', vi x13.2.seed]) (res := ⟨[.v (vs x13.1)], [(0, .box [vl (eI .u8) x13.2.code, vi x13.2.at', vi x13.2.seed])], false⟩) (x := vs x13.1) (yo := none) rfl rfl rfl rfl rfl ents95 (spec_l01GoodPhrase_run x11.2 _ hx13) rfl rfl false (fun _ => rfl) (by intro hc; cases hc)) Le.sub0) (by kernel_rfl) d10, (fun _ h => absurd h List.not_mem_nil)⟩)⟩)
  refine DE.share (fuel := 10) (L := #[true, true, true, true, true, false, false, false, true, false, false, false, false, false, false, false]) (σ := ⟨75, [(0, .ref 1000000 0), (5, vl eOp s6.1), (6, vl eOp x2.1), (7, vi s6.2.1), (27, vl eOp s6.1), (29, vi x10.1), (30, .own 30), (31, .ref 1000000 0), (35, .ref 1000000 0)], [(30, .arr 9 1 ([(ByteArray.mk #[97, 115, 104]), (ByteArray.mk #[98, 114, 105, 103])] : List ByteArray).length (([(ByteArray.mk #[97, 115, 104]), (ByteArray.mk #[98, 114, 105, 103])] : List ByteArray).map eS)), (1000000, .box [vl (eI .u8) x10.2.code, vi x10.2.at', vi x10.2.seed])]⟩) ?_ (fun d7 => ?_)
  exact DE.all [5] (by kernel_rfl) (by simp) (List.forall_mem_cons.2 ⟨DEs.mk (i := 5) (L' := #[true, true, true, true, true, true, false, false, true, false, false, false, false, false, false, false]) rfl (EStep.le (x_estep_call (f := 77) (caps := []) (xs := [.ref 1000000 0, vi 2]) (pre := []) (post := [vi 2]) (qs := [vi 2]) (z := .ref 1000000 0) (d := 1000000) (pl := 0) (y := .box [vl (eI .u8) x10.2.code, vi x10.2.at', vi x10.2.seed]) (y' := .box [vl (eI .u8) x11.2.code, vi x11.2.at', vi x11.2.seed]) (res := ⟨[.v (vi x11.1)], [(0, .box [vl (eI .u8) x11.2.code, vi x11.2.at', vi x11.2.seed])], false⟩) (x := vi x11.1) (yo := none) rfl rfl rfl rfl rfl ents77 (spec_l01Next_run x10.2 2 _ hx11) rfl rfl false (fun _ => rfl) (by intro hc; cases hc)) Le.sub0) (by kernel_rfl) d9, (fun _ h => absurd h List.not_mem_nil)⟩)
  refine DE.share (fuel := 11) (L := #[true, true, false, true, true, false, false, false, true, false, false, false, false, false, false, false]) (σ := ⟨75, [(0, .ref 1000000 0), (5, vl eOp s6.1), (6, vl eOp x2.1), (7, vi s6.2.1), (27, vl eOp s6.1), (28, .ref 1000000 0), (30, .own 30), (31, .ref 1000000 0), (35, .ref 1000000 0)], [(30, .arr 9 1 ([(ByteArray.mk #[97, 115, 104]), (ByteArray.mk #[98, 114, 105, 103])] : List ByteArray).length (([(ByteArray.mk #[97, 115, 104]), (ByteArray.mk #[98, 114, 105, 103])] : List ByteArray).map eS)), (1000000, .box [vl (eI .u8) s6.2.2.code, vi s6.2.2.at', vi s6.2.2.seed])]⟩) ?_ (fun d6 => ?_)
  exact DE.all [2] (by kernel_rfl) (by simp) (List.forall_mem_cons.2 ⟨DEs.mk (i := 2) (L' := #[true, true, true, true, true, false, false, false, true, false, false, false, false, false, false, false]) rfl (EStep.le (x_estep_call (f := 77) (caps := []) (xs := [.ref 1000000 0, vi 2]) (pre := []) (post := [vi 2]) (qs := [vi 2]) (z := .ref 1000000 0) (d := 1000000) (pl := 0) (y := .box [vl (eI .u8) s6.2.2.code, vi s6.2.2.at', vi s6.2.2.seed]) (y' := .box [vl (eI .u8) x10.2.code, vi x10.2.at', vi x10.2.seed]) (res := ⟨[.v (vi x10.1)], [(0, .box [vl (eI .u8) x10.2.code, vi x10.2.at', vi x10.2.seed])], false⟩) (x := vi x10.1) (yo := none) rfl rfl rfl rfl rfl ents77 (spec_l01Next_run s6.2.2 2 _ hx10) rfl rfl false (fun _ => rfl) (by intro hc; cases hc)) Le.sub0) (by kernel_rfl) d7, (fun _ h => absurd h List.not_mem_nil)⟩)
  refine DE.share (fuel := 11) (L := #[true, true, true, false, true, false, false, false, true, false, false, false, false, false, false, false]) (σ := ⟨75, [(0, .ref 1000000 0), (5, vl eOp s6.1), (6, vl eOp x2.1), (7, vi s6.2.1), (27, vl eOp s6.1), (29, vi x10.1), (31, .ref 1000000 0), (35, .ref 1000000 0)], [(1000000, .box [vl (eI .u8) x10.2.code, vi x10.2.at', vi x10.2.seed])]⟩) ?_ (fun d5 => ?_)
  exact DE.all [3, 5] (by kernel_rfl) (by simp) (List.forall_mem_cons.2 ⟨DEs.mk (i := 3) (L' := #[true, true, true, true, true, false, false, false, true, false, false, false, false, false, false, false]) rfl (EStep.le (EStep.ofN2 tbok (σ' := ⟨75, [(30, .own 30), (0, .ref 1000000 0), (5, vl eOp s6.1), (6, vl eOp x2.1), (7, vi s6.2.1), (27, vl eOp s6.1), (29, vi x10.1), (31, .ref 1000000 0), (35, .ref 1000000 0)], [(30, .arr 9 1 ([(ByteArray.mk #[97, 115, 104]), (ByteArray.mk #[98, 114, 105, 103])] : List ByteArray).length (([(ByteArray.mk #[97, 115, 104]), (ByteArray.mk #[98, 114, 105, 103])] : List ByteArray).map eS)), (1000000, .box [vl (eI .u8) x10.2.code, vi x10.2.at', vi x10.2.seed])]⟩) (by kernel_rfl)) Le.sub0) (by kernel_rfl) d7, (List.forall_mem_cons.2 ⟨DEs.mk (i := 5) (L' := #[true, true, true, false, true, true, false, false, true, false, false, false, false, false, false, false]) rfl (EStep.le (x_estep_call (f := 77) (caps := []) (xs := [.ref 1000000 0, vi 2]) (pre := []) (post := [vi 2]) (qs := [vi 2]) (z := .ref 1000000 0) (d := 1000000) (pl := 0) (y := .box [vl (eI .u8) x10.2.code, vi x10.2.at', vi x10.2.seed]) (y' := .box [vl (eI .u8) x11.2.code, vi x11.2.at', vi x11.2.seed]) (res := ⟨[.v (vi x11.1)], [(0, .box [vl (eI .u8) x11.2.code, vi x11.2.at', vi x11.2.seed])], false⟩) (x := vi x11.1) (yo := none) rfl rfl rfl rfl rfl ents77 (spec_l01Next_run x10.2 2 _ hx11) rfl rfl false (fun _ => rfl) (by intro hc; cases hc)) Le.sub0) (by kernel_rfl) d8, (fun _ h => absurd h List.not_mem_nil)⟩)⟩)
  refine DE.share (fuel := 12) (L := #[true, true, false, false, true, false, false, false, true, false, false, false, false, false, false, false]) (σ := ⟨75, [(0, .ref 1000000 0), (5, vl eOp s6.1), (6, vl eOp x2.1), (7, vi s6.2.1), (27, vl eOp s6.1), (28, .ref 1000000 0), (31, .ref 1000000 0), (35, .ref 1000000 0)], [(1000000, .box [vl (eI .u8) s6.2.2.code, vi s6.2.2.at', vi s6.2.2.seed])]⟩) ?_ (fun d4 => ?_)
  exact DE.all [2, 3] (by kernel_rfl) (by simp) (List.forall_mem_cons.2 ⟨DEs.mk (i := 2) (L' := #[true, true, true, false, true, false, false, false, true, false, false, false, false, false, false, false]) rfl (EStep.le (x_estep_call (f := 77) (caps := []) (xs := [.ref 1000000 0, vi 2]) (pre := []) (post := [vi 2]) (qs := [vi 2]) (z := .ref 1000000 0) (d := 1000000) (pl := 0) (y := .box [vl (eI .u8) s6.2.2.code, vi s6.2.2.at', vi s6.2.2.seed]) (y' := .box [vl (eI .u8) x10.2.code, vi x10.2.at', vi x10.2.seed]) (res := ⟨[.v (vi x10.1)], [(0, .box [vl (eI .u8) x10.2.code, vi x10.2.at', vi x10.2.seed])], false⟩) (x := vi x10.1) (yo := none) rfl rfl rfl rfl rfl ents77 (spec_l01Next_run s6.2.2 2 _ hx10) rfl rfl false (fun _ => rfl) (by intro hc; cases hc)) Le.sub0) (by kernel_rfl) d5, (List.forall_mem_cons.2 ⟨DEs.mk (i := 3) (L' := #[true, true, false, true, true, false, false, false, true, false, false, false, false, false, false, false]) rfl (EStep.le (EStep.ofN2 tbok (σ' := ⟨75, [(30, .own 30), (0, .ref 1000000 0), (5, vl eOp s6.1), (6, vl eOp x2.1), (7, vi s6.2.1), (27, vl eOp s6.1), (28, .ref 1000000 0), (31, .ref 1000000 0), (35, .ref 1000000 0)], [(30, .arr 9 1 ([(ByteArray.mk #[97, 115, 104]), (ByteArray.mk #[98, 114, 105, 103])] : List ByteArray).length (([(ByteArray.mk #[97, 115, 104]), (ByteArray.mk #[98, 114, 105, 103])] : List ByteArray).map eS)), (1000000, .box [vl (eI .u8) s6.2.2.code, vi s6.2.2.at', vi s6.2.2.seed])]⟩) (by kernel_rfl)) Le.sub0) (by kernel_rfl) d6, (fun _ h => absurd h List.not_mem_nil)⟩)⟩)
  refine DE.share (fuel := 13) (L := #[true, true, false, false, true, false, false, false, false, false, false, false, false, false, false, false]) (σ := ⟨75, [(0, .ref 1000000 0), (5, vl eOp s6.1), (6, vl eOp x2.1), (7, vi s6.2.1), (27, vl eOp s6.1), (28, .ref 1000000 0), (31, .ref 1000000 0)], [(1000000, .box [vl (eI .u8) s6.2.2.code, vi s6.2.2.at', vi s6.2.2.seed])]⟩) ?_ (fun d3 => ?_)
  exact DE.take (i := 8) (L' := #[true, true, false, false, true, false, false, false, true, false, false, false, false, false, false, false]) rfl (.inl rfl) rfl (by kernel_rfl) (by kernel_rfl) (by kernel_rfl) (EStep.le (EStep.ofN2 tbok (σ' := ⟨75, [(35, .ref 1000000 0), (0, .ref 1000000 0), (5, vl eOp s6.1), (6, vl eOp x2.1), (7, vi s6.2.1), (27, vl eOp s6.1), (28, .ref 1000000 0), (31, .ref 1000000 0)], [(1000000, .box [vl (eI .u8) s6.2.2.code, vi s6.2.2.at', vi s6.2.2.seed])]⟩) (by kernel_rfl)) Le.sub0) (by kernel_rfl) d4
  refine DE.share (fuel := 14) (L := #[true, true, false, false, false, false, false, false, false, false, false, false, false, false, false, false]) (σ := ⟨75, [(0, .ref 1000000 0), (5, vl eOp s6.1), (6, vl eOp x2.1), (7, vi s6.2.1), (27, vl eOp s6.1), (28, .ref 1000000 0)], [(1000000, .box [vl (eI .u8) s6.2.2.code, vi s6.2.2.at', vi s6.2.2.seed])]⟩) ?_ (fun d2 => ?_)
  exact DE.take (i := 4) (L' := #[true, true, false, false, true, false, false, false, false, false, false, false, false, false, false, false]) rfl (.inl rfl) rfl (by kernel_rfl) (by kernel_rfl) (by kernel_rfl) (EStep.le (EStep.ofN2 tbok (σ' := ⟨75, [(31, .ref 1000000 0), (0, .ref 1000000 0), (5, vl eOp s6.1), (6, vl eOp x2.1), (7, vi s6.2.1), (27, vl eOp s6.1), (28, .ref 1000000 0)], [(1000000, .box [vl (eI .u8) s6.2.2.code, vi s6.2.2.at', vi s6.2.2.seed])]⟩) (by kernel_rfl)) Le.sub0) (by kernel_rfl) d3
  refine DE.share (fuel := 15) (L := #[true, false, false, false, false, false, false, false, false, false, false, false, false, false, false, false]) (σ := ⟨75, [(0, .ref 1000000 0), (5, vl eOp s6.1), (6, vl eOp x2.1), (7, vi s6.2.1), (27, vl eOp s6.1)], [(1000000, .box [vl (eI .u8) s6.2.2.code, vi s6.2.2.at', vi s6.2.2.seed])]⟩) ?_ (fun d1 => ?_)
  exact DE.take (i := 1) (L' := #[true, true, false, false, false, false, false, false, false, false, false, false, false, false, false, false]) rfl (.inl rfl) rfl (by kernel_rfl) (by kernel_rfl) (by kernel_rfl) (EStep.le (EStep.ofN2 tbok (σ' := ⟨75, [(28, .ref 1000000 0), (0, .ref 1000000 0), (5, vl eOp s6.1), (6, vl eOp x2.1), (7, vi s6.2.1), (27, vl eOp s6.1)], [(1000000, .box [vl (eI .u8) s6.2.2.code, vi s6.2.2.at', vi s6.2.2.seed])]⟩) (by kernel_rfl)) Le.sub0) (by kernel_rfl) d2
  exact DE.take (i := 0) (L' := #[true, false, false, false, false, false, false, false, false, false, false, false, false, false, false, false]) rfl (.inl rfl) rfl (by kernel_rfl) (by kernel_rfl) (by kernel_rfl) (EStep.le (EStep.ofN2 tbok (σ' := ⟨75, [(27, vl eOp s6.1), (0, .ref 1000000 0), (5, vl eOp s6.1), (6, vl eOp x2.1), (7, vi s6.2.1), (23, vb (decide (s6.2.1 > 0)))], [(1000000, .box [vl (eI .u8) s6.2.2.code, vi s6.2.2.at', vi s6.2.2.seed])]⟩) (by kernel_rfl)) Le.sub0) (by kernel_rfl) d1
  refine nx_n ?_
  refine swp_seq ?_
  refine swp_reg ?_
  refine SRun.ck tbok 2 ⟨75, [(0, .ref 1000000 0), (5, vl eOp s6.1), (6, vl eOp x2.1), (7, vi s6.2.1), (8, .own 37), (41, vb (x14.2 == 0))], [(37, .deep 61 5 x14.1.length [.flat, .flat, .flat, .flat, (.sl 2 1 [.flat])] (x14.1.map eOp)), (1000000, .box [vl (eI .u8) x13.2.code, vi x13.2.at', vi x13.2.seed])]⟩ ?_
  refine SRun.nil ?_
  refine nx_n ?_
  refine swp_cond (b := (x14.2 == 0)) (by kernel_rfl) (fun hb => ?_) (fun hb => ?_)
  replace h := cond_t hb h
  refine swp_reg ?_
  refine SRun.ck tbok 2 ⟨75, [(0, .ref 1000000 0), (5, .own 37), (6, vl eOp x2.1), (7, vi s6.2.1)], [(37, .deep 61 5 x14.1.length [.flat, .flat, .flat, .flat, (.sl 2 1 [.flat])] (x14.1.map eOp)), (1000000, .box [vl (eI .u8) x13.2.code, vi x13.2.at', vi x13.2.seed])]⟩ ?_
  refine SRun.nil ?_
  replace h := Option.some.inj h
  subst h
  exact q_bn (q_j ((Le.frzD' (d := 37) (e := 61) (m := 5) (n := x14.1.length) (ss := [.flat, .flat, .flat, .flat, (.sl 2 1 [.flat])]) (es := x14.1.map eOp) (by kernel_rfl) (by kernel_rfl)).trans (Le.sub0)))
  replace h := cond_f hb h
  refine swp_skip ?_
  replace h := Option.some.inj h
  subst h
  exact q_bn (q_j (Le.sub0))
  refine swp_reg ?_
  refine SRun.ck tbok 3 ⟨75, [(0, .ref 1000000 0), (5, vl eOp j8.1), (6, vl eOp x2.1), (7, vi (w64 (s6.2.1 - 1)))], [(1000000, .box [vl (eI .u8) j8.2.code, vi j8.2.at', vi j8.2.seed])]⟩ ?_
  refine SRun.nil ?_
  replace h := Option.some.inj h
  subst h
  exact q_l (Le.sub0)
  replace h := cond_f hb h
  refine swp_exit ?_
  replace h := Option.some.inj h
  subst h
  exact nx_e (q_re (q_bh (q_j (Le.sub0))))
  refine swp_seq ?_
  refine swp_seq ?_
  refine swp_reg ?_
  refine SRun.ck tbok 1 ⟨75, [(0, .ref 1000000 0), (5, vl eOp j4.1), (6, vl eOp x2.1), (43, .ref 1000000 0)], [(1000000, .box [vl (eI .u8) j4.2.code, vi j4.2.at', vi j4.2.seed])]⟩ ?_
  obtain ⟨x15, hx15, h⟩ := bind_some h
  refine SRun.estep (x_estep_call (f := 77) (caps := []) (xs := [.ref 1000000 0, vi 4]) (pre := []) (post := [vi 4]) (qs := [vi 4]) (z := .ref 1000000 0) (d := 1000000) (pl := 0) (y := .box [vl (eI .u8) j4.2.code, vi j4.2.at', vi j4.2.seed]) (y' := .box [vl (eI .u8) x15.2.code, vi x15.2.at', vi x15.2.seed]) (res := ⟨[.v (vi x15.1)], [(0, .box [vl (eI .u8) x15.2.code, vi x15.2.at', vi x15.2.seed])], false⟩) (x := vi x15.1) (yo := none) rfl rfl rfl rfl rfl ents77 (spec_l01Next_run j4.2 4 _ hx15) rfl rfl false (fun _ => rfl) (by intro hc; cases hc)) ?_
  refine SRun.ck tbok 1 ⟨75, [(0, .ref 1000000 0), (5, vl eOp j4.1), (6, vl eOp x2.1), (10, vi x15.1)], [(1000000, .box [vl (eI .u8) x15.2.code, vi x15.2.at', vi x15.2.seed])]⟩ ?_
  refine SRun.nil ?_
  refine nx_n ?_
  refine swp_seqJ h (fun j16 => ⟨75, [(0, .ref 1000000 0), (5, vl eOp j4.1), (6, vl eOp j16.1)], [(1000000, .box [vl (eI .u8) j16.2.code, vi j16.2.at', vi j16.2.seed])]⟩) (fun v17 h => ?_) (fun j16 h => ?_)
  refine swp_blk (a := v17) ?_
  refine swp_lpL (r := v17) (s := (x2.1, x15.1, x15.2)) _ (fun s18 => ⟨75, [(0, .ref 1000000 0), (5, vl eOp j4.1), (6, vl eOp s18.1), (10, vi s18.2.1)], [(1000000, .box [vl (eI .u8) s18.2.2.code, vi s18.2.2.at', vi s18.2.2.seed])]⟩) _ (Le.sub0) h (fun s18 v19 h => ?_)
  refine swp_seq ?_
  refine swp_seq ?_
  refine swp_reg ?_
  refine SRun.ck tbok 2 ⟨75, [(0, .ref 1000000 0), (5, vl eOp j4.1), (6, vl eOp s18.1), (10, vi s18.2.1), (46, vb (decide (s18.2.1 > 0)))], [(1000000, .box [vl (eI .u8) s18.2.2.code, vi s18.2.2.at', vi s18.2.2.seed])]⟩ ?_
  refine SRun.nil ?_
  refine nx_n ?_
  refine swp_cond (b := (decide (s18.2.1 > 0))) (by kernel_rfl) (fun hb => ?_) (fun hb => ?_)
  replace h := cond_t hb h
  refine swp_skip ?_
  refine nx_n ?_
  refine swp_seq ?_
  refine swp_seqJ h (fun j20 => ⟨75, [(0, .ref 1000000 0), (5, vl eOp j4.1), (6, vl eOp j20.1), (10, vi s18.2.1)], [(1000000, .box [vl (eI .u8) j20.2.code, vi j20.2.at', vi j20.2.seed])]⟩) (fun v21 h => ?_) (fun j20 h => ?_)
  refine swp_blk (a := v21) ?_
  refine swp_seq ?_
  obtain ⟨x22, hx22, h⟩ := bind_some h
  obtain ⟨x23, hx23, h⟩ := bind_some h
  obtain ⟨x24, hx24, h⟩ := bind_some h
  obtain ⟨x25, hx25, h⟩ := bind_some h
  obtain ⟨x26, hx26, h⟩ := bind_some h
  refine swp_dr mixed ?_
  refine DGo.enum (σE := ⟨75, [(0, .ref 1000000 0), (5, vl eOp j4.1), (6, vl eOp s18.1), (10, vi s18.2.1), (11, .own 61), (12, vi x26.2)], [(61, .deep 61 5 x26.1.length [.flat, .flat, .flat, .flat, (.sl 2 1 [.flat])] (x26.1.map eOp)), (1000000, .box [vl (eI .u8) x25.2.code, vi x25.2.at', vi x25.2.seed])]⟩) (n := 17) (L0 := #[false, false, false, false, false, false, false, false, false, false, false, false, false, false, false, false, false]) (by kernel_rfl) (by kernel_rfl) (fun K hk => ?_) ?_
  refine DE.share (fuel := 0) (L := #[true, true, true, true, true, true, true, true, true, true, true, true, true, true, true, true, true]) (σ := ⟨75, [(0, .ref 1000000 0), (5, vl eOp j4.1), (6, vl eOp s18.1), (10, vi s18.2.1), (11, .own 61), (12, vi x26.2)], [(61, .deep 61 5 x26.1.length [.flat, .flat, .flat, .flat, (.sl 2 1 [.flat])] (x26.1.map eOp)), (1000000, .box [vl (eI .u8) x25.2.code, vi x25.2.at', vi x25.2.seed])]⟩) ?_ (fun d33 => ?_)
  exact DE.done (by kernel_rfl) hk
  refine DE.share (fuel := 1) (L := #[true, true, true, true, true, true, true, true, true, true, true, true, true, true, true, true, false]) (σ := ⟨75, [(0, .ref 1000000 0), (5, vl eOp j4.1), (6, vl eOp s18.1), (10, vi s18.2.1), (11, .own 61), (63, vi x26.2)], [(61, .deep 61 5 x26.1.length [.flat, .flat, .flat, .flat, (.sl 2 1 [.flat])] (x26.1.map eOp)), (1000000, .box [vl (eI .u8) x25.2.code, vi x25.2.at', vi x25.2.seed])]⟩) ?_ (fun d32 => ?_)
  exact DE.take (i := 16) (L' := #[true, true, true, true, true, true, true, true, true, true, true, true, true, true, true, true, true]) rfl (.inr rfl) rfl (by kernel_rfl) (by kernel_rfl) (by kernel_rfl) (EStep.le (EStep.ofN2 tbok (σ' := ⟨75, [(12, vi x26.2), (0, .ref 1000000 0), (5, vl eOp j4.1), (6, vl eOp s18.1), (10, vi s18.2.1), (11, .own 61), (63, vi x26.2)], [(61, .deep 61 5 x26.1.length [.flat, .flat, .flat, .flat, (.sl 2 1 [.flat])] (x26.1.map eOp)), (1000000, .box [vl (eI .u8) x25.2.code, vi x25.2.at', vi x25.2.seed])]⟩) (by kernel_rfl)) Le.sub0) (by kernel_rfl) d33
  refine DE.share (fuel := 2) (L := #[true, true, true, true, true, true, true, true, true, true, true, true, true, true, true, false, false]) (σ := ⟨75, [(0, .ref 1000000 0), (5, vl eOp j4.1), (6, vl eOp s18.1), (10, vi s18.2.1), (62, .own 61), (63, vi x26.2)], [(61, .deep 61 5 x26.1.length [.flat, .flat, .flat, .flat, (.sl 2 1 [.flat])] (x26.1.map eOp)), (1000000, .box [vl (eI .u8) x25.2.code, vi x25.2.at', vi x25.2.seed])]⟩) ?_ (fun d31 => ?_)
  exact DE.take (i := 15) (L' := #[true, true, true, true, true, true, true, true, true, true, true, true, true, true, true, true, false]) rfl (.inr rfl) rfl (by kernel_rfl) (by kernel_rfl) (by kernel_rfl) (EStep.le (EStep.ofN2 tbok (σ' := ⟨75, [(11, .own 61), (0, .ref 1000000 0), (5, vl eOp j4.1), (6, vl eOp s18.1), (10, vi s18.2.1), (62, .own 61), (63, vi x26.2)], [(61, .deep 61 5 x26.1.length [.flat, .flat, .flat, .flat, (.sl 2 1 [.flat])] (x26.1.map eOp)), (1000000, .box [vl (eI .u8) x25.2.code, vi x25.2.at', vi x25.2.seed])]⟩) (by kernel_rfl)) Le.sub0) (by kernel_rfl) d32
  refine DE.share (fuel := 2) (L := #[true, true, true, true, true, true, true, true, true, true, true, true, true, true, false, true, false]) (σ := ⟨75, [(0, .ref 1000000 0), (5, vl eOp j4.1), (6, vl eOp s18.1), (10, vi s18.2.1), (11, .own 61), (49, .tup [.own 61, vi x26.2])], [(61, .deep 61 5 x26.1.length [.flat, .flat, .flat, .flat, (.sl 2 1 [.flat])] (x26.1.map eOp)), (1000000, .box [vl (eI .u8) x25.2.code, vi x25.2.at', vi x25.2.seed])]⟩) ?_ (fun d30 => ?_)
  exact DE.all [14] (by kernel_rfl) (by simp) (List.forall_mem_cons.2 ⟨DEs.mk (i := 14) (L' := #[true, true, true, true, true, true, true, true, true, true, true, true, true, true, true, true, false]) rfl (EStep.le (EStep.ofN2 tbok (σ' := ⟨75, [(63, vi x26.2), (0, .ref 1000000 0), (5, vl eOp j4.1), (6, vl eOp s18.1), (10, vi s18.2.1), (11, .own 61), (49, .tup [.own 61, vi x26.2])], [(61, .deep 61 5 x26.1.length [.flat, .flat, .flat, .flat, (.sl 2 1 [.flat])] (x26.1.map eOp)), (1000000, .box [vl (eI .u8) x25.2.code, vi x25.2.at', vi x25.2.seed])]⟩) (by kernel_rfl)) Le.sub0) (by kernel_rfl) d32, (fun _ h => absurd h List.not_mem_nil)⟩)
  refine DE.share (fuel := 3) (L := #[true, true, true, true, true, true, true, true, true, true, true, true, true, false, true, false, false]) (σ := ⟨75, [(0, .ref 1000000 0), (5, vl eOp j4.1), (6, vl eOp s18.1), (10, vi s18.2.1), (49, .tup [.own 61, vi x26.2]), (63, vi x26.2)], [(61, .deep 61 5 x26.1.length [.flat, .flat, .flat, .flat, (.sl 2 1 [.flat])] (x26.1.map eOp)), (1000000, .box [vl (eI .u8) x25.2.code, vi x25.2.at', vi x25.2.seed])]⟩) ?_ (fun d29 => ?_)
  exact DE.all [13] (by kernel_rfl) (by simp) (List.forall_mem_cons.2 ⟨DEs.mk (i := 13) (L' := #[true, true, true, true, true, true, true, true, true, true, true, true, true, true, true, false, false]) rfl (EStep.le (EStep.ofN2 tbok (σ' := ⟨75, [(62, .own 61), (0, .ref 1000000 0), (5, vl eOp j4.1), (6, vl eOp s18.1), (10, vi s18.2.1), (49, .tup [.own 61, vi x26.2]), (63, vi x26.2)], [(61, .deep 61 5 x26.1.length [.flat, .flat, .flat, .flat, (.sl 2 1 [.flat])] (x26.1.map eOp)), (1000000, .box [vl (eI .u8) x25.2.code, vi x25.2.at', vi x25.2.seed])]⟩) (by kernel_rfl)) Le.sub0) (by kernel_rfl) d31, (fun _ h => absurd h List.not_mem_nil)⟩)
  refine DE.share (fuel := 3) (L := #[true, true, true, true, true, true, true, true, true, true, true, true, true, true, false, false, false]) (σ := ⟨75, [(0, .ref 1000000 0), (5, vl eOp j4.1), (6, vl eOp s18.1), (10, vi s18.2.1), (49, .tup [.own 61, vi x26.2]), (62, .own 61)], [(61, .deep 61 5 x26.1.length [.flat, .flat, .flat, .flat, (.sl 2 1 [.flat])] (x26.1.map eOp)), (1000000, .box [vl (eI .u8) x25.2.code, vi x25.2.at', vi x25.2.seed])]⟩) ?_ (fun d28 => ?_)
  exact DE.take (i := 15) (L' := #[true, true, true, true, true, true, true, true, true, true, true, true, true, true, false, true, false]) rfl (.inr rfl) rfl (by kernel_rfl) (by kernel_rfl) (by kernel_rfl) (EStep.le (EStep.ofN2 tbok (σ' := ⟨75, [(11, .own 61), (0, .ref 1000000 0), (5, vl eOp j4.1), (6, vl eOp s18.1), (10, vi s18.2.1), (49, .tup [.own 61, vi x26.2]), (62, .own 61)], [(61, .deep 61 5 x26.1.length [.flat, .flat, .flat, .flat, (.sl 2 1 [.flat])] (x26.1.map eOp)), (1000000, .box [vl (eI .u8) x25.2.code, vi x25.2.at', vi x25.2.seed])]⟩) (by kernel_rfl)) Le.sub0) (by kernel_rfl) d30
  refine DE.share (fuel := 4) (L := #[true, true, true, true, true, true, true, true, true, true, true, true, true, false, false, false, false]) (σ := ⟨75, [(0, .ref 1000000 0), (5, vl eOp j4.1), (6, vl eOp s18.1), (10, vi s18.2.1), (49, .tup [.own 61, vi x26.2])], [(61, .deep 61 5 x26.1.length [.flat, .flat, .flat, .flat, (.sl 2 1 [.flat])] (x26.1.map eOp)), (1000000, .box [vl (eI .u8) x25.2.code, vi x25.2.at', vi x25.2.seed])]⟩) ?_ (fun d27 => ?_)
  exact DE.all [13, 14] (by kernel_rfl) (by simp) (List.forall_mem_cons.2 ⟨DEs.mk (i := 13) (L' := #[true, true, true, true, true, true, true, true, true, true, true, true, true, true, false, false, false]) rfl (EStep.le (EStep.ofN2 tbok (σ' := ⟨75, [(62, .own 61), (0, .ref 1000000 0), (5, vl eOp j4.1), (6, vl eOp s18.1), (10, vi s18.2.1), (49, .tup [.own 61, vi x26.2])], [(61, .deep 61 5 x26.1.length [.flat, .flat, .flat, .flat, (.sl 2 1 [.flat])] (x26.1.map eOp)), (1000000, .box [vl (eI .u8) x25.2.code, vi x25.2.at', vi x25.2.seed])]⟩) (by kernel_rfl)) Le.sub0) (by kernel_rfl) d28, (List.forall_mem_cons.2 ⟨DEs.mk (i := 14) (L' := #[true, true, true, true, true, true, true, true, true, true, true, true, true, false, true, false, false]) rfl (EStep.le (EStep.ofN2 tbok (σ' := ⟨75, [(63, vi x26.2), (0, .ref 1000000 0), (5, vl eOp j4.1), (6, vl eOp s18.1), (10, vi s18.2.1), (49, .tup [.own 61, vi x26.2])], [(61, .deep 61 5 x26.1.length [.flat, .flat, .flat, .flat, (.sl 2 1 [.flat])] (x26.1.map eOp)), (1000000, .box [vl (eI .u8) x25.2.code, vi x25.2.at', vi x25.2.seed])]⟩) (by kernel_rfl)) Le.sub0) (by kernel_rfl) d29, (fun _ h => absurd h List.not_mem_nil)⟩)⟩)
  refine DE.share (fuel := 5) (L := #[true, true, true, true, true, true, true, true, true, true, true, true, false, false, false, false, false]) (σ := ⟨75, [(0, .ref 1000000 0), (5, vl eOp j4.1), (6, vl eOp s18.1), (10, vi s18.2.1), (61, .tup [.own 61, vi x26.2])], [(61, .deep 61 5 x26.1.length [.flat, .flat, .flat, .flat, (.sl 2 1 [.flat])] (x26.1.map eOp)), (1000000, .box [vl (eI .u8) x25.2.code, vi x25.2.at', vi x25.2.seed])]⟩) ?_ (fun d26 => ?_)
  exact DE.take (i := 12) (L' := #[true, true, true, true, true, true, true, true, true, true, true, true, true, false, false, false, false]) rfl (.inl rfl) rfl (by kernel_rfl) (by kernel_rfl) (by kernel_rfl) (EStep.le (EStep.ofN2 tbok (σ' := ⟨75, [(49, .tup [.own 61, vi x26.2]), (0, .ref 1000000 0), (5, vl eOp j4.1), (6, vl eOp s18.1), (10, vi s18.2.1), (61, .tup [.own 61, vi x26.2])], [(61, .deep 61 5 x26.1.length [.flat, .flat, .flat, .flat, (.sl 2 1 [.flat])] (x26.1.map eOp)), (1000000, .box [vl (eI .u8) x25.2.code, vi x25.2.at', vi x25.2.seed])]⟩) (by kernel_rfl)) Le.sub0) (by kernel_rfl) d27
  refine DE.share (fuel := 6) (L := #[true, true, true, true, true, true, true, true, true, true, true, false, false, false, false, false, false]) (σ := ⟨75, [(0, .ref 1000000 0), (5, vl eOp j4.1), (6, vl eOp s18.1), (10, vi s18.2.1), (50, vl eOp s18.1), (53, vi (w64 (2 + x22.1))), (58, vs x24), (60, vs x25.1)], [(1000000, .box [vl (eI .u8) x25.2.code, vi x25.2.at', vi x25.2.seed])]⟩) ?_ (fun d25 => ?_)
  exact DE.all [11] (by kernel_rfl) (by simp) (List.forall_mem_cons.2 ⟨DEs.mk (i := 11) (L' := #[true, true, true, true, true, true, true, true, true, true, true, true, false, false, false, false, false]) rfl (EStep.le (EStep.ofL (x_lstep_call (f := 32) (caps := []) (xs := [vl eOp s18.1, vi (w64 (2 + x22.1)), vs x24, vs x25.1]) (ys := [vl eOp s18.1, vi (w64 (2 + x22.1)), vs x24, vs x25.1]) (res := ⟨[.deep 61 5 x26.1.length [.flat, .flat, .flat, .flat, (.sl 2 1 [.flat])] (x26.1.map eOp), .v (vi x26.2)], [], false⟩) (x := .tup [.own 61, vi x26.2]) (y := some (.deep 61 5 x26.1.length [.flat, .flat, .flat, .flat, (.sl 2 1 [.flat])] (x26.1.map eOp))) rfl ents32 (spec_MakeOp_run s18.1 (w64 (2 + x22.1)) x24 x25.1 _ hx26) rfl (by intro hc; cases hc)) (by kernel_rfl)) Le.sub0) (by kernel_rfl) d26, (fun _ h => absurd h List.not_mem_nil)⟩)
  refine DE.share (fuel := 7) (L := #[true, true, true, false, true, true, true, true, true, true, true, false, false, false, false, false, false]) (σ := ⟨75, [(0, .ref 1000000 0), (5, vl eOp j4.1), (6, vl eOp s18.1), (10, vi s18.2.1), (50, vl eOp s18.1), (52, vi x22.1), (58, vs x24), (60, vs x25.1)], [(1000000, .box [vl (eI .u8) x25.2.code, vi x25.2.at', vi x25.2.seed])]⟩) ?_ (fun d24 => ?_)
  exact DE.all [3] (by kernel_rfl) (by simp) (List.forall_mem_cons.2 ⟨DEs.mk (i := 3) (L' := #[true, true, true, true, true, true, true, true, true, true, true, false, false, false, false, false, false]) rfl (EStep.le (EStep.ofN2 tbok (σ' := ⟨75, [(53, vi (w64 (2 + x22.1))), (0, .ref 1000000 0), (5, vl eOp j4.1), (6, vl eOp s18.1), (10, vi s18.2.1), (50, vl eOp s18.1), (52, vi x22.1), (58, vs x24), (60, vs x25.1)], [(1000000, .box [vl (eI .u8) x25.2.code, vi x25.2.at', vi x25.2.seed])]⟩) (by kernel_rfl)) Le.sub0) (by kernel_rfl) d25, (fun _ h => absurd h List.not_mem_nil)⟩)
  refine DE.share (fuel := 7) (L := #[true, true, true, true, true, true, true, true, false, true, true, false, false, false, false, false, false]) (σ := ⟨75, [(0, .ref 1000000 0), (5, vl eOp j4.1), (6, vl eOp s18.1), (10, vi s18.2.1), (50, vl eOp s18.1), (53, vi (w64 (2 + x22.1))), (57, .eref 54 1 (Int.toNat x23.1) 0), (60, vs x25.1)], [(54, .arr 9 1 ([(ByteArray.mk #[97, 115, 104]), (ByteArray.mk #[98, 114, 105, 103])] : List ByteArray).length (([(ByteArray.mk #[97, 115, 104]), (ByteArray.mk #[98, 114, 105, 103])] : List ByteArray).map eS)), (1000000, .box [vl (eI .u8) x25.2.code, vi x25.2.at', vi x25.2.seed])]⟩) ?_ (fun d23 => ?_)
  exact DE.all [8] (by kernel_rfl) (by simp) (List.forall_mem_cons.2 ⟨DEs.mk (i := 8) (L' := #[true, true, true, true, true, true, true, true, true, true, true, false, false, false, false, false, false]) rfl (EStep.le (EStep.ofL (x_load_own (d := 54) (m := 1) (j := 0) (L := ([(ByteArray.mk #[97, 115, 104]), (ByteArray.mk #[98, 114, 105, 103])] : List ByteArray)) (f := eS) (ti := ti9) (e := 9) (v := vs x24) tbok rfl hx24) (by kernel_rfl)) Le.sub0) (by kernel_rfl) d25, (fun _ h => absurd h List.not_mem_nil)⟩)
  refine DE.share (fuel := 7) (L := #[true, true, true, true, true, true, true, true, true, true, false, false, false, false, false, false, false]) (σ := ⟨75, [(0, .ref 1000000 0), (5, vl eOp j4.1), (6, vl eOp s18.1), (10, vi s18.2.1), (50, vl eOp s18.1), (53, vi (w64 (2 + x22.1))), (58, vs x24), (59, .ref 1000000 0)], [(1000000, .box [vl (eI .u8) x23.2.code, vi x23.2.at', vi x23.2.seed])]⟩) ?_ (fun d22 => ?_)
  exact DE.all [10] (by kernel_rfl) (by simp) (List.forall_mem_cons.2 ⟨DEs.mk (i := 10) (L' := #[true, true, true, true, true, true, true, true, true, true, true, false, false, false, false, false, false]) rfl (EStep.le (x_estep_call (f := 95) (caps := []) (xs := [.ref 1000000 0]) (pre := []) (post := []) (qs := []) (z := .ref 1000000 0) (d := 1000000) (pl := 0) (y := .box [vl (eI .u8) x23.2.code, vi x23.2.at', vi x23.2.seed]) (y' := .box [vl (eI .u8) x25.2.code, vi x25.2.at', vi x25.2.seed]) (res := ⟨[.v (vs x25.1)], [(0, .box [vl (eI .u8) x25.2.code, vi x25.2.at', vi x25.2.seed])], false⟩) (x := vs x25.1) (yo := none) rfl rfl rfl rfl rfl ents95 (spec_l01GoodPhrase_run x23.2 _ hx25) rfl rfl false (fun _ => rfl) (by intro hc; cases hc)) Le.sub0) (by kernel_rfl) d25, (fun _ h => absurd h List.not_mem_nil)⟩)
  refine DE.share (fuel := 8) (L := #[true, true, true, false, true, true, true, true, false, true, true, false, false, false, false, false, false]) (σ := ⟨75, [(0, .ref 1000000 0), (5, vl eOp j4.1), (6, vl eOp s18.1), (10, vi s18.2.1), (50, vl eOp s18.1), (52, vi x22.1), (57, .eref 54 1 (Int.toNat x23.1) 0), (60, vs x25.1)], [(54, .arr 9 1 ([(ByteArray.mk #[97, 115, 104]), (ByteArray.mk #[98, 114, 105, 103])] : List ByteArray).length (([(ByteArray.mk #[97, 115, 104]), (ByteArray.mk #[98, 114, 105, 103])] : List ByteArray).map eS)), (1000000, .box [vl (eI .u8) x25.2.code, vi x25.2.at', vi x25.2.seed])]⟩) ?_ (fun d21 => ?_)
  exact DE.all [3, 8] (by kernel_rfl) (by simp) (List.forall_mem_cons.2 ⟨DEs.mk (i := 3) (L' := #[true, true, true, true, true, true, true, true, false, true, true, false, false, false, false, false, false]) rfl (EStep.le (EStep.ofN2 tbok (σ' := ⟨75, [(53, vi (w64 (2 + x22.1))), (0, .ref 1000000 0), (5, vl eOp j4.1), (6, vl eOp s18.1), (10, vi s18.2.1), (50, vl eOp s18.1), (52, vi x22.1), (57, .eref 54 1 (Int.toNat x23.1) 0), (60, vs x25.1)], [(54, .arr 9 1 ([(ByteArray.mk #[97, 115, 104]), (ByteArray.mk #[98, 114, 105, 103])] : List ByteArray).length (([(ByteArray.mk #[97, 115, 104]), (ByteArray.mk #[98, 114, 105, 103])] : List ByteArray).map eS)), (1000000, .box [vl (eI .u8) x25.2.code, vi x25.2.at', vi x25.2.seed])]⟩) (by kernel_rfl)) Le.sub0) (by kernel_rfl) d23, (List.forall_mem_cons.2 ⟨DEs.mk (i := 8) (L' := #[true, true, true, false, true, true, true, true, true, true, true, false, false, false, false, false, false]) rfl (EStep.le (EStep.ofL (x_load_own (d := 54) (m := 1) (j := 0) (L := ([(ByteArray.mk #[97, 115, 104]), (ByteArray.mk #[98, 114, 105, 103])] : List ByteArray)) (f := eS) (ti := ti9) (e := 9) (v := vs x24) tbok rfl hx24) (by kernel_rfl)) Le.sub0) (by kernel_rfl) d24, (fun _ h => absurd h List.not_mem_nil)⟩)⟩)
  refine DE.share (fuel := 8) (L := #[true, true, true, false, true, true, true, true, true, true, false, false, false, false, false, false, false]) (σ := ⟨75, [(0, .ref 1000000 0), (5, vl eOp j4.1), (6, vl eOp s18.1), (10, vi s18.2.1), (50, vl eOp s18.1), (52, vi x22.1), (58, vs x24), (59, .ref 1000000 0)], [(1000000, .box [vl (eI .u8) x23.2.code, vi x23.2.at', vi x23.2.seed])]⟩) ?_ (fun d20 => ?_)
  exact DE.all [3, 10] (by kernel_rfl) (by simp) (List.forall_mem_cons.2 ⟨DEs.mk (i := 3) (L' := #[true, true, true, true, true, true, true, true, true, true, false, false, false, false, false, false, false]) rfl (EStep.le (EStep.ofN2 tbok (σ' := ⟨75, [(53, vi (w64 (2 + x22.1))), (0, .ref 1000000 0), (5, vl eOp j4.1), (6, vl eOp s18.1), (10, vi s18.2.1), (50, vl eOp s18.1), (52, vi x22.1), (58, vs x24), (59, .ref 1000000 0)], [(1000000, .box [vl (eI .u8) x23.2.code, vi x23.2.at', vi x23.2.seed])]⟩) (by kernel_rfl)) Le.sub0) (by kernel_rfl) d22, (List.forall_mem_cons.2 ⟨DEs.mk (i := 10) (L' := #[true, true, true, false, true, true, true, true, true, true, true, false, false, false, false, false, false]) rfl (EStep.le (x_estep_call (f := 95) (caps := []) (xs := [.ref 1000000 0]) (pre := []) (post := []) (qs := []) (z := .ref 1000000 0) (d := 1000000) (pl := 0) (y := .box [vl (eI .u8) x23.2.code, vi x23.2.at', vi x23.2.seed]) (y' := .box [vl (eI .u8) x25.2.code, vi x25.2.at', vi x25.2.seed]) (res := ⟨[.v (vs x25.1)], [(0, .box [vl (eI .u8) x25.2.code, vi x25.2.at', vi x25.2.seed])], false⟩) (x := vs x25.1) (yo := none) rfl rfl rfl rfl rfl ents95 (spec_l01GoodPhrase_run x23.2 _ hx25) rfl rfl false (fun _ => rfl) (by intro hc; cases hc)) Le.sub0) (by kernel_rfl) d24, (fun _ h => absurd h List.not_mem_nil)⟩)⟩)
  refine DE.share (fuel := 8) (L := #[true, true, true, true, true, true, true, false, false, true, true, false, false, false, false, false, false]) (σ := ⟨75, [(0, .ref 1000000 0), (5, vl eOp j4.1), (6, vl eOp s18.1), (10, vi s18.2.1), (50, vl eOp s18.1), (53, vi (w64 (2 + x22.1))), (54, .own 54), (56, vi x23.1), (60, vs x25.1)], [(54, .arr 9 1 ([(ByteArray.mk #[97, 115, 104]), (ByteArray.mk #[98, 114, 105, 103])] : List ByteArray).length (([(ByteArray.mk #[97, 115, 104]), (ByteArray.mk #[98, 114, 105, 103])] : List ByteArray).map eS)), (1000000, .box [vl (eI .u8) x25.2.code, vi x25.2.at', vi x25.2.seed])]⟩) ?_ (fun d19 => ?_)
  exact DE.all [7] (by kernel_rfl) (by simp) (List.forall_mem_cons.2 ⟨DEs.mk (i := 7) (L' := #[true, true, true, true, true, true, true, true, false, true, true, false, false, false, false, false, false]) rfl (EStep.le (EStep.ofL (x_index_own (d := 54) (L := ([(ByteArray.mk #[97, 115, 104]), (ByteArray.mk #[98, 114, 105, 103])] : List ByteArray)) (f := eS) (ti := ti86) (tj := ti9) (e := 9) (e' := 9) (m := 1) (k := .i64) tbok rfl hx24) (by kernel_rfl)) Le.sub0) (by kernel_rfl) d23, (fun _ h => absurd h List.not_mem_nil)⟩)
  refine DE.share (fuel := 8) (L := #[true, true, true, true, true, true, true, true, false, true, false, false, false, false, false, false, false]) (σ := ⟨75, [(0, .ref 1000000 0), (5, vl eOp j4.1), (6, vl eOp s18.1), (10, vi s18.2.1), (50, vl eOp s18.1), (53, vi (w64 (2 + x22.1))), (57, .eref 54 1 (Int.toNat x23.1) 0), (59, .ref 1000000 0)], [(54, .arr 9 1 ([(ByteArray.mk #[97, 115, 104]), (ByteArray.mk #[98, 114, 105, 103])] : List ByteArray).length (([(ByteArray.mk #[97, 115, 104]), (ByteArray.mk #[98, 114, 105, 103])] : List ByteArray).map eS)), (1000000, .box [vl (eI .u8) x23.2.code, vi x23.2.at', vi x23.2.seed])]⟩) ?_ (fun d18 => ?_)
  exact DE.all [8, 10] (by kernel_rfl) (by simp) (List.forall_mem_cons.2 ⟨DEs.mk (i := 8) (L' := #[true, true, true, true, true, true, true, true, true, true, false, false, false, false, false, false, false]) rfl (EStep.le (EStep.ofL (x_load_own (d := 54) (m := 1) (j := 0) (L := ([(ByteArray.mk #[97, 115, 104]), (ByteArray.mk #[98, 114, 105, 103])] : List ByteArray)) (f := eS) (ti := ti9) (e := 9) (v := vs x24) tbok rfl hx24) (by kernel_rfl)) Le.sub0) (by kernel_rfl) d22, (List.forall_mem_cons.2 ⟨DEs.mk (i := 10) (L' := #[true, true, true, true, true, true, true, true, false, true, true, false, false, false, false, false, false]) rfl (EStep.le (x_estep_call (f := 95) (caps := []) (xs := [.ref 1000000 0]) (pre := []) (post := []) (qs := []) (z := .ref 1000000 0) (d := 1000000) (pl := 0) (y := .box [vl (eI .u8) x23.2.code, vi x23.2.at', vi x23.2.seed]) (y' := .box [vl (eI .u8) x25.2.code, vi x25.2.at', vi x25.2.seed]) (res := ⟨[.v (vs x25.1)], [(0, .box [vl (eI .u8) x25.2.code, vi x25.2.at', vi x25.2.seed])], false⟩) (x := vs x25.1) (yo := none) rfl rfl rfl rfl rfl ents95 (spec_l01GoodPhrase_run x23.2 _ hx25) rfl rfl false (fun _ => rfl) (by intro hc; cases hc)) Le.sub0) (by kernel_rfl) d23, (fun _ h => absurd h List.not_mem_nil)⟩)⟩)
  refine DE.share (fuel := 9) (L := #[true, true, true, false, true, true, true, false, false, true, true, false, false, false, false, false, false]) (σ := ⟨75, [(0, .ref 1000000 0), (5, vl eOp j4.1), (6, vl eOp s18.1), (10, vi s18.2.1), (50, vl eOp s18.1), (52, vi x22.1), (54, .own 54), (56, vi x23.1), (60, vs x25.1)], [(54, .arr 9 1 ([(ByteArray.mk #[97, 115, 104]), (ByteArray.mk #[98, 114, 105, 103])] : List ByteArray).length (([(ByteArray.mk #[97, 115, 104]), (ByteArray.mk #[98, 114, 105, 103])] : List ByteArray).map eS)), (1000000, .box [vl (eI .u8) x25.2.code, vi x25.2.at', vi x25.2.seed])]⟩) ?_ (fun d17 => ?_)
  exact DE.all [3, 7] (by kernel_rfl) (by simp) (List.forall_mem_cons.2 ⟨DEs.mk (i := 3) (L' := #[true, true, true, true, true, true, true, false, false, true, true, false, false, false, false, false, false]) rfl (EStep.le (EStep.ofN2 tbok (σ' := ⟨75, [(53, vi (w64 (2 + x22.1))), (0, .ref 1000000 0), (5, vl eOp j4.1), (6, vl eOp s18.1), (10, vi s18.2.1), (50, vl eOp s18.1), (52, vi x22.1), (54, .own 54), (56, vi x23.1), (60, vs x25.1)], [(54, .arr 9 1 ([(ByteArray.mk #[97, 115, 104]), (ByteArray.mk #[98, 114, 105, 103])] : List ByteArray).length (([(ByteArray.mk #[97, 115, 104]), (ByteArray.mk #[98, 114, 105, 103])] : List ByteArray).map eS)), (1000000, .box [vl (eI .u8) x25.2.code, vi x25.2.at', vi x25.2.seed])]⟩) (by kernel_rfl)) Le.sub0) (by kernel_rfl) d19, (List.forall_mem_cons.2 ⟨DEs.mk (i := 7) (L' := #[true, true, true, false, true, true, true, true, false, true, true, false, false, false, false, false, false]) rfl (EStep.le (EStep.ofL (x_index_own (d := 54) (L := ([(ByteArray.mk #[97, 115, 104]), (ByteArray.mk #[98, 114, 105, 103])] : List ByteArray)) (f := eS) (ti := ti86) (tj := ti9) (e := 9) (e' := 9) (m := 1) (k := .i64) tbok rfl hx24) (by kernel_rfl)) Le.sub0) (by kernel_rfl) d21, (fun _ h => absurd h List.not_mem_nil)⟩)⟩)
  refine DE.share (fuel := 9) (L := #[true, true, true, false, true, true, true, true, false, true, false, false, false, false, false, false, false]) (σ := ⟨75, [(0, .ref 1000000 0), (5, vl eOp j4.1), (6, vl eOp s18.1), (10, vi s18.2.1), (50, vl eOp s18.1), (52, vi x22.1), (57, .eref 54 1 (Int.toNat x23.1) 0), (59, .ref 1000000 0)], [(54, .arr 9 1 ([(ByteArray.mk #[97, 115, 104]), (ByteArray.mk #[98, 114, 105, 103])] : List ByteArray).length (([(ByteArray.mk #[97, 115, 104]), (ByteArray.mk #[98, 114, 105, 103])] : List ByteArray).map eS)), (1000000, .box [vl (eI .u8) x23.2.code, vi x23.2.at', vi x23.2.seed])]⟩) ?_ (fun d16 => ?_)
  exact DE.all [3, 8, 10] (by kernel_rfl) (by simp) (List.forall_mem_cons.2 ⟨DEs.mk (i := 3) (L' := #[true, true, true, true, true, true, true, true, false, true, false, false, false, false, false, false, false]) rfl (EStep.le (EStep.ofN2 tbok (σ' := ⟨75, [(53, vi (w64 (2 + x22.1))), (0, .ref 1000000 0), (5, vl eOp j4.1), (6, vl eOp s18.1), (10, vi s18.2.1), (50, vl eOp s18.1), (52, vi x22.1), (57, .eref 54 1 (Int.toNat x23.1) 0), (59, .ref 1000000 0)], [(54, .arr 9 1 ([(ByteArray.mk #[97, 115, 104]), (ByteArray.mk #[98, 114, 105, 103])] : List ByteArray).length (([(ByteArray.mk #[97, 115, 104]), (ByteArray.mk #[98, 114, 105, 103])] : List ByteArray).map eS)), (1000000, .box [vl (eI .u8) x23.2.code, vi x23.2.at', vi x23.2.seed])]⟩) (by kernel_rfl)) Le.sub0) (by kernel_rfl) d18, (List.forall_mem_cons.2 ⟨DEs.mk (i := 8) (L' := #[true, true, true, false, true, true, true, true, true, true, false, false, false, false, false, false, false]) rfl (EStep.le (EStep.ofL (x_load_own (d := 54) (m := 1) (j := 0) (L := ([(ByteArray.mk #[97, 115, 104]), (ByteArray.mk #[98, 114, 105, 103])] : List ByteArray)) (f := eS) (ti := ti9) (e := 9) (v := vs x24) tbok rfl hx24) (by kernel_rfl)) Le.sub0) (by kernel_rfl) d20, (List.forall_mem_cons.2 ⟨DEs.mk (i := 10) (L' := #[true, true, true, false, true, true, true, true, false, true, true, false, false, false, false, false, false]) rfl (EStep.le (x_estep_call (f := 95) (caps := []) (xs := [.ref 1000000 0]) (pre := []) (post := []) (qs := []) (z := .ref 1000000 0) (d := 1000000) (pl := 0) (y := .box [vl (eI .u8) x23.2.code, vi x23.2.at', vi x23.2.seed]) (y' := .box [vl (eI .u8) x25.2.code, vi x25.2.at', vi x25.2.seed]) (res := ⟨[.v (vs x25.1)], [(0, .box [vl (eI .u8) x25.2.code, vi x25.2.at', vi x25.2.seed])], false⟩) (x := vs x25.1) (yo := none) rfl rfl rfl rfl rfl ents95 (spec_l01GoodPhrase_run x23.2 _ hx25) rfl rfl false (fun _ => rfl) (by intro hc; cases hc)) Le.sub0) (by kernel_rfl) d21, (fun _ h => absurd h List.not_mem_nil)⟩)⟩)⟩)
  refine DE.share (fuel := 9) (L := #[true, true, true, true, false, true, true, false, false, true, true, false, false, false, false, false, false]) (σ := ⟨75, [(0, .ref 1000000 0), (5, vl eOp j4.1), (6, vl eOp s18.1), (10, vi s18.2.1), (50, vl eOp s18.1), (53, vi (w64 (2 + x22.1))), (56, vi x23.1), (60, vs x25.1)], [(1000000, .box [vl (eI .u8) x25.2.code, vi x25.2.at', vi x25.2.seed])]⟩) ?_ (fun d15 => ?_)
  exact DE.all [4] (by kernel_rfl) (by simp) (List.forall_mem_cons.2 ⟨DEs.mk (i := 4) (L' := #[true, true, true, true, true, true, true, false, false, true, true, false, false, false, false, false, false]) rfl (EStep.le (EStep.ofN2 tbok (σ' := ⟨75, [(54, .own 54), (0, .ref 1000000 0), (5, vl eOp j4.1), (6, vl eOp s18.1), (10, vi s18.2.1), (50, vl eOp s18.1), (53, vi (w64 (2 + x22.1))), (56, vi x23.1), (60, vs x25.1)], [(54, .arr 9 1 ([(ByteArray.mk #[97, 115, 104]), (ByteArray.mk #[98, 114, 105, 103])] : List ByteArray).length (([(ByteArray.mk #[97, 115, 104]), (ByteArray.mk #[98, 114, 105, 103])] : List ByteArray).map eS)), (1000000, .box [vl (eI .u8) x25.2.code, vi x25.2.at', vi x25.2.seed])]⟩) (by kernel_rfl)) Le.sub0) (by kernel_rfl) d19, (fun _ h => absurd h List.not_mem_nil)⟩)
  refine DE.share (fuel := 9) (L := #[true, true, true, true, true, true, true, false, false, true, false, false, false, false, false, false, false]) (σ := ⟨75, [(0, .ref 1000000 0), (5, vl eOp j4.1), (6, vl eOp s18.1), (10, vi s18.2.1), (50, vl eOp s18.1), (53, vi (w64 (2 + x22.1))), (54, .own 54), (56, vi x23.1), (59, .ref 1000000 0)], [(54, .arr 9 1 ([(ByteArray.mk #[97, 115, 104]), (ByteArray.mk #[98, 114, 105, 103])] : List ByteArray).length (([(ByteArray.mk #[97, 115, 104]), (ByteArray.mk #[98, 114, 105, 103])] : List ByteArray).map eS)), (1000000, .box [vl (eI .u8) x23.2.code, vi x23.2.at', vi x23.2.seed])]⟩) ?_ (fun d14 => ?_)
  exact DE.all [7, 10] (by kernel_rfl) (by simp) (List.forall_mem_cons.2 ⟨DEs.mk (i := 7) (L' := #[true, true, true, true, true, true, true, true, false, true, false, false, false, false, false, false, false]) rfl (EStep.le (EStep.ofL (x_index_own (d := 54) (L := ([(ByteArray.mk #[97, 115, 104]), (ByteArray.mk #[98, 114, 105, 103])] : List ByteArray)) (f := eS) (ti := ti86) (tj := ti9) (e := 9) (e' := 9) (m := 1) (k := .i64) tbok rfl hx24) (by kernel_rfl)) Le.sub0) (by kernel_rfl) d18, (List.forall_mem_cons.2 ⟨DEs.mk (i := 10) (L' := #[true, true, true, true, true, true, true, false, false, true, true, false, false, false, false, false, false]) rfl (EStep.le (x_estep_call (f := 95) (caps := []) (xs := [.ref 1000000 0]) (pre := []) (post := []) (qs := []) (z := .ref 1000000 0) (d := 1000000) (pl := 0) (y := .box [vl (eI .u8) x23.2.code, vi x23.2.at', vi x23.2.seed]) (y' := .box [vl (eI .u8) x25.2.code, vi x25.2.at', vi x25.2.seed]) (res := ⟨[.v (vs x25.1)], [(0, .box [vl (eI .u8) x25.2.code, vi x25.2.at', vi x25.2.seed])], false⟩) (x := vs x25.1) (yo := none) rfl rfl rfl rfl rfl ents95 (spec_l01GoodPhrase_run x23.2 _ hx25) rfl rfl false (fun _ => rfl) (by intro hc; cases hc)) Le.sub0) (by kernel_rfl) d19, (fun _ h => absurd h List.not_mem_nil)⟩)⟩)
  refine DE.share (fuel := 10) (L := #[true, true, true, false, false, true, true, false, false, true, true, false, false, false, false, false, false]) (σ := ⟨75, [(0, .ref 1000000 0), (5, vl eOp j4.1), (6, vl eOp s18.1), (10, vi s18.2.1), (50, vl eOp s18.1), (52, vi x22.1), (56, vi x23.1), (60, vs x25.1)], [(1000000, .box [vl (eI .u8) x25.2.code, vi x25.2.at', vi x25.2.seed])]⟩) ?_ (fun d13 => ?_)
  exact DE.all [3, 4] (by kernel_rfl) (by simp) (List.forall_mem_cons.2 ⟨DEs.mk (i := 3) (L' := #[true, true, true, true, false, true, true, false, false, true, true, false, false, false, false, false, false]) rfl (EStep.le (EStep.ofN2 tbok (σ' := ⟨75, [(53, vi (w64 (2 + x22.1))), (0, .ref 1000000 0), (5, vl eOp j4.1), (6, vl eOp s18.1), (10, vi s18.2.1), (50, vl eOp s18.1), (52, vi x22.1), (56, vi x23.1), (60, vs x25.1)], [(1000000, .box [vl (eI .u8) x25.2.code, vi x25.2.at', vi x25.2.seed])]⟩) (by kernel_rfl)) Le.sub0) (by kernel_rfl) d15, (List.forall_mem_cons.2 ⟨DEs.mk (i := 4) (L' := #[true, true, true, false, true, true, true, false, false, true, true, false, false, false, false, false, false]) rfl (EStep.le (EStep.ofN2 tbok (σ' := ⟨75, [(54, .own 54), (0, .ref 1000000 0), (5, vl eOp j4.1), (6, vl eOp s18.1), (10, vi s18.2.1), (50, vl eOp s18.1), (52, vi x22.1), (56, vi x23.1), (60, vs x25.1)], [(54, .arr 9 1 ([(ByteArray.mk #[97, 115, 104]), (ByteArray.mk #[98, 114, 105, 103])] : List ByteArray).length (([(ByteArray.mk #[97, 115, 104]), (ByteArray.mk #[98, 114, 105, 103])] : List ByteArray).map eS)), (1000000, .box [vl (eI .u8) x25.2.code, vi x25.2.at', vi x25.2.seed])]⟩) (by kernel_rfl)) Le.sub0) (by kernel_rfl) d17, (fun _ h => absurd h List.not_mem_nil)⟩)⟩)
  refine DE.share (fuel := 10) (L := #[true, true, true, false, true, true, true, false, false, true, false, false, false, false, false, false, false]) (σ := ⟨75, [(0, .ref 1000000 0), (5, vl eOp j4.1), (6, vl eOp s18.1), (10, vi s18.2.1), (50, vl eOp s18.1), (52, vi x22.1), (54, .own 54), (56, vi x23.1), (59, .ref 1000000 0)], [(54, .arr 9 1 ([(ByteArray.mk #[97, 115, 104]), (ByteArray.mk #[98, 114, 105, 103])] : List ByteArray).length (([(ByteArray.mk #[97, 115, 104]), (ByteArray.mk #[98, 114, 105, 103])] : List ByteArray).map eS)), (1000000, .box [vl (eI .u8) x23.2.code, vi x23.2.at', vi x23.2.seed])]⟩) ?_ (fun d12 => ?_)
  exact DE.all [3, 7, 10] (by kernel_rfl) (by simp) (List.forall_mem_cons.2 ⟨DEs.mk (i := 3) (L' := #[true, true, true, true, true, true, true, false, false, true, false, false, false, false, false, false, false]) rfl (EStep.le (EStep.ofN2 tbok (σ' := ⟨75, [(53, vi (w64 (2 + x22.1))), (0, .ref 1000000 0), (5, vl eOp j4.1), (6, vl eOp s18.1), (10, vi s18.2.1), (50, vl eOp s18.1), (52, vi x22.1), (54, .own 54), (56, vi x23.1), (59, .ref 1000000 0)], [(54, .arr 9 1 ([(ByteArray.mk #[97, 115, 104]), (ByteArray.mk #[98, 114, 105, 103])] : List ByteArray).length (([(ByteArray.mk #[97, 115, 104]), (ByteArray.mk #[98, 114, 105, 103])] : List ByteArray).map eS)), (1000000, .box [vl (eI .u8) x23.2.code, vi x23.2.at', vi x23.2.seed])]⟩) (by kernel_rfl)) Le.sub0) (by kernel_rfl) d14, (List.forall_mem_cons.2 ⟨DEs.mk (i := 7) (L' := #[true, true, true, false, true, true, true, true, false, true, false, false, false, false, false, false, false]) rfl (EStep.le (EStep.ofL (x_index_own (d := 54) (L := ([(ByteArray.mk #[97, 115, 104]), (ByteArray.mk #[98, 114, 105, 103])] : List ByteArray)) (f := eS) (ti := ti86) (tj := ti9) (e := 9) (e' := 9) (m := 1) (k := .i64) tbok rfl hx24) (by kernel_rfl)) Le.sub0) (by kernel_rfl) d16, (List.forall_mem_cons.2 ⟨DEs.mk (i := 10) (L' := #[true, true, true, false, true, true, true, false, false, true, true, false, false, false, false, false, false]) rfl (EStep.le (x_estep_call (f := 95) (caps := []) (xs := [.ref 1000000 0]) (pre := []) (post := []) (qs := []) (z := .ref 1000000 0) (d := 1000000) (pl := 0) (y := .box [vl (eI .u8) x23.2.code, vi x23.2.at', vi x23.2.seed]) (y' := .box [vl (eI .u8) x25.2.code, vi x25.2.at', vi x25.2.seed]) (res := ⟨[.v (vs x25.1)], [(0, .box [vl (eI .u8) x25.2.code, vi x25.2.at', vi x25.2.seed])], false⟩) (x := vs x25.1) (yo := none) rfl rfl rfl rfl rfl ents95 (spec_l01GoodPhrase_run x23.2 _ hx25) rfl rfl false (fun _ => rfl) (by intro hc; cases hc)) Le.sub0) (by kernel_rfl) d17, (fun _ h => absurd h List.not_mem_nil)⟩)⟩)⟩)
  refine DE.share (fuel := 10) (L := #[true, true, true, true, false, true, true, false, false, true, false, false, false, false, false, false, false]) (σ := ⟨75, [(0, .ref 1000000 0), (5, vl eOp j4.1), (6, vl eOp s18.1), (10, vi s18.2.1), (50, vl eOp s18.1), (53, vi (w64 (2 + x22.1))), (56, vi x23.1), (59, .ref 1000000 0)], [(1000000, .box [vl (eI .u8) x23.2.code, vi x23.2.at', vi x23.2.seed])]⟩) ?_ (fun d11 => ?_)
  exact DE.all [4, 10] (by kernel_rfl) (by simp) (List.forall_mem_cons.2 ⟨DEs.mk (i := 4) (L' := #[true, true, true, true, true, true, true, false, false, true, false, false, false, false, false, false, false]) rfl (EStep.le (EStep.ofN2 tbok (σ' := ⟨75, [(54, .own 54), (0, .ref 1000000 0), (5, vl eOp j4.1), (6, vl eOp s18.1), (10, vi s18.2.1), (50, vl eOp s18.1), (53, vi (w64 (2 + x22.1))), (56, vi x23.1), (59, .ref 1000000 0)], [(54, .arr 9 1 ([(ByteArray.mk #[97, 115, 104]), (ByteArray.mk #[98, 114, 105, 103])] : List ByteArray).length (([(ByteArray.mk #[97, 115, 104]), (ByteArray.mk #[98, 114, 105, 103])] : List ByteArray).map eS)), (1000000, .box [vl (eI .u8) x23.2.code, vi x23.2.at', vi x23.2.seed])]⟩) (by kernel_rfl)) Le.sub0) (by kernel_rfl) d14, (List.forall_mem_cons.2 ⟨DEs.mk (i := 10) (L' := #[true, true, true, true, false, true, true, false, false, true, true, false, false, false, false, false, false]) rfl (EStep.le (x_estep_call (f := 95) (caps := []) (xs := [.ref 1000000 0]) (pre := []) (post := []) (qs := []) (z := .ref 1000000 0) (d := 1000000) (pl := 0) (y := .box [vl (eI .u8) x23.2.code, vi x23.2.at', vi x23.2.seed]) (y' := .box [vl (eI .u8) x25.2.code, vi x25.2.at', vi x25.2.seed]) (res := ⟨[.v (vs x25.1)], [(0, .box [vl (eI .u8) x25.2.code, vi x25.2.at', vi x25.2.seed])], false⟩) (x := vs x25.1) (yo := none) rfl rfl rfl rfl rfl ents95 (spec_l01GoodPhrase_run x23.2 _ hx25) rfl rfl false (fun _ => rfl) (by intro hc; cases hc)) Le.sub0) (by kernel_rfl) d15, (fun _ h => absurd h List.not_mem_nil)⟩)⟩)
  refine DE.share (fuel := 10) (L := #[true, true, true, true, true, true, false, false, false, true, false, false, false, false, false, false, false]) (σ := ⟨75, [(0, .ref 1000000 0), (5, vl eOp j4.1), (6, vl eOp s18.1), (10, vi s18.2.1), (50, vl eOp s18.1), (53, vi (w64 (2 + x22.1))), (54, .own 54), (55, .ref 1000000 0), (59, .ref 1000000 0)], [(54, .arr 9 1 ([(ByteArray.mk #[97, 115, 104]), (ByteArray.mk #[98, 114, 105, 103])] : List ByteArray).length (([(ByteArray.mk #[97, 115, 104]), (ByteArray.mk #[98, 114, 105, 103])] : List ByteArray).map eS)), (1000000, .box [vl (eI .u8) x22.2.code, vi x22.2.at', vi x22.2.seed])]⟩) ?_ (fun d10 => ?_)
  exact DE.all [6] (by kernel_rfl) (by simp) (List.forall_mem_cons.2 ⟨DEs.mk (i := 6) (L' := #[true, true, true, true, true, true, true, false, false, true, false, false, false, false, false, false, false]) rfl (EStep.le (x_estep_call (f := 77) (caps := []) (xs := [.ref 1000000 0, vi 2]) (pre := []) (post := [vi 2]) (qs := [vi 2]) (z := .ref 1000000 0) (d := 1000000) (pl := 0) (y := .box [vl (eI .u8) x22.2.code, vi x22.2.at', vi x22.2.seed]) (y' := .box [vl (eI .u8) x23.2.code, vi x23.2.at', vi x23.2.seed]) (res := ⟨[.v (vi x23.1)], [(0, .box [vl (eI .u8) x23.2.code, vi x23.2.at', vi x23.2.seed])], false⟩) (x := vi x23.1) (yo := none) rfl rfl rfl rfl rfl ents77 (spec_l01Next_run x22.2 2 _ hx23) rfl rfl false (fun _ => rfl) (by intro hc; cases hc)) Le.sub0) (by kernel_rfl) d14, (fun _ h => absurd h List.not_mem_nil)⟩)
  refine DE.share (fuel := 11) (L := #[true, true, true, false, false, true, true, false, false, true, false, false, false, false, false, false, false]) (σ := ⟨75, [(0, .ref 1000000 0), (5, vl eOp j4.1), (6, vl eOp s18.1), (10, vi s18.2.1), (50, vl eOp s18.1), (52, vi x22.1), (56, vi x23.1), (59, .ref 1000000 0)], [(1000000, .box [vl (eI .u8) x23.2.code, vi x23.2.at', vi x23.2.seed])]⟩) ?_ (fun d9 => ?_)
  exact DE.all [3, 4, 10] (by kernel_rfl) (by simp) (List.forall_mem_cons.2 ⟨DEs.mk (i := 3) (L' := #[true, true, true, true, false, true, true, false, false, true, false, false, false, false, false, false, false]) rfl (EStep.le (EStep.ofN2 tbok (σ' := ⟨75, [(53, vi (w64 (2 + x22.1))), (0, .ref 1000000 0), (5, vl eOp j4.1), (6, vl eOp s18.1), (10, vi s18.2.1), (50, vl eOp s18.1), (52, vi x22.1), (56, vi x23.1), (59, .ref 1000000 0)], [(1000000, .box [vl (eI .u8) x23.2.code, vi x23.2.at', vi x23.2.seed])]⟩) (by kernel_rfl)) Le.sub0) (by kernel_rfl) d11, (List.forall_mem_cons.2 ⟨DEs.mk (i := 4) (L' := #[true, true, true, false, true, true, true, false, false, true, false, false, false, false, false, false, false]) rfl (EStep.le (EStep.ofN2 tbok (σ' := ⟨75, [(54, .own 54), (0, .ref 1000000 0), (5, vl eOp j4.1), (6, vl eOp s18.1), (10, vi s18.2.1), (50, vl eOp s18.1), (52, vi x22.1), (56, vi x23.1), (59, .ref 1000000 0)], [(54, .arr 9 1 ([(ByteArray.mk #[97, 115, 104]), (ByteArray.mk #[98, 114, 105, 103])] : List ByteArray).length (([(ByteArray.mk #[97, 115, 104]), (ByteArray.mk #[98, 114, 105, 103])] : List ByteArray).map eS)), (1000000, .box [vl (eI .u8) x23.2.code, vi x23.2.at', vi x23.2.seed])]⟩) (by kernel_rfl)) Le.sub0) (by kernel_rfl) d12, (List.forall_mem_cons.2 ⟨DEs.mk (i := 10) (L' := #[true, true, true, false, false, true, true, false, false, true, true, false, false, false, false, false, false]) rfl (EStep.le (x_estep_call (f := 95) (caps := []) (xs := [.ref 1000000 0]) (pre := []) (post := []) (qs := []) (z := .ref 1000000 0) (d := 1000000) (pl := 0) (y := .box [vl (eI .u8) x23.2.code, vi x23.2.at', vi x23.2.seed]) (y' := .box [vl (eI .u8) x25.2.code, vi x25.2.at', vi x25.2.seed]) (res := ⟨[.v (vs x25.1)], [(0, .box [vl (eI .u8) x25.2.code, vi x25.2.at', vi x25.2.seed])], false⟩) (x := vs x25.1) (yo := none) rfl rfl rfl rfl rfl ents95 (spec_l01GoodPhrase_run x23.2 _ hx25) rfl rfl false (fun _ => rfl) (by intro hc; cases hc)) Le.sub0) (by kernel_rfl) d13, (fun _ h => absurd h List.not_mem_nil)⟩)⟩)⟩)
  refine DE.share (fuel := 11) (L := #[true, true, true, false, true, true, false, false, false, true, false, false, false, false, false, false, false]) (σ := ⟨75, [(0, .ref 1000000 0), (5, vl eOp j4.1), (6, vl eOp s18.1), (10, vi s18.2.1), (50, vl eOp s18.1), (52, vi x22.1), (54, .own 54), (55, .ref 1000000 0), (59, .ref 1000000 0)], [(54, .arr 9 1 ([(ByteArray.mk #[97, 115, 104]), (ByteArray.mk #[98, 114, 105, 103])] : List ByteArray).length (([(ByteArray.mk #[97, 115, 104]), (ByteArray.mk #[98, 114, 105, 103])] : List ByteArray).map eS)), (1000000, .box [vl (eI .u8) x22.2.code, vi x22.2.at', vi x22.2.seed])]⟩) ?_ (fun d8 => ?_)
  exact DE.all [3, 6] (by kernel_rfl) (by simp) (List.forall_mem_cons.2 ⟨DEs.mk (i := 3) (L' := #[true, true, true, true, true, true, false, false, false, true, false, false, false, false, false, false, false]) rfl (EStep.le (EStep.ofN2 tbok (σ' := ⟨75, [(53, vi (w64 (2 + x22.1))), (0, .ref 1000000 0), (5, vl eOp j4.1), (6, vl eOp s18.1), (10, vi s18.2.1), (50, vl eOp s18.1), (52, vi x22.1), (54, .own 54), (55, .ref 1000000 0), (59, .ref 1000000 0)], [(54, .arr 9 1 ([(ByteArray.mk #[97, 115, 104]), (ByteArray.mk #[98, 114, 105, 103])] : List ByteArray).length (([(ByteArray.mk #[97, 115, 104]), (ByteArray.mk #[98, 114, 105, 103])] : List ByteArray).map eS)), (1000000, .box [vl (eI .u8) x22.2.code, vi x22.2.at', vi x22.2.seed])]⟩) (by kernel_rfl)) Le.sub0) (by kernel_rfl) d10, (List.forall_mem_cons.2 ⟨DEs.mk (i := 6) (L' := #[true, true, true, false, true, true, true, false, false, true, false, false, false, false, false, false, false]) rfl (EStep.le (x_estep_call (f := 77) (caps := []) (xs := [.ref 1000000 0, vi 2]) (pre := []) (post := [vi 2]) (qs := [vi 2]) (z := .ref 1000000 0) (d := 1000000) (pl := 0) (y := .box [vl (eI .u8) x22.2.code, vi x22.2.at', vi x22.2.seed]) (y' := .box [vl (eI .u8) x23.2.code, vi x23.2.at', vi x23.2.seed]) (res := ⟨[.v (vi x23.1)], [(0, .box [vl (eI .u8) x23.2.code, vi x23.2.at', vi x23.2.seed])], false⟩) (x := vi x23.1) (yo := none) rfl rfl rfl rfl rfl ents77 (spec_l01Next_run x22.2 2 _ hx23) rfl rfl false (fun _ => rfl) (by intro hc; cases hc)) Le.sub0) (by kernel_rfl) d12, (fun _ h => absurd h List.not_mem_nil)⟩)⟩)
  refine DE.share (fuel := 11) (L := #[true, true, true, true, false, true, false, false, false, true, false, false, false, false, false, false, false]) (σ := ⟨75, [(0, .ref 1000000 0), (5, vl eOp j4.1), (6, vl eOp s18.1), (10, vi s18.2.1), (50, vl eOp s18.1), (53, vi (w64 (2 + x22.1))), (55, .ref 1000000 0), (59, .ref 1000000 0)], [(1000000, .box [vl (eI .u8) x22.2.code, vi x22.2.at', vi x22.2.seed])]⟩) ?_ (fun d7 => ?_)
  exact DE.all [4, 6] (by kernel_rfl) (by simp) (List.forall_mem_cons.2 ⟨DEs.mk (i := 4) (L' := #[true, true, true, true, true, true, false, false, false, true, false, false, false, false, false, false, false]) rfl (EStep.le (EStep.ofN2 tbok (σ' := ⟨75, [(54, .own 54), (0, .ref 1000000 0), (5, vl eOp j4.1), (6, vl eOp s18.1), (10, vi s18.2.1), (50, vl eOp s18.1), (53, vi (w64 (2 + x22.1))), (55, .ref 1000000 0), (59, .ref 1000000 0)], [(54, .arr 9 1 ([(ByteArray.mk #[97, 115, 104]), (ByteArray.mk #[98, 114, 105, 103])] : List ByteArray).length (([(ByteArray.mk #[97, 115, 104]), (ByteArray.mk #[98, 114, 105, 103])] : List ByteArray).map eS)), (1000000, .box [vl (eI .u8) x22.2.code, vi x22.2.at', vi x22.2.seed])]⟩) (by kernel_rfl)) Le.sub0) (by kernel_rfl) d10, (List.forall_mem_cons.2 ⟨DEs.mk (i := 6) (L' := #[true, true, true, true, false, true, true, false, false, true, false, false, false, false, false, false, false]) rfl (EStep.le (x_estep_call (f := 77) (caps := []) (xs := [.ref 1000000 0, vi 2]) (pre := []) (post := [vi 2]) (qs := [vi 2]) (z := .ref 1000000 0) (d := 1000000) (pl := 0) (y := .box [vl (eI .u8) x22.2.code, vi x22.2.at', vi x22.2.seed]) (y' := .box [vl (eI .u8) x23.2.code, vi x23.2.at', vi x23.2.seed]) (res := ⟨[.v (vi x23.1)], [(0, .box [vl (eI .u8) x23.2.code, vi x23.2.at', vi x23.2.seed])], false⟩) (x := vi x23.1) (yo := none) rfl rfl rfl rfl rfl ents77 (spec_l01Next_run x22.2 2 _ hx23) rfl rfl false (fun _ => rfl) (by intro hc; cases hc)) Le.sub0) (by kernel_rfl) d11, (fun _ h => absurd h List.not_mem_nil)⟩)⟩)
  refine DE.share (fuel := 12) (L := #[true, true, false, false, true, true, false, false, false, true, false, false, false, false, false, false, false]) (σ := ⟨75, [(0, .ref 1000000 0), (5, vl eOp j4.1), (6, vl eOp s18.1), (10, vi s18.2.1), (50, vl eOp s18.1), (51, .ref 1000000 0), (54, .own 54), (55, .ref 1000000 0), (59, .ref 1000000 0)], [(54, .arr 9 1 ([(ByteArray.mk #[97, 115, 104]), (ByteArray.mk #[98, 114, 105, 103])] : List ByteArray).length (([(ByteArray.mk #[97, 115, 104]), (ByteArray.mk #[98, 114, 105, 103])] : List ByteArray).map eS)), (1000000, .box [vl (eI .u8) s18.2.2.code, vi s18.2.2.at', vi s18.2.2.seed])]⟩) ?_ (fun d6 => ?_)
  exact DE.all [2] (by kernel_rfl) (by simp) (List.forall_mem_cons.2 ⟨DEs.mk (i := 2) (L' := #[true, true, true, false, true, true, false, false, false, true, false, false, false, false, false, false, false]) rfl (EStep.le (x_estep_call (f := 77) (caps := []) (xs := [.ref 1000000 0, vi 2]) (pre := []) (post := [vi 2]) (qs := [vi 2]) (z := .ref 1000000 0) (d := 1000000) (pl := 0) (y := .box [vl (eI .u8) s18.2.2.code, vi s18.2.2.at', vi s18.2.2.seed]) (y' := .box [vl (eI .u8) x22.2.code, vi x22.2.at', vi x22.2.seed]) (res := ⟨[.v (vi x22.1)], [(0, .box [vl (eI .u8) x22.2.code, vi x22.2.at', vi x22.2.seed])], false⟩) (x := vi x22.1) (yo := none) rfl rfl rfl rfl rfl ents77 (spec_l01Next_run s18.2.2 2 _ hx22) rfl rfl false (fun _ => rfl) (by intro hc; cases hc)) Le.sub0) (by kernel_rfl) d8, (fun _ h => absurd h List.not_mem_nil)⟩)
  refine DE.share (fuel := 12) (L := #[true, true, true, false, false, true, false, false, false, true, false, false, false, false, false, false, false]) (σ := ⟨75, [(0, .ref 1000000 0), (5, vl eOp j4.1), (6, vl eOp s18.1), (10, vi s18.2.1), (50, vl eOp s18.1), (52, vi x22.1), (55, .ref 1000000 0), (59, .ref 1000000 0)], [(1000000, .box [vl (eI .u8) x22.2.code, vi x22.2.at', vi x22.2.seed])]⟩) ?_ (fun d5 => ?_)
  exact DE.all [3, 4, 6] (by kernel_rfl) (by simp) (List.forall_mem_cons.2 ⟨DEs.mk (i := 3) (L' := #[true, true, true, true, false, true, false, false, false, true, false, false, false, false, false, false, false]) rfl (EStep.le (EStep.ofN2 tbok (σ' := ⟨75, [(53, vi (w64 (2 + x22.1))), (0, .ref 1000000 0), (5, vl eOp j4.1), (6, vl eOp s18.1), (10, vi s18.2.1), (50, vl eOp s18.1), (52, vi x22.1), (55, .ref 1000000 0), (59, .ref 1000000 0)], [(1000000, .box [vl (eI .u8) x22.2.code, vi x22.2.at', vi x22.2.seed])]⟩) (by kernel_rfl)) Le.sub0) (by kernel_rfl) d7, (List.forall_mem_cons.2 ⟨DEs.mk (i := 4) (L' := #[true, true, true, false, true, true, false, false, false, true, false, false, false, false, false, false, false]) rfl (EStep.le (EStep.ofN2 tbok (σ' := ⟨75, [(54, .own 54), (0, .ref 1000000 0), (5, vl eOp j4.1), (6, vl eOp s18.1), (10, vi s18.2.1), (50, vl eOp s18.1), (52, vi x22.1), (55, .ref 1000000 0), (59, .ref 1000000 0)], [(54, .arr 9 1 ([(ByteArray.mk #[97, 115, 104]), (ByteArray.mk #[98, 114, 105, 103])] : List ByteArray).length (([(ByteArray.mk #[97, 115, 104]), (ByteArray.mk #[98, 114, 105, 103])] : List ByteArray).map eS)), (1000000, .box [vl (eI .u8) x22.2.code, vi x22.2.at', vi x22.2.seed])]⟩) (by kernel_rfl)) Le.sub0) (by kernel_rfl) d8, (List.forall_mem_cons.2 ⟨DEs.mk (i := 6) (L' := #[true, true, true, false, false, true, true, false, false, true, false, false, false, false, false, false, false]) rfl (EStep.le (x_estep_call (f := 77) (caps := []) (xs := [.ref 1000000 0, vi 2]) (pre := []) (post := [vi 2]) (qs := [vi 2]) (z := .ref 1000000 0) (d := 1000000) (pl := 0) (y := .box [vl (eI .u8) x22.2.code, vi x22.2.at', vi x22.2.seed]) (y' := .box [vl (eI .u8) x23.2.code, vi x23.2.at', vi x23.2.seed]) (res := ⟨[.v (vi x23.1)], [(0, .box [vl (eI .u8) x23.2.code, vi x23.2.at', vi x23.2.seed])], false⟩) (x := vi x23.1) (yo := none) rfl rfl rfl rfl rfl ents77 (spec_l01Next_run x22.2 2 _ hx23) rfl rfl false (fun _ => rfl) (by intro hc; cases hc)) Le.sub0) (by kernel_rfl) d9, (fun _ h => absurd h List.not_mem_nil)⟩)⟩)⟩)
  refine DE.share (fuel := 13) (L := #[true, true, false, false, false, true, false, false, false, true, false, false, false, false, false, false, false]) (σ := ⟨75, [(0, .ref 1000000 0), (5, vl eOp j4.1), (6, vl eOp s18.1), (10, vi s18.2.1), (50, vl eOp s18.1), (51, .ref 1000000 0), (55, .ref 1000000 0), (59, .ref 1000000 0)], [(1000000, .box [vl (eI .u8) s18.2.2.code, vi s18.2.2.at', vi s18.2.2.seed])]⟩) ?_ (fun d4 => ?_)
  exact DE.all [2, 4] (by kernel_rfl) (by simp) (List.forall_mem_cons.2 ⟨DEs.mk (i := 2) (L' := #[true, true, true, false, false, true, false, false, false, true, false, false, false, false, false, false, false]) rfl (EStep.le (x_estep_call (f := 77) (caps := []) (xs := [.ref 1000000 0, vi 2]) (pre := []) (post := [vi 2]) (qs := [vi 2]) (z := .ref 1000000 0) (d := 1000000) (pl := 0) (y := .box [vl (eI .u8) s18.2.2.code, vi s18.2.2.at', vi s18.2.2.seed]) (y' := .box [vl (eI .u8) x22.2.code, vi x22.2.at', vi x22.2.seed]) (res := ⟨[.v (vi x22.1)], [(0, .box [vl (eI .u8) x22.2.code, vi x22.2.at', vi x22.2.seed])], false⟩) (x := vi x22.1) (yo := none) rfl rfl rfl rfl rfl ents77 (spec_l01Next_run s18.2.2 2 _ hx22) rfl rfl false (fun _ => rfl) (by intro hc; cases hc)) Le.sub0) (by kernel_rfl) d5, (List.forall_mem_cons.2 ⟨DEs.mk (i := 4) (L' := #[true, true, false, false, true, true, false, false, false, true, false, false, false, false, false, false, false]) rfl (EStep.le (EStep.ofN2 tbok (σ' := ⟨75, [(54, .own 54), (0, .ref 1000000 0), (5, vl eOp j4.1), (6, vl eOp s18.1), (10, vi s18.2.1), (50, vl eOp s18.1), (51, .ref 1000000 0), (55, .ref 1000000 0), (59, .ref 1000000 0)], [(54, .arr 9 1 ([(ByteArray.mk #[97, 115, 104]), (ByteArray.mk #[98, 114, 105, 103])] : List ByteArray).length (([(ByteArray.mk #[97, 115, 104]), (ByteArray.mk #[98, 114, 105, 103])] : List ByteArray).map eS)), (1000000, .box [vl (eI .u8) s18.2.2.code, vi s18.2.2.at', vi s18.2.2.seed])]⟩) (by kernel_rfl)) Le.sub0) (by kernel_rfl) d6, (fun _ h => absurd h List.not_mem_nil)⟩)⟩)
  refine DE.share (fuel := 14) (L := #[true, true, false, false, false, true, false, false, false, false, false, false, false, false, false, false, false]) (σ := ⟨75, [(0, .ref 1000000 0), (5, vl eOp j4.1), (6, vl eOp s18.1), (10, vi s18.2.1), (50, vl eOp s18.1), (51, .ref 1000000 0), (55, .ref 1000000 0)], [(1000000, .box [vl (eI .u8) s18.2.2.code, vi s18.2.2.at', vi s18.2.2.seed])]⟩) ?_ (fun d3 => ?_)
  exact DE.take (i := 9) (L' := #[true, true, false, false, false, true, false, false, false, true, false, false, false, false, false, false, false]) rfl (.inl rfl) rfl (by kernel_rfl) (by kernel_rfl) (by kernel_rfl) (EStep.le (EStep.ofN2 tbok (σ' := ⟨75, [(59, .ref 1000000 0), (0, .ref 1000000 0), (5, vl eOp j4.1), (6, vl eOp s18.1), (10, vi s18.2.1), (50, vl eOp s18.1), (51, .ref 1000000 0), (55, .ref 1000000 0)], [(1000000, .box [vl (eI .u8) s18.2.2.code, vi s18.2.2.at', vi s18.2.2.seed])]⟩) (by kernel_rfl)) Le.sub0) (by kernel_rfl) d4
  refine DE.share (fuel := 15) (L := #[true, true, false, false, false, false, false, false, false, false, false, false, false, false, false, false, false]) (σ := ⟨75, [(0, .ref 1000000 0), (5, vl eOp j4.1), (6, vl eOp s18.1), (10, vi s18.2.1), (50, vl eOp s18.1), (51, .ref 1000000 0)], [(1000000, .box [vl (eI .u8) s18.2.2.code, vi s18.2.2.at', vi s18.2.2.seed])]⟩) ?_ (fun d2 => ?_)
  exact DE.take (i := 5) (L' := #[true, true, false, false, false, true, false, false, false, false, false, false, false, false, false, false, false]) rfl (.inl rfl) rfl (by kernel_rfl) (by kernel_rfl) (by kernel_rfl) (EStep.le (EStep.ofN2 tbok (σ' := ⟨75, [(55, .ref 1000000 0), (0, .ref 1000000 0), (5, vl eOp j4.1), (6, vl eOp s18.1), (10, vi s18.2.1), (50, vl eOp s18.1), (51, .ref 1000000 0)], [(1000000, .box [vl (eI .u8) s18.2.2.code, vi s18.2.2.at', vi s18.2.2.seed])]⟩) (by kernel_rfl)) Le.sub0) (by kernel_rfl) d3
  refine DE.share (fuel := 16) (L := #[true, false, false, false, false, false, false, false, false, false, false, false, false, false, false, false, false]) (σ := ⟨75, [(0, .ref 1000000 0), (5, vl eOp j4.1), (6, vl eOp s18.1), (10, vi s18.2.1), (50, vl eOp s18.1)], [(1000000, .box [vl (eI .u8) s18.2.2.code, vi s18.2.2.at', vi s18.2.2.seed])]⟩) ?_ (fun d1 => ?_)
  exact DE.take (i := 1) (L' := #[true, true, false, false, false, false, false, false, false, false, false, false, false, false, false, false, false]) rfl (.inl rfl) rfl (by kernel_rfl) (by kernel_rfl) (by kernel_rfl) (EStep.le (EStep.ofN2 tbok (σ' := ⟨75, [(51, .ref 1000000 0), (0, .ref 1000000 0), (5, vl eOp j4.1), (6, vl eOp s18.1), (10, vi s18.2.1), (50, vl eOp s18.1)], [(1000000, .box [vl (eI .u8) s18.2.2.code, vi s18.2.2.at', vi s18.2.2.seed])]⟩) (by kernel_rfl)) Le.sub0) (by kernel_rfl) d2
  exact DE.take (i := 0) (L' := #[true, false, false, false, false, false, false, false, false, false, false, false, false, false, false, false, false]) rfl (.inl rfl) rfl (by kernel_rfl) (by kernel_rfl) (by kernel_rfl) (EStep.le (EStep.ofN2 tbok (σ' := ⟨75, [(50, vl eOp s18.1), (0, .ref 1000000 0), (5, vl eOp j4.1), (6, vl eOp s18.1), (10, vi s18.2.1), (46, vb (decide (s18.2.1 > 0)))], [(1000000, .box [vl (eI .u8) s18.2.2.code, vi s18.2.2.at', vi s18.2.2.seed])]⟩) (by kernel_rfl)) Le.sub0) (by kernel_rfl) d1
  refine nx_n ?_
  refine swp_seq ?_
  refine swp_reg ?_
  refine SRun.ck tbok 2 ⟨75, [(0, .ref 1000000 0), (5, vl eOp j4.1), (6, vl eOp s18.1), (10, vi s18.2.1), (11, .own 61), (65, vb (x26.2 == 0))], [(61, .deep 61 5 x26.1.length [.flat, .flat, .flat, .flat, (.sl 2 1 [.flat])] (x26.1.map eOp)), (1000000, .box [vl (eI .u8) x25.2.code, vi x25.2.at', vi x25.2.seed])]⟩ ?_
  refine SRun.nil ?_
  refine nx_n ?_
  refine swp_cond (b := (x26.2 == 0)) (by kernel_rfl) (fun hb => ?_) (fun hb => ?_)
  replace h := cond_t hb h
  refine swp_reg ?_
  refine SRun.ck tbok 2 ⟨75, [(0, .ref 1000000 0), (5, vl eOp j4.1), (6, .own 61), (10, vi s18.2.1)], [(61, .deep 61 5 x26.1.length [.flat, .flat, .flat, .flat, (.sl 2 1 [.flat])] (x26.1.map eOp)), (1000000, .box [vl (eI .u8) x25.2.code, vi x25.2.at', vi x25.2.seed])]⟩ ?_
  refine SRun.nil ?_
  replace h := Option.some.inj h
  subst h
  exact q_bn (q_j ((Le.frzD' (d := 61) (e := 61) (m := 5) (n := x26.1.length) (ss := [.flat, .flat, .flat, .flat, (.sl 2 1 [.flat])]) (es := x26.1.map eOp) (by kernel_rfl) (by kernel_rfl)).trans (Le.sub0)))
  replace h := cond_f hb h
  refine swp_skip ?_
  replace h := Option.some.inj h
  subst h
  exact q_bn (q_j (Le.sub0))
  refine swp_reg ?_
  refine SRun.ck tbok 3 ⟨75, [(0, .ref 1000000 0), (5, vl eOp j4.1), (6, vl eOp j20.1), (10, vi (w64 (s18.2.1 - 1)))], [(1000000, .box [vl (eI .u8) j20.2.code, vi j20.2.at', vi j20.2.seed])]⟩ ?_
  refine SRun.nil ?_
  replace h := Option.some.inj h
  subst h
  exact q_l (Le.sub0)
  replace h := cond_f hb h
  refine swp_exit ?_
  replace h := Option.some.inj h
  subst h
  exact nx_e (q_re (q_bh (q_j (Le.sub0))))
  refine swp_seq ?_
  refine swp_seq ?_
  refine swp_reg ?_
  refine SRun.ck tbok 1 ⟨75, [(0, .ref 1000000 0), (5, vl eOp j4.1), (6, vl eOp j16.1), (67, .ref 1000000 0)], [(1000000, .box [vl (eI .u8) j16.2.code, vi j16.2.at', vi j16.2.seed])]⟩ ?_
  obtain ⟨x27, hx27, h⟩ := bind_some h
  refine SRun.estep (x_estep_call (f := 77) (caps := []) (xs := [.ref 1000000 0, vi 8]) (pre := []) (post := [vi 8]) (qs := [vi 8]) (z := .ref 1000000 0) (d := 1000000) (pl := 0) (y := .box [vl (eI .u8) j16.2.code, vi j16.2.at', vi j16.2.seed]) (y' := .box [vl (eI .u8) x27.2.code, vi x27.2.at', vi x27.2.seed]) (res := ⟨[.v (vi x27.1)], [(0, .box [vl (eI .u8) x27.2.code, vi x27.2.at', vi x27.2.seed])], false⟩) (x := vi x27.1) (yo := none) rfl rfl rfl rfl rfl ents77 (spec_l01Next_run j16.2 8 _ hx27) rfl rfl false (fun _ => rfl) (by intro hc; cases hc)) ?_
  refine SRun.ck tbok 1 ⟨75, [(0, .ref 1000000 0), (5, vl eOp j4.1), (6, vl eOp j16.1), (69, vb (x27.1 == 0))], [(1000000, .box [vl (eI .u8) x27.2.code, vi x27.2.at', vi x27.2.seed])]⟩ ?_
  refine SRun.nil ?_
  refine nx_n ?_
  refine swp_seqJ h (fun j28 => ⟨75, [(5, vl eOp j4.1), (6, vl eOp j28.1)], [(1000000, .box [vl (eI .u8) j28.2.code, vi j28.2.at', vi j28.2.seed])]⟩) (fun v29 h => ?_) (fun j28 h => ?_)
  refine swp_cond (b := (x27.1 == 0)) (by kernel_rfl) (fun hb => ?_) (fun hb => ?_)
  replace h := cond_t hb h
  refine swp_reg ?_
  refine SRun.ck tbok 2 ⟨75, [(5, vl eOp j4.1), (70, .ref 1000000 0), (71, vl eOp j16.1)], [(1000000, .box [vl (eI .u8) x27.2.code, vi x27.2.at', vi x27.2.seed])]⟩ ?_
  obtain ⟨x30, hx30, h⟩ := bind_some h
  refine SRun.estep (x_estep_call (f := 93) (caps := []) (xs := [.ref 1000000 0, vl eOp j16.1, vi 2]) (pre := []) (post := [vl eOp j16.1, vi 2]) (qs := [vl eOp j16.1, vi 2]) (z := .ref 1000000 0) (d := 1000000) (pl := 0) (y := .box [vl (eI .u8) x27.2.code, vi x27.2.at', vi x27.2.seed]) (y' := .box [vl (eI .u8) x30.2.code, vi x30.2.at', vi x30.2.seed]) (res := ⟨[.v (vl eOp x30.1)], [(0, .box [vl (eI .u8) x30.2.code, vi x30.2.at', vi x30.2.seed])], true⟩) (x := vl eOp x30.1) (yo := none) rfl rfl rfl rfl rfl ents93 (spec_l32Grow_run x27.2 j16.1 2 _ hx30) rfl rfl false (fun _ => rfl) (by intro hc; cases hc)) ?_
  refine SRun.ck tbok 1 ⟨75, [(5, vl eOp j4.1), (6, vl eOp x30.1)], [(1000000, .box [vl (eI .u8) x30.2.code, vi x30.2.at', vi x30.2.seed])]⟩ ?_
  refine SRun.nil ?_
  replace h := Option.some.inj h
  subst h
  exact q_j (Le.sub0)
  replace h := cond_f hb h
  refine swp_skip ?_
  replace h := Option.some.inj h
  subst h
  exact q_j (Le.sub0)
  refine swp_seq ?_
  refine swp_reg ?_
  refine SRun.ck tbok 4 ⟨75, [(2, vl eOp j4.1), (3, vl eOp j28.1)], [(1000000, .box [vl (eI .u8) j28.2.code, vi j28.2.at', vi j28.2.seed])]⟩ ?_
  refine SRun.nil ?_
  refine nx_n ?_
  refine swp_ret ?_
  replace h := Option.some.inj h
  subst h
  exact q_fr (fin_io (fin2 (by kernel_rfl) (finT rfl (holds_t (by kernel_rfl))) (finT rfl (holds_t (by kernel_rfl)))) (y := .box [vl (eI .u8) j28.2.code, vi j28.2.at', vi j28.2.seed]) (by kernel_rfl) rfl (by kernel_rfl) (by kernel_rfl))
theorem ents92 : Ents Tryd.prog 92 := ents_of Tryd.func92 (by kernel_rfl) rfl
noncomputable def spec_l32Find (aLog : (List Op)) (aOffice : Int) (aNumber : Int) : Option (Int) :=
  (((forN (aLog.length : Int) (fun (i3 : Int) (_ : Unit) => ((((at' aLog i3).bind fun x7 => (bif (x7.Office == aOffice) then ((at' aLog i3).bind fun x8 => some (x8.Number == aNumber)) else some false))).bind fun (j9 : Bool) => (bif j9 then some (.inr (.inr i3)) else some (.inl ())))) (fun (_ : Unit) => .inl ()) 0 ())).bind (Sum.elim (fun (_ : Unit) => some (-1)) some))
set_option maxRecDepth 100000 in
set_option maxHeartbeats 4000000 in
theorem spec_l32Find_run (aLog : (List Op)) (aOffice : Int) (aNumber : Int) (r : Int) (h : spec_l32Find aLog aOffice aNumber = some r) : SCall Tryd.prog 66 [.v (vl eOp aLog), .v (vi aOffice), .v (vi aNumber)] ⟨[.v (vi r)], [], false⟩ := by
  refine scall_in Tryd.func66 rfl [(.tmp 6)] rfl (fun r => ⟨[.v (vi r)], [], false⟩) (r := r) ?_
  unfold spec_l32Find at h
  refine swp_seq ?_
  refine swp_reg ?_
  refine SRun.ck tbok 1 ⟨31, [(0, vl eOp aLog), (1, vi aOffice), (2, vi aNumber)], []⟩ ?_
  refine SRun.nil ?_
  refine nx_n ?_
  refine swp_seq ?_
  refine swp_seq ?_
  refine swp_reg ?_
  refine SRun.ck tbok 1 ⟨31, [(0, vl eOp aLog), (1, vi aOffice), (2, vi aNumber), (7, vi 0)], []⟩ ?_
  refine SRun.nil ?_
  refine nx_n ?_
  refine swp_seqE (r := r) h (fun j1 => ⟨31, [], []⟩) (fun v2 h => ?_) (fun j1 h => ?_)
  refine swp_blk (a := v2) ?_
  refine swp_lpL (r := v2) (s := (0, ())) _ (fun s3 => ⟨31, [(0, vl eOp aLog), (1, vi aOffice), (2, vi aNumber), (7, vi s3.1)], []⟩) _ (Le.sub0) h (fun s3 v4 h => ?_)
  refine swp_seq ?_
  refine swp_seq ?_
  refine swp_reg ?_
  refine SRun.ck tbok 4 ⟨31, [(0, vl eOp aLog), (1, vi aOffice), (2, vi aNumber), (7, vi s3.1), (11, vb (decide (s3.1 < (aLog.length : Int))))], []⟩ ?_
  refine SRun.nil ?_
  refine nx_n ?_
  refine swp_cond (b := (decide (s3.1 < (aLog.length : Int)))) (by kernel_rfl) (fun hb => ?_) (fun hb => ?_)
  replace h := cond_t hb h
  refine swp_skip ?_
  refine nx_n ?_
  refine swp_seq ?_
  refine swp_seqL (r := v4) h (fun j5 => ⟨31, [(0, vl eOp aLog), (1, vi aOffice), (2, vi aNumber), (7, vi s3.1)], []⟩) (fun v6 h => ?_) (fun j5 h => ?_)
  refine swp_blk (a := v6) ?_
  refine swp_seq ?_
  refine swp_regJ h (fun j9 => ⟨31, [(0, vl eOp aLog), (1, vi aOffice), (2, vi aNumber), (7, vi s3.1), (29, vb j9)], []⟩) (fun v10 h => ?_) (fun j9 h => ?_)
  refine SRun.ck tbok 2 ⟨31, [(0, vl eOp aLog), (1, vi aOffice), (2, vi aNumber), (7, vi s3.1), (14, vl eOp aLog), (15, vi s3.1)], []⟩ ?_
  obtain ⟨x7, hx7, h⟩ := bind_some h
  refine SRun.ls (x_index (L := aLog) (f := eOp) (ti := ti25) (tj := ti61) (e := 61) (k := .i64) tbok rfl hx7) ?_
  refine SRun.ck tbok 5 ⟨31, [(0, vl eOp aLog), (1, vi aOffice), (2, vi aNumber), (7, vi s3.1), (21, vb (x7.Office == aOffice))], []⟩ ?_
  refine SRun.cut [(21, fun b => b)] (b := (x7.Office == aOffice)) (by kernel_rfl) (fun hb => ?_) (fun hb => ?_)
  replace h := cond_t hb h
  refine SRun.ck tbok 2 ⟨31, [(0, vl eOp aLog), (1, vi aOffice), (2, vi aNumber), (7, vi s3.1), (21, vb true), (22, vl eOp aLog), (23, vi s3.1)], []⟩ ?_
  obtain ⟨x8, hx8, h⟩ := bind_some h
  refine SRun.ls (x_index (L := aLog) (f := eOp) (ti := ti25) (tj := ti61) (e := 61) (k := .i64) tbok rfl hx8) ?_
  refine SRun.ck tbok 5 ⟨31, [(0, vl eOp aLog), (1, vi aOffice), (2, vi aNumber), (7, vi s3.1), (29, vb (x8.Number == aNumber))], []⟩ ?_
  refine SRun.nil ?_
  replace h := Option.some.inj h
  subst h
  exact Le.sub0
  replace h := cond_f hb h
  refine SRun.ck tbok 8 ⟨31, [(0, vl eOp aLog), (1, vi aOffice), (2, vi aNumber), (7, vi s3.1), (29, vb false)], []⟩ ?_
  refine SRun.nil ?_
  replace h := Option.some.inj h
  subst h
  exact Le.sub0
  refine swp_cond (b := j9) (by kernel_rfl) (fun hb => ?_) (fun hb => ?_)
  replace h := cond_t hb h
  refine swp_seq ?_
  refine swp_reg ?_
  refine SRun.ck tbok 2 ⟨31, [(6, vi s3.1)], []⟩ ?_
  refine SRun.nil ?_
  refine nx_n ?_
  refine swp_ret ?_
  replace h := Option.some.inj h
  subst h
  exact q_br (q_rr (q_rr (q_br (q_rr (q_fr (fin1 (by kernel_rfl) (finV rfl SV.flat_of (holds_t (by kernel_rfl)))))))))
  replace h := cond_f hb h
  refine swp_skip ?_
  replace h := Option.some.inj h
  subst h
  exact q_bn (q_l (Le.sub0))
  refine swp_reg ?_
  refine SRun.ck tbok 3 ⟨31, [(0, vl eOp aLog), (1, vi aOffice), (2, vi aNumber), (7, vi (w64 (s3.1 + 1)))], []⟩ ?_
  refine SRun.nil ?_
  replace h := Option.some.inj h
  subst h
  exact q_l (Le.sub0)
  replace h := cond_f hb h
  refine swp_exit ?_
  replace h := Option.some.inj h
  subst h
  exact nx_e (q_re (q_bh (q_l (Le.sub0))))
  refine swp_seq ?_
  refine swp_reg ?_
  refine SRun.ck tbok 1 ⟨31, [(6, vi (-1))], []⟩ ?_
  refine SRun.nil ?_
  refine nx_n ?_
  refine swp_ret ?_
  replace h := Option.some.inj h
  subst h
  exact q_fr (fin1 (by kernel_rfl) (finV rfl SV.flat_of (holds_t (by kernel_rfl))))
theorem ents66 : Ents Tryd.prog 66 := ents_of Tryd.func66 (by kernel_rfl) rfl
noncomputable def spec_l01Same (aA : (List Int)) (aB : (List Int)) : Option (Bool) :=
  (bif ((aA.length : Int) != (aB.length : Int)) then some false else (((forN (aA.length : Int) (fun (i3 : Int) (_ : Unit) => ((at' aA i3).bind fun x7 => ((at' aB i3).bind fun x8 => (bif (x7 != x8) then some (.inr (.inr false)) else some (.inl ()))))) (fun (_ : Unit) => .inl ()) 0 ())).bind (Sum.elim (fun (_ : Unit) => some true) some)))
set_option maxRecDepth 100000 in
set_option maxHeartbeats 4000000 in
theorem spec_l01Same_run (aA : (List Int)) (aB : (List Int)) (r : Bool) (h : spec_l01Same aA aB = some r) : SCall Tryd.prog 87 [.v (vl (eI .i64) aA), .v (vl (eI .i64) aB)] ⟨[.v (vb r)], [], false⟩ := by
  refine scall_in Tryd.func87 rfl [(.tmp 4)] rfl (fun r => ⟨[.v (vb r)], [], false⟩) (r := r) ?_
  unfold spec_l01Same at h
  refine swp_seq ?_
  refine swp_reg ?_
  refine SRun.ck tbok 1 ⟨26, [(0, vl (eI .i64) aA), (1, vl (eI .i64) aB)], []⟩ ?_
  refine SRun.nil ?_
  refine nx_n ?_
  refine swp_seq ?_
  refine swp_seq ?_
  refine swp_reg ?_
  refine SRun.ck tbok 5 ⟨26, [(0, vl (eI .i64) aA), (1, vl (eI .i64) aB), (10, vb ((aA.length : Int) != (aB.length : Int)))], []⟩ ?_
  refine SRun.nil ?_
  refine nx_n ?_
  refine swp_cond (b := ((aA.length : Int) != (aB.length : Int))) (by kernel_rfl) (fun hb => ?_) (fun hb => ?_)
  replace h := cond_t hb h
  refine swp_seq ?_
  refine swp_reg ?_
  refine SRun.ck tbok 1 ⟨26, [(4, vb false)], []⟩ ?_
  refine SRun.nil ?_
  refine nx_n ?_
  refine swp_ret ?_
  replace h := Option.some.inj h
  subst h
  exact nx_r (q_fr (fin1 (by kernel_rfl) (finV rfl SV.flat_of (holds_t (by kernel_rfl)))))
  replace h := cond_f hb h
  refine swp_skip ?_
  refine nx_n ?_
  refine swp_seq ?_
  refine swp_seq ?_
  refine swp_reg ?_
  refine SRun.ck tbok 1 ⟨26, [(0, vl (eI .i64) aA), (1, vl (eI .i64) aB), (5, vi 0)], []⟩ ?_
  refine SRun.nil ?_
  refine nx_n ?_
  refine swp_seqE (r := r) h (fun j1 => ⟨26, [], []⟩) (fun v2 h => ?_) (fun j1 h => ?_)
  refine swp_blk (a := v2) ?_
  refine swp_lpL (r := v2) (s := (0, ())) _ (fun s3 => ⟨26, [(0, vl (eI .i64) aA), (1, vl (eI .i64) aB), (5, vi s3.1)], []⟩) _ (Le.sub0) h (fun s3 v4 h => ?_)
  refine swp_seq ?_
  refine swp_seq ?_
  refine swp_reg ?_
  refine SRun.ck tbok 4 ⟨26, [(0, vl (eI .i64) aA), (1, vl (eI .i64) aB), (5, vi s3.1), (14, vb (decide (s3.1 < (aA.length : Int))))], []⟩ ?_
  refine SRun.nil ?_
  refine nx_n ?_
  refine swp_cond (b := (decide (s3.1 < (aA.length : Int)))) (by kernel_rfl) (fun hb => ?_) (fun hb => ?_)
  replace h := cond_t hb h
  refine swp_skip ?_
  refine nx_n ?_
  refine swp_seq ?_
  refine swp_seqL (r := v4) h (fun j5 => ⟨26, [(0, vl (eI .i64) aA), (1, vl (eI .i64) aB), (5, vi s3.1)], []⟩) (fun v6 h => ?_) (fun j5 h => ?_)
  refine swp_blk (a := v6) ?_
  refine swp_seq ?_
  refine swp_dr mixed ?_
  refine DGo.chunk' tbok 2 (σ' := ⟨26, [(18, vi s3.1), (17, vl (eI .i64) aA), (0, vl (eI .i64) aA), (1, vl (eI .i64) aB), (5, vi s3.1), (14, vb (decide (s3.1 < (aA.length : Int))))], []⟩) (by kernel_rfl) ?_
  obtain ⟨x7, hx7, h⟩ := bind_some h
  refine DGo.step (x_index (L := aA) (f := (eI .i64)) (ti := ti32) (tj := ti2) (e := 2) (k := .i64) tbok rfl hx7) ?_
  refine DGo.chunk' tbok 3 (σ' := ⟨26, [(22, vi s3.1), (21, vl (eI .i64) aB), (20, vi x7), (19, .ptr (((eI .i64) x7).map .tr) 0), (18, vi s3.1), (17, vl (eI .i64) aA), (0, vl (eI .i64) aA), (1, vl (eI .i64) aB), (5, vi s3.1), (14, vb (decide (s3.1 < (aA.length : Int))))], []⟩) (by kernel_rfl) ?_
  obtain ⟨x8, hx8, h⟩ := bind_some h
  refine DGo.step (x_index (L := aB) (f := (eI .i64)) (ti := ti32) (tj := ti2) (e := 2) (k := .i64) tbok rfl hx8) ?_
  refine DGo.chunk' tbok 2 (σ' := ⟨26, [(25, vb (x7 != x8)), (24, vi x8), (23, .ptr (((eI .i64) x8).map .tr) 0), (22, vi s3.1), (21, vl (eI .i64) aB), (20, vi x7), (19, .ptr (((eI .i64) x7).map .tr) 0), (18, vi s3.1), (17, vl (eI .i64) aA), (0, vl (eI .i64) aA), (1, vl (eI .i64) aB), (5, vi s3.1), (14, vb (decide (s3.1 < (aA.length : Int))))], []⟩) (by kernel_rfl) ?_
  refine DGo.nil (by kernel_rfl) ?_
  refine nx_n ?_
  refine swp_cond (b := (x7 != x8)) (by kernel_rfl) (fun hb => ?_) (fun hb => ?_)
  replace h := cond_t hb h
  refine swp_seq ?_
  refine swp_reg ?_
  refine SRun.ck tbok 1 ⟨26, [(4, vb false)], []⟩ ?_
  refine SRun.nil ?_
  refine nx_n ?_
  refine swp_ret ?_
  replace h := Option.some.inj h
  subst h
  exact q_br (q_rr (q_rr (q_br (q_rr (q_fr (fin1 (by kernel_rfl) (finV rfl SV.flat_of (holds_t (by kernel_rfl)))))))))
  replace h := cond_f hb h
  refine swp_skip ?_
  replace h := Option.some.inj h
  subst h
  exact q_bn (q_l (Le.sub0))
  refine swp_reg ?_
  refine SRun.ck tbok 3 ⟨26, [(0, vl (eI .i64) aA), (1, vl (eI .i64) aB), (5, vi (w64 (s3.1 + 1)))], []⟩ ?_
  refine SRun.nil ?_
  replace h := Option.some.inj h
  subst h
  exact q_l (Le.sub0)
  replace h := cond_f hb h
  refine swp_exit ?_
  replace h := Option.some.inj h
  subst h
  exact nx_e (q_re (q_bh (q_l (Le.sub0))))
  refine swp_seq ?_
  refine swp_reg ?_
  refine SRun.ck tbok 1 ⟨26, [(4, vb true)], []⟩ ?_
  refine SRun.nil ?_
  refine nx_n ?_
  refine swp_ret ?_
  replace h := Option.some.inj h
  subst h
  exact q_fr (fin1 (by kernel_rfl) (finV rfl SV.flat_of (holds_t (by kernel_rfl))))
theorem ents87 : Ents Tryd.prog 87 := ents_of Tryd.func87 (by kernel_rfl) rfl
noncomputable def spec_l32Same (aA : Op) (aB : Op) : Option (Bool) :=
  (((bif (aA.Office == aB.Office) then (bif (aA.Number == aB.Number) then (bif (aA.Key.toList == aB.Key.toList) then (bif (aA.Text.toList == aB.Text.toList) then ((spec_l01Same aA.Seen aB.Seen).bind fun x1 => some x1) else some false) else some false) else some false) else some false)).bind fun (j2 : Bool) => some j2)
set_option maxRecDepth 100000 in
set_option maxHeartbeats 4000000 in
theorem spec_l32Same_run (aA : Op) (aB : Op) (r : Bool) (h : spec_l32Same aA aB = some r) : SCall Tryd.prog 67 [.v (.agg [vi aA.Office, vi aA.Number, vs aA.Key, vs aA.Text, vl (eI .i64) aA.Seen]), .v (.agg [vi aB.Office, vi aB.Number, vs aB.Key, vs aB.Text, vl (eI .i64) aB.Seen])] ⟨[.v (vb r)], [], false⟩ := by
  refine scall_in Tryd.func67 rfl [(.tmp 4)] rfl (fun r => ⟨[.v (vb r)], [], false⟩) (r := r) ?_
  unfold spec_l32Same at h
  refine swp_seq ?_
  refine swp_reg ?_
  refine SRun.ck tbok 3 ⟨38, [(2, .ref 2 0), (3, .ref 3 0)], [(2, .box [vi aA.Office, vi aA.Number, vs aA.Key, vs aA.Text, vl (eI .i64) aA.Seen]), (3, .box [vi aB.Office, vi aB.Number, vs aB.Key, vs aB.Text, vl (eI .i64) aB.Seen])]⟩ ?_
  refine SRun.nil ?_
  refine nx_n ?_
  refine swp_seq ?_
  refine swp_regJ h (fun j2 => ⟨38, [(4, vb j2)], []⟩) (fun v3 h => ?_) (fun j2 h => ?_)
  refine SRun.ck tbok 6 ⟨38, [(2, .ref 2 0), (3, .ref 3 0), (10, vb (aA.Office == aB.Office))], [(2, .box [vi aA.Office, vi aA.Number, vs aA.Key, vs aA.Text, vl (eI .i64) aA.Seen]), (3, .box [vi aB.Office, vi aB.Number, vs aB.Key, vs aB.Text, vl (eI .i64) aB.Seen])]⟩ ?_
  refine SRun.cut [(10, fun b => b)] (b := (aA.Office == aB.Office)) (by kernel_rfl) (fun hb => ?_) (fun hb => ?_)
  replace h := cond_t hb h
  refine SRun.ck tbok 7 ⟨38, [(2, .ref 2 0), (3, .ref 3 0), (17, vb (aA.Number == aB.Number))], [(2, .box [vi aA.Office, vi aA.Number, vs aA.Key, vs aA.Text, vl (eI .i64) aA.Seen]), (3, .box [vi aB.Office, vi aB.Number, vs aB.Key, vs aB.Text, vl (eI .i64) aB.Seen])]⟩ ?_
  refine SRun.cut [(17, fun b => b)] (b := (aA.Number == aB.Number)) (by kernel_rfl) (fun hb => ?_) (fun hb => ?_)
  replace h := cond_t hb h
  refine SRun.ck tbok 7 ⟨38, [(2, .ref 2 0), (3, .ref 3 0), (24, vb (aA.Key.toList == aB.Key.toList))], [(2, .box [vi aA.Office, vi aA.Number, vs aA.Key, vs aA.Text, vl (eI .i64) aA.Seen]), (3, .box [vi aB.Office, vi aB.Number, vs aB.Key, vs aB.Text, vl (eI .i64) aB.Seen])]⟩ ?_
  refine SRun.cut [(24, fun b => b)] (b := (aA.Key.toList == aB.Key.toList)) (by kernel_rfl) (fun hb => ?_) (fun hb => ?_)
  replace h := cond_t hb h
  refine SRun.ck tbok 7 ⟨38, [(2, .ref 2 0), (3, .ref 3 0), (31, vb (aA.Text.toList == aB.Text.toList))], [(2, .box [vi aA.Office, vi aA.Number, vs aA.Key, vs aA.Text, vl (eI .i64) aA.Seen]), (3, .box [vi aB.Office, vi aB.Number, vs aB.Key, vs aB.Text, vl (eI .i64) aB.Seen])]⟩ ?_
  refine SRun.cut [(31, fun b => b)] (b := (aA.Text.toList == aB.Text.toList)) (by kernel_rfl) (fun hb => ?_) (fun hb => ?_)
  replace h := cond_t hb h
  refine SRun.ck tbok 4 ⟨38, [(31, vb true), (33, vl (eI .i64) aA.Seen), (35, vl (eI .i64) aB.Seen)], []⟩ ?_
  obtain ⟨x1, hx1, h⟩ := bind_some h
  refine SRun.ls (x_lstep_call (f := 87) (caps := []) (xs := [vl (eI .i64) aA.Seen, vl (eI .i64) aB.Seen]) (ys := [vl (eI .i64) aA.Seen, vl (eI .i64) aB.Seen]) (res := ⟨[.v (vb x1)], [], false⟩) (x := vb x1) (y := none) rfl ents87 (spec_l01Same_run aA.Seen aB.Seen _ hx1) rfl (by intro hc; cases hc)) ?_
  refine SRun.ck tbok 2 ⟨38, [(4, vb x1)], []⟩ ?_
  refine SRun.nil ?_
  replace h := Option.some.inj h
  subst h
  exact Le.sub0
  replace h := cond_f hb h
  refine SRun.ck tbok 7 ⟨38, [(4, vb false)], []⟩ ?_
  refine SRun.nil ?_
  replace h := Option.some.inj h
  subst h
  exact Le.sub0
  replace h := cond_f hb h
  refine SRun.ck tbok 14 ⟨38, [(4, vb false)], []⟩ ?_
  refine SRun.nil ?_
  replace h := Option.some.inj h
  subst h
  exact Le.sub0
  replace h := cond_f hb h
  refine SRun.ck tbok 21 ⟨38, [(4, vb false)], []⟩ ?_
  refine SRun.nil ?_
  replace h := Option.some.inj h
  subst h
  exact Le.sub0
  replace h := cond_f hb h
  refine SRun.ck tbok 28 ⟨38, [(4, vb false)], []⟩ ?_
  refine SRun.nil ?_
  replace h := Option.some.inj h
  subst h
  exact Le.sub0
  refine swp_ret ?_
  replace h := Option.some.inj h
  subst h
  exact q_fr (fin1 (by kernel_rfl) (finV rfl SV.flat_of (holds_t (by kernel_rfl))))
theorem ents67 : Ents Tryd.prog 67 := ents_of Tryd.func67 (by kernel_rfl) rfl
noncomputable def spec_MergeLogs (aA : (List Op)) (aB : (List Op)) : Option ((List Op) × Int) :=
  ((((spec_IsLog aA).bind fun x1 => (bif (!x1) then some true else ((spec_IsLog aB).bind fun x2 => some (!x2))))).bind fun (j3 : Bool) => (bif j3 then some (([] : List Op), 1) else ((app' ([] : List Op) aA).bind fun x5 => (((forN (aB.length : Int) (fun (i8 : Int) (s8 : (List Op)) => ((at' aB i8).bind fun x12 => ((at' aB i8).bind fun x13 => ((spec_l32Find aA x12.Office x13.Number).bind fun x14 => (bif (decide (x14 < 0)) then ((at' aB i8).bind fun x15 => ((app' s8 ([x15] : List Op)).bind fun x16 => some (.inl x16))) else ((at' aA x14).bind fun x17 => ((at' aB i8).bind fun x18 => ((spec_l32Same x17 x18).bind fun x19 => (bif (!x19) then some (.inr (.inr (([] : List Op), 5))) else some (.inl s8)))))))))) (fun (s8 : (List Op)) => .inl s8) 0 x5)).bind (Sum.elim (fun (j6 : (List Op)) => (bif (decide ((j6.length : Int) > 16)) then some (([] : List Op), 3) else ((spec_l32Own j6).bind fun x20 => some (x20, 0)))) some)))))
set_option maxRecDepth 100000 in
set_option maxHeartbeats 4000000 in
theorem spec_MergeLogs_run (aA : (List Op)) (aB : (List Op)) (r : (List Op) × Int) (h : spec_MergeLogs aA aB = some r) : SCall Tryd.prog 35 [.v (vl eOp aA), .v (vl eOp aB)] ⟨[.deep 61 5 r.1.length [.flat, .flat, .flat, .flat, (.sl 2 1 [.flat])] (r.1.map eOp), .v (vi r.2)], [], false⟩ := by
  refine scall_in Tryd.func35 rfl [(.tmp 4), (.tmp 5)] rfl (fun r => ⟨[.deep 61 5 r.1.length [.flat, .flat, .flat, .flat, (.sl 2 1 [.flat])] (r.1.map eOp), .v (vi r.2)], [], false⟩) (r := r) ?_
  unfold spec_MergeLogs at h
  refine swp_seq ?_
  refine swp_reg ?_
  refine SRun.ck tbok 2 ⟨62, [(0, vl eOp aA), (1, vl eOp aB)], []⟩ ?_
  refine SRun.nil ?_
  refine nx_n ?_
  refine swp_seq ?_
  refine swp_seq ?_
  refine swp_regJ h (fun j3 => ⟨62, [(0, vl eOp aA), (1, vl eOp aB), (16, vb j3)], []⟩) (fun v4 h => ?_) (fun j3 h => ?_)
  refine SRun.ck tbok 1 ⟨62, [(0, vl eOp aA), (1, vl eOp aB), (9, vl eOp aA)], []⟩ ?_
  obtain ⟨x1, hx1, h⟩ := bind_some h
  refine SRun.ls (x_lstep_call (f := 13) (caps := []) (xs := [vl eOp aA]) (ys := [vl eOp aA]) (res := ⟨[.v (vb x1)], [], false⟩) (x := vb x1) (y := none) rfl ents13 (spec_IsLog_run aA _ hx1) rfl (by intro hc; cases hc)) ?_
  refine SRun.ck tbok 2 ⟨62, [(0, vl eOp aA), (1, vl eOp aB), (12, vb (!x1))], []⟩ ?_
  refine SRun.cut [(12, fun b => b)] (b := (!x1)) (by kernel_rfl) (fun hb => ?_) (fun hb => ?_)
  replace h := cond_t hb h
  refine SRun.ck tbok 4 ⟨62, [(0, vl eOp aA), (1, vl eOp aB), (16, vb true)], []⟩ ?_
  refine SRun.nil ?_
  replace h := Option.some.inj h
  subst h
  exact Le.sub0
  replace h := cond_f hb h
  refine SRun.ck tbok 1 ⟨62, [(0, vl eOp aA), (1, vl eOp aB), (12, vb false), (13, vl eOp aB)], []⟩ ?_
  obtain ⟨x2, hx2, h⟩ := bind_some h
  refine SRun.ls (x_lstep_call (f := 13) (caps := []) (xs := [vl eOp aB]) (ys := [vl eOp aB]) (res := ⟨[.v (vb x2)], [], false⟩) (x := vb x2) (y := none) rfl ents13 (spec_IsLog_run aB _ hx2) rfl (by intro hc; cases hc)) ?_
  refine SRun.ck tbok 2 ⟨62, [(0, vl eOp aA), (1, vl eOp aB), (16, vb (!x2))], []⟩ ?_
  refine SRun.nil ?_
  replace h := Option.some.inj h
  subst h
  exact Le.sub0
  refine swp_cond (b := j3) (by kernel_rfl) (fun hb => ?_) (fun hb => ?_)
  replace h := cond_t hb h
  refine swp_seq ?_
  refine swp_reg ?_
  refine SRun.ck tbok 2 ⟨62, [(4, .own 4), (5, vi 1)], [(4, .arr 61 5 ([] : List Op).length (([] : List Op).map eOp))]⟩ ?_
  refine SRun.nil ?_
  refine nx_n ?_
  refine swp_le (Le.deep0 (d := 4) (e := 61) (m := 5) (ss := [.flat, .flat, .flat, .flat, (.sl 2 1 [.flat])]) (by kernel_rfl) (by kernel_rfl)) ?_
  refine swp_ret ?_
  replace h := Option.some.inj h
  subst h
  exact nx_r (q_fr (fin2 (by kernel_rfl) (finD (d := 4) (holds_t (by kernel_rfl)) (by kernel_rfl) (by kernel_rfl)) (finV rfl SV.flat_of (holds_t (by kernel_rfl)))))
  replace h := cond_f hb h
  refine swp_skip ?_
  refine nx_n ?_
  refine swp_seq ?_
  refine swp_reg ?_
  refine SRun.ck tbok 2 ⟨62, [(0, vl eOp aA), (1, vl eOp aB), (17, .own 17), (18, vl eOp aA)], [(17, .arr 61 5 ([] : List Op).length (([] : List Op).map eOp))]⟩ ?_
  obtain ⟨x5, hx5, h⟩ := bind_some h
  refine SRun.estep (x_append (f := eOp) (t := 25) (ti := ti25) (tj := ti61) (zs := [.int .i64 0, .int .i64 0, .string (ByteArray.mk #[]), .string (ByteArray.mk #[]), .slice none 0 0]) (e := 61) (m := 5) (d := 17) (xv := vl eOp aA) hx5 tbok rfl rfl rfl rfl (src_e (fun _ => rfl))) ?_
  refine SRun.ck tbok 1 ⟨62, [(0, vl eOp aA), (1, vl eOp aB), (6, .own 19)], [(19, .arr 61 5 x5.length (x5.map eOp))]⟩ ?_
  refine SRun.nil ?_
  refine nx_n ?_
  refine swp_seq ?_
  refine swp_seq ?_
  refine swp_reg ?_
  refine SRun.ck tbok 1 ⟨62, [(0, vl eOp aA), (1, vl eOp aB), (6, .own 19), (7, vi 0)], [(19, .arr 61 5 x5.length (x5.map eOp))]⟩ ?_
  refine SRun.nil ?_
  refine nx_n ?_
  refine swp_seqE (r := r) h (fun j6 => ⟨62, [(6, .own 6)], [(6, .arr 61 5 j6.length (j6.map eOp))]⟩) (fun v7 h => ?_) (fun j6 h => ?_)
  refine swp_blk (a := v7) ?_
  refine swp_lpL (r := v7) (s := (0, x5)) _ (fun s8 => ⟨62, [(0, vl eOp aA), (1, vl eOp aB), (6, .own 6), (7, vi s8.1)], [(6, .arr 61 5 s8.2.length (s8.2.map eOp))]⟩) _ ((Le.sub' ([(0, vl eOp aA), (1, vl eOp aB), (6, .own 19), (7, vi 0)] : List (Nat × SV)) ([(19, .arr 61 5 x5.length (x5.map eOp))] : List (Nat × SO)) (by kernel_rfl) (by kernel_rfl)).trans ((Le.ren' (d := 19) (e := 6) (by kernel_rfl) (by kernel_rfl) (by kernel_rfl)).trans (Le.sub0))) h (fun s8 v9 h => ?_)
  refine swp_seq ?_
  refine swp_seq ?_
  refine swp_reg ?_
  refine SRun.ck tbok 4 ⟨62, [(0, vl eOp aA), (1, vl eOp aB), (6, .own 6), (7, vi s8.1), (23, vb (decide (s8.1 < (aB.length : Int))))], [(6, .arr 61 5 s8.2.length (s8.2.map eOp))]⟩ ?_
  refine SRun.nil ?_
  refine nx_n ?_
  refine swp_cond (b := (decide (s8.1 < (aB.length : Int)))) (by kernel_rfl) (fun hb => ?_) (fun hb => ?_)
  replace h := cond_t hb h
  refine swp_skip ?_
  refine nx_n ?_
  refine swp_seq ?_
  refine swp_seqL (r := v9) h (fun j10 => ⟨62, [(0, vl eOp aA), (1, vl eOp aB), (6, .own 6), (7, vi s8.1)], [(6, .arr 61 5 j10.length (j10.map eOp))]⟩) (fun v11 h => ?_) (fun j10 h => ?_)
  refine swp_blk (a := v11) ?_
  refine swp_seq ?_
  refine swp_dr mixed ?_
  refine DGo.chunk' tbok 3 (σ' := ⟨62, [(28, vi s8.1), (27, vl eOp aB), (26, vl eOp aA), (0, vl eOp aA), (1, vl eOp aB), (6, .own 6), (7, vi s8.1), (23, vb (decide (s8.1 < (aB.length : Int))))], [(6, .arr 61 5 s8.2.length (s8.2.map eOp))]⟩) (by kernel_rfl) ?_
  obtain ⟨x12, hx12, h⟩ := bind_some h
  refine DGo.step (x_index (L := aB) (f := eOp) (ti := ti25) (tj := ti61) (e := 61) (k := .i64) tbok rfl hx12) ?_
  refine DGo.chunk' tbok 4 (σ' := ⟨62, [(33, vi s8.1), (32, vl eOp aB), (31, vi x12.Office), (30, .ptr ((eOp x12).map .tr) 0), (29, .ptr ((eOp x12).map .tr) 0), (28, vi s8.1), (27, vl eOp aB), (26, vl eOp aA), (0, vl eOp aA), (1, vl eOp aB), (6, .own 6), (7, vi s8.1), (23, vb (decide (s8.1 < (aB.length : Int))))], [(6, .arr 61 5 s8.2.length (s8.2.map eOp))]⟩) (by kernel_rfl) ?_
  obtain ⟨x13, hx13, h⟩ := bind_some h
  refine DGo.step (x_index (L := aB) (f := eOp) (ti := ti25) (tj := ti61) (e := 61) (k := .i64) tbok rfl hx13) ?_
  refine DGo.chunk' tbok 2 (σ' := ⟨62, [(36, vi x13.Number), (35, .ptr ((eOp x13).map .tr) 1), (34, .ptr ((eOp x13).map .tr) 0), (33, vi s8.1), (32, vl eOp aB), (31, vi x12.Office), (30, .ptr ((eOp x12).map .tr) 0), (29, .ptr ((eOp x12).map .tr) 0), (28, vi s8.1), (27, vl eOp aB), (26, vl eOp aA), (0, vl eOp aA), (1, vl eOp aB), (6, .own 6), (7, vi s8.1), (23, vb (decide (s8.1 < (aB.length : Int))))], [(6, .arr 61 5 s8.2.length (s8.2.map eOp))]⟩) (by kernel_rfl) ?_
  obtain ⟨x14, hx14, h⟩ := bind_some h
  refine DGo.step (x_lstep_call (f := 66) (caps := []) (xs := [vl eOp aA, vi x12.Office, vi x13.Number]) (ys := [vl eOp aA, vi x12.Office, vi x13.Number]) (res := ⟨[.v (vi x14)], [], false⟩) (x := vi x14) (y := none) rfl ents66 (spec_l32Find_run aA x12.Office x13.Number _ hx14) rfl (by intro hc; cases hc)) ?_
  refine DGo.chunk' tbok 1 (σ' := ⟨62, [(8, vi x14), (37, vi x14), (36, vi x13.Number), (35, .ptr ((eOp x13).map .tr) 1), (34, .ptr ((eOp x13).map .tr) 0), (33, vi s8.1), (32, vl eOp aB), (31, vi x12.Office), (30, .ptr ((eOp x12).map .tr) 0), (29, .ptr ((eOp x12).map .tr) 0), (28, vi s8.1), (27, vl eOp aB), (26, vl eOp aA), (0, vl eOp aA), (1, vl eOp aB), (6, .own 6), (7, vi s8.1), (23, vb (decide (s8.1 < (aB.length : Int))))], [(6, .arr 61 5 s8.2.length (s8.2.map eOp))]⟩) (by kernel_rfl) ?_
  refine DGo.nil (by kernel_rfl) ?_
  refine nx_n ?_
  refine swp_seq ?_
  refine swp_reg ?_
  refine SRun.ck tbok 2 ⟨62, [(0, vl eOp aA), (1, vl eOp aB), (6, .own 6), (7, vi s8.1), (8, vi x14), (39, vb (decide (x14 < 0)))], [(6, .arr 61 5 s8.2.length (s8.2.map eOp))]⟩ ?_
  refine SRun.nil ?_
  refine nx_n ?_
  refine swp_cond (b := (decide (x14 < 0))) (by kernel_rfl) (fun hb => ?_) (fun hb => ?_)
  replace h := cond_t hb h
  refine swp_reg ?_
  refine SRun.ck tbok 3 ⟨62, [(0, vl eOp aA), (1, vl eOp aB), (7, vi s8.1), (40, .own 6), (41, vl eOp aB), (42, vi s8.1)], [(6, .arr 61 5 s8.2.length (s8.2.map eOp))]⟩ ?_
  obtain ⟨x15, hx15, h⟩ := bind_some h
  refine SRun.ls (x_index (L := aB) (f := eOp) (ti := ti25) (tj := ti61) (e := 61) (k := .i64) tbok rfl hx15) ?_
  refine SRun.ck tbok 2 ⟨62, [(0, vl eOp aA), (1, vl eOp aB), (7, vi s8.1), (40, .own 6), (45, .own 45)], [(6, .arr 61 5 s8.2.length (s8.2.map eOp)), (45, .arr 61 5 ([x15] : List Op).length (([x15] : List Op).map eOp))]⟩ ?_
  obtain ⟨x16, hx16, h⟩ := bind_some h
  refine SRun.estep (x_append (f := eOp) (t := 25) (ti := ti25) (tj := ti61) (zs := [.int .i64 0, .int .i64 0, .string (ByteArray.mk #[]), .string (ByteArray.mk #[]), .slice none 0 0]) (e := 61) (m := 5) (d := 6) (xv := .own 45) hx16 tbok rfl rfl rfl rfl (x_src_o (e := 61))) ?_
  refine SRun.ck tbok 1 ⟨62, [(0, vl eOp aA), (1, vl eOp aB), (6, .own 46), (7, vi s8.1)], [(46, .arr 61 5 x16.length (x16.map eOp))]⟩ ?_
  refine SRun.nil ?_
  replace h := Option.some.inj h
  subst h
  exact q_bn (q_l ((Le.sub' ([(0, vl eOp aA), (1, vl eOp aB), (6, .own 46), (7, vi s8.1)] : List (Nat × SV)) ([(46, .arr 61 5 x16.length (x16.map eOp))] : List (Nat × SO)) (by kernel_rfl) (by kernel_rfl)).trans ((Le.ren' (d := 46) (e := 6) (by kernel_rfl) (by kernel_rfl) (by kernel_rfl)).trans (Le.sub0))))
  replace h := cond_f hb h
  refine swp_seq ?_
  refine swp_dr mixed ?_
  refine DGo.chunk' tbok 2 (σ' := ⟨62, [(48, vi x14), (47, vl eOp aA), (0, vl eOp aA), (1, vl eOp aB), (6, .own 6), (7, vi s8.1), (8, vi x14), (39, vb (decide (x14 < 0)))], [(6, .arr 61 5 s8.2.length (s8.2.map eOp))]⟩) (by kernel_rfl) ?_
  obtain ⟨x17, hx17, h⟩ := bind_some h
  refine DGo.step (x_index (L := aA) (f := eOp) (ti := ti25) (tj := ti61) (e := 61) (k := .i64) tbok rfl hx17) ?_
  refine DGo.chunk' tbok 3 (σ' := ⟨62, [(52, vi s8.1), (51, vl eOp aB), (50, .agg [vi x17.Office, vi x17.Number, vs x17.Key, vs x17.Text, vl (eI .i64) x17.Seen]), (49, .ptr ((eOp x17).map .tr) 0), (48, vi x14), (47, vl eOp aA), (0, vl eOp aA), (1, vl eOp aB), (6, .own 6), (7, vi s8.1), (8, vi x14), (39, vb (decide (x14 < 0)))], [(6, .arr 61 5 s8.2.length (s8.2.map eOp))]⟩) (by kernel_rfl) ?_
  obtain ⟨x18, hx18, h⟩ := bind_some h
  refine DGo.step (x_index (L := aB) (f := eOp) (ti := ti25) (tj := ti61) (e := 61) (k := .i64) tbok rfl hx18) ?_
  refine DGo.chunk' tbok 1 (σ' := ⟨62, [(54, .agg [vi x18.Office, vi x18.Number, vs x18.Key, vs x18.Text, vl (eI .i64) x18.Seen]), (53, .ptr ((eOp x18).map .tr) 0), (52, vi s8.1), (51, vl eOp aB), (50, .agg [vi x17.Office, vi x17.Number, vs x17.Key, vs x17.Text, vl (eI .i64) x17.Seen]), (49, .ptr ((eOp x17).map .tr) 0), (48, vi x14), (47, vl eOp aA), (0, vl eOp aA), (1, vl eOp aB), (6, .own 6), (7, vi s8.1), (8, vi x14), (39, vb (decide (x14 < 0)))], [(6, .arr 61 5 s8.2.length (s8.2.map eOp))]⟩) (by kernel_rfl) ?_
  obtain ⟨x19, hx19, h⟩ := bind_some h
  refine DGo.step (x_lstep_call (f := 67) (caps := []) (xs := [.agg [vi x17.Office, vi x17.Number, vs x17.Key, vs x17.Text, vl (eI .i64) x17.Seen], .agg [vi x18.Office, vi x18.Number, vs x18.Key, vs x18.Text, vl (eI .i64) x18.Seen]]) (ys := [.agg [vi x17.Office, vi x17.Number, vs x17.Key, vs x17.Text, vl (eI .i64) x17.Seen], .agg [vi x18.Office, vi x18.Number, vs x18.Key, vs x18.Text, vl (eI .i64) x18.Seen]]) (res := ⟨[.v (vb x19)], [], false⟩) (x := vb x19) (y := none) rfl ents67 (spec_l32Same_run x17 x18 _ hx19) rfl (by intro hc; cases hc)) ?_
  refine DGo.chunk' tbok 1 (σ' := ⟨62, [(56, vb (!x19)), (55, vb x19), (54, .agg [vi x18.Office, vi x18.Number, vs x18.Key, vs x18.Text, vl (eI .i64) x18.Seen]), (53, .ptr ((eOp x18).map .tr) 0), (52, vi s8.1), (51, vl eOp aB), (50, .agg [vi x17.Office, vi x17.Number, vs x17.Key, vs x17.Text, vl (eI .i64) x17.Seen]), (49, .ptr ((eOp x17).map .tr) 0), (48, vi x14), (47, vl eOp aA), (0, vl eOp aA), (1, vl eOp aB), (6, .own 6), (7, vi s8.1), (8, vi x14), (39, vb (decide (x14 < 0)))], [(6, .arr 61 5 s8.2.length (s8.2.map eOp))]⟩) (by kernel_rfl) ?_
  refine DGo.nil (by kernel_rfl) ?_
  refine nx_n ?_
  refine swp_cond (b := (!x19)) (by kernel_rfl) (fun hb => ?_) (fun hb => ?_)
  replace h := cond_t hb h
  refine swp_seq ?_
  refine swp_reg ?_
  refine SRun.ck tbok 2 ⟨62, [(4, .own 4), (5, vi 5)], [(4, .arr 61 5 ([] : List Op).length (([] : List Op).map eOp))]⟩ ?_
  refine SRun.nil ?_
  refine nx_n ?_
  refine swp_le (Le.deep0 (d := 4) (e := 61) (m := 5) (ss := [.flat, .flat, .flat, .flat, (.sl 2 1 [.flat])]) (by kernel_rfl) (by kernel_rfl)) ?_
  refine swp_ret ?_
  replace h := Option.some.inj h
  subst h
  exact q_br (q_rr (q_rr (q_br (q_rr (q_fr (fin2 (by kernel_rfl) (finD (d := 4) (holds_t (by kernel_rfl)) (by kernel_rfl) (by kernel_rfl)) (finV rfl SV.flat_of (holds_t (by kernel_rfl)))))))))
  replace h := cond_f hb h
  refine swp_skip ?_
  replace h := Option.some.inj h
  subst h
  exact q_bn (q_l (Le.sub0))
  refine swp_reg ?_
  refine SRun.ck tbok 3 ⟨62, [(0, vl eOp aA), (1, vl eOp aB), (6, .own 6), (7, vi (w64 (s8.1 + 1)))], [(6, .arr 61 5 j10.length (j10.map eOp))]⟩ ?_
  refine SRun.nil ?_
  replace h := Option.some.inj h
  subst h
  exact q_l (Le.sub0)
  replace h := cond_f hb h
  refine swp_exit ?_
  replace h := Option.some.inj h
  subst h
  exact nx_e (q_re (q_bh (q_l (Le.sub0))))
  refine swp_seq ?_
  refine swp_seq ?_
  refine swp_reg ?_
  refine SRun.ck tbok 3 ⟨62, [(6, .own 6), (59, vb (decide ((j6.length : Int) > 16)))], [(6, .arr 61 5 j6.length (j6.map eOp))]⟩ ?_
  refine SRun.nil ?_
  refine nx_n ?_
  refine swp_cond (b := (decide ((j6.length : Int) > 16))) (by kernel_rfl) (fun hb => ?_) (fun hb => ?_)
  replace h := cond_t hb h
  refine swp_seq ?_
  refine swp_reg ?_
  refine SRun.ck tbok 2 ⟨62, [(4, .own 4), (5, vi 3)], [(4, .arr 61 5 ([] : List Op).length (([] : List Op).map eOp))]⟩ ?_
  refine SRun.nil ?_
  refine nx_n ?_
  refine swp_le (Le.deep0 (d := 4) (e := 61) (m := 5) (ss := [.flat, .flat, .flat, .flat, (.sl 2 1 [.flat])]) (by kernel_rfl) (by kernel_rfl)) ?_
  refine swp_ret ?_
  replace h := Option.some.inj h
  subst h
  exact nx_r (q_fr (fin2 (by kernel_rfl) (finD (d := 4) (holds_t (by kernel_rfl)) (by kernel_rfl) (by kernel_rfl)) (finV rfl SV.flat_of (holds_t (by kernel_rfl)))))
  replace h := cond_f hb h
  refine swp_skip ?_
  refine nx_n ?_
  refine swp_seq ?_
  refine swp_reg ?_
  refine SRun.ck tbok 1 ⟨62, [(60, .own 6)], [(6, .arr 61 5 j6.length (j6.map eOp))]⟩ ?_
  obtain ⟨x20, hx20, h⟩ := bind_some h
  refine SRun.ls (x_lstep_call (f := 63) (caps := []) (xs := [.own 6]) (ys := [vl eOp j6]) (res := ⟨[.deep 61 5 x20.length [.flat, .flat, .flat, .flat, (.sl 2 1 [.flat])] (x20.map eOp)], [], false⟩) (x := .own 61) (y := some (.deep 61 5 x20.length [.flat, .flat, .flat, .flat, (.sl 2 1 [.flat])] (x20.map eOp))) rfl ents63 (spec_l32Own_run j6 _ hx20) rfl (by intro hc; cases hc)) ?_
  refine SRun.ck tbok 2 ⟨62, [(4, .own 61), (5, vi 0)], [(61, .deep 61 5 x20.length [.flat, .flat, .flat, .flat, (.sl 2 1 [.flat])] (x20.map eOp))]⟩ ?_
  refine SRun.nil ?_
  refine nx_n ?_
  refine swp_ret ?_
  replace h := Option.some.inj h
  subst h
  exact q_fr (fin2 (by kernel_rfl) (finD (d := 61) (holds_t (by kernel_rfl)) (by kernel_rfl) (by kernel_rfl)) (finV rfl SV.flat_of (holds_t (by kernel_rfl))))
theorem ents35 : Ents Tryd.prog 35 := ents_of Tryd.func35 (by kernel_rfl) rfl
noncomputable def spec_l01DrawWord (aS : l01Source) : Option (ByteArray × l01Source) :=
  ((spec_l01Next aS 30).bind fun x1 => (bif (x1.1 == 0) then ((spec_l01Next x1.2 6).bind fun x2 => ((at' ([(ByteArray.mk #[]), (ByteArray.mk #[70, 111, 114, 100]), (ByteArray.mk #[97, 49]), (ByteArray.mk #[97, 98, 99, 100, 101, 102, 103, 104, 105, 106, 107, 108, 109, 110, 111, 112]), (ByteArray.mk #[97, 98, 99, 100, 101, 102, 103, 104, 105, 106, 107, 108, 109, 110, 111, 112, 113]), (ByteArray.mk #[97, 32, 98])] : List ByteArray) x2.1).bind fun x3 => some (x3, x2.2))) else ((spec_l01Good x1.2).bind fun x4 => some (x4.1, x4.2))))
set_option maxRecDepth 100000 in
set_option maxHeartbeats 4000000 in
theorem spec_l01DrawWord_run (aS : l01Source) (r : ByteArray × l01Source) (h : spec_l01DrawWord aS = some r) : SCall Tryd.prog 74 [.o (.box [vl (eI .u8) aS.code, vi aS.at', vi aS.seed])] ⟨[.v (vs r.1)], [(0, .box [vl (eI .u8) r.2.code, vi r.2.at', vi r.2.seed])], false⟩ := by
  refine scall_in Tryd.func74 rfl [(.tmp 2)] rfl (fun r => ⟨[.v (vs r.1)], [(0, .box [vl (eI .u8) r.2.code, vi r.2.at', vi r.2.seed])], false⟩) (r := r) ?_
  unfold spec_l01DrawWord at h
  refine swp_seq ?_
  refine swp_reg ?_
  refine SRun.ck tbok 1 ⟨13, [(0, .ref 1000000 0)], [(1000000, .box [vl (eI .u8) aS.code, vi aS.at', vi aS.seed])]⟩ ?_
  refine SRun.nil ?_
  refine nx_n ?_
  refine swp_seq ?_
  refine swp_seq ?_
  refine swp_reg ?_
  refine SRun.ck tbok 1 ⟨13, [(0, .ref 1000000 0), (3, .ref 1000000 0)], [(1000000, .box [vl (eI .u8) aS.code, vi aS.at', vi aS.seed])]⟩ ?_
  obtain ⟨x1, hx1, h⟩ := bind_some h
  refine SRun.estep (x_estep_call (f := 77) (caps := []) (xs := [.ref 1000000 0, vi 30]) (pre := []) (post := [vi 30]) (qs := [vi 30]) (z := .ref 1000000 0) (d := 1000000) (pl := 0) (y := .box [vl (eI .u8) aS.code, vi aS.at', vi aS.seed]) (y' := .box [vl (eI .u8) x1.2.code, vi x1.2.at', vi x1.2.seed]) (res := ⟨[.v (vi x1.1)], [(0, .box [vl (eI .u8) x1.2.code, vi x1.2.at', vi x1.2.seed])], false⟩) (x := vi x1.1) (yo := none) rfl rfl rfl rfl rfl ents77 (spec_l01Next_run aS 30 _ hx1) rfl rfl false (fun _ => rfl) (by intro hc; cases hc)) ?_
  refine SRun.ck tbok 1 ⟨13, [(0, .ref 1000000 0), (5, vb (x1.1 == 0))], [(1000000, .box [vl (eI .u8) x1.2.code, vi x1.2.at', vi x1.2.seed])]⟩ ?_
  refine SRun.nil ?_
  refine nx_n ?_
  refine swp_cond (b := (x1.1 == 0)) (by kernel_rfl) (fun hb => ?_) (fun hb => ?_)
  replace h := cond_t hb h
  refine swp_seq ?_
  refine swp_reg ?_
  refine SRun.ck tbok 2 ⟨13, [(6, .own 6), (7, .ref 1000000 0)], [(6, .arr 9 1 ([(ByteArray.mk #[]), (ByteArray.mk #[70, 111, 114, 100]), (ByteArray.mk #[97, 49]), (ByteArray.mk #[97, 98, 99, 100, 101, 102, 103, 104, 105, 106, 107, 108, 109, 110, 111, 112]), (ByteArray.mk #[97, 98, 99, 100, 101, 102, 103, 104, 105, 106, 107, 108, 109, 110, 111, 112, 113]), (ByteArray.mk #[97, 32, 98])] : List ByteArray).length (([(ByteArray.mk #[]), (ByteArray.mk #[70, 111, 114, 100]), (ByteArray.mk #[97, 49]), (ByteArray.mk #[97, 98, 99, 100, 101, 102, 103, 104, 105, 106, 107, 108, 109, 110, 111, 112]), (ByteArray.mk #[97, 98, 99, 100, 101, 102, 103, 104, 105, 106, 107, 108, 109, 110, 111, 112, 113]), (ByteArray.mk #[97, 32, 98])] : List ByteArray).map eS)), (1000000, .box [vl (eI .u8) x1.2.code, vi x1.2.at', vi x1.2.seed])]⟩ ?_
  obtain ⟨x2, hx2, h⟩ := bind_some h
  refine SRun.estep (x_estep_call (f := 77) (caps := []) (xs := [.ref 1000000 0, vi 6]) (pre := []) (post := [vi 6]) (qs := [vi 6]) (z := .ref 1000000 0) (d := 1000000) (pl := 0) (y := .box [vl (eI .u8) x1.2.code, vi x1.2.at', vi x1.2.seed]) (y' := .box [vl (eI .u8) x2.2.code, vi x2.2.at', vi x2.2.seed]) (res := ⟨[.v (vi x2.1)], [(0, .box [vl (eI .u8) x2.2.code, vi x2.2.at', vi x2.2.seed])], false⟩) (x := vi x2.1) (yo := none) rfl rfl rfl rfl rfl ents77 (spec_l01Next_run x1.2 6 _ hx2) rfl rfl false (fun _ => rfl) (by intro hc; cases hc)) ?_
  obtain ⟨x3, hx3, h⟩ := bind_some h
  refine SRun.ls (x_index_own (d := 6) (L := ([(ByteArray.mk #[]), (ByteArray.mk #[70, 111, 114, 100]), (ByteArray.mk #[97, 49]), (ByteArray.mk #[97, 98, 99, 100, 101, 102, 103, 104, 105, 106, 107, 108, 109, 110, 111, 112]), (ByteArray.mk #[97, 98, 99, 100, 101, 102, 103, 104, 105, 106, 107, 108, 109, 110, 111, 112, 113]), (ByteArray.mk #[97, 32, 98])] : List ByteArray)) (f := eS) (ti := ti86) (tj := ti9) (e := 9) (e' := 9) (m := 1) (k := .i64) tbok rfl hx3) ?_
  refine SRun.ls (x_load_own (d := 6) (m := 1) (j := 0) (L := ([(ByteArray.mk #[]), (ByteArray.mk #[70, 111, 114, 100]), (ByteArray.mk #[97, 49]), (ByteArray.mk #[97, 98, 99, 100, 101, 102, 103, 104, 105, 106, 107, 108, 109, 110, 111, 112]), (ByteArray.mk #[97, 98, 99, 100, 101, 102, 103, 104, 105, 106, 107, 108, 109, 110, 111, 112, 113]), (ByteArray.mk #[97, 32, 98])] : List ByteArray)) (f := eS) (ti := ti9) (e := 9) (v := vs x3) tbok rfl hx3) ?_
  refine SRun.ck tbok 1 ⟨13, [(2, vs x3)], [(1000000, .box [vl (eI .u8) x2.2.code, vi x2.2.at', vi x2.2.seed])]⟩ ?_
  refine SRun.nil ?_
  refine nx_n ?_
  refine swp_ret ?_
  replace h := Option.some.inj h
  subst h
  exact nx_r (q_fr (fin_io (fin1 (by kernel_rfl) (finV rfl SV.flat_of (holds_t (by kernel_rfl)))) (y := .box [vl (eI .u8) x2.2.code, vi x2.2.at', vi x2.2.seed]) (by kernel_rfl) rfl (by kernel_rfl) (by kernel_rfl)))
  replace h := cond_f hb h
  refine swp_skip ?_
  refine nx_n ?_
  refine swp_seq ?_
  refine swp_reg ?_
  refine SRun.ck tbok 1 ⟨13, [(11, .ref 1000000 0)], [(1000000, .box [vl (eI .u8) x1.2.code, vi x1.2.at', vi x1.2.seed])]⟩ ?_
  obtain ⟨x4, hx4, h⟩ := bind_some h
  refine SRun.estep (x_estep_call (f := 94) (caps := []) (xs := [.ref 1000000 0]) (pre := []) (post := []) (qs := []) (z := .ref 1000000 0) (d := 1000000) (pl := 0) (y := .box [vl (eI .u8) x1.2.code, vi x1.2.at', vi x1.2.seed]) (y' := .box [vl (eI .u8) x4.2.code, vi x4.2.at', vi x4.2.seed]) (res := ⟨[.v (vs x4.1)], [(0, .box [vl (eI .u8) x4.2.code, vi x4.2.at', vi x4.2.seed])], false⟩) (x := vs x4.1) (yo := none) rfl rfl rfl rfl rfl ents94 (spec_l01Good_run x1.2 _ hx4) rfl rfl false (fun _ => rfl) (by intro hc; cases hc)) ?_
  refine SRun.ck tbok 1 ⟨13, [(2, vs x4.1)], [(1000000, .box [vl (eI .u8) x4.2.code, vi x4.2.at', vi x4.2.seed])]⟩ ?_
  refine SRun.nil ?_
  refine nx_n ?_
  refine swp_ret ?_
  replace h := Option.some.inj h
  subst h
  exact q_fr (fin_io (fin1 (by kernel_rfl) (finV rfl SV.flat_of (holds_t (by kernel_rfl)))) (y := .box [vl (eI .u8) x4.2.code, vi x4.2.at', vi x4.2.seed]) (by kernel_rfl) rfl (by kernel_rfl) (by kernel_rfl))
theorem ents74 : Ents Tryd.prog 74 := ents_of Tryd.func74 (by kernel_rfl) rfl
noncomputable def spec_l01Pick (aS : l01Source) (aList : (List Int)) : Option (Int × l01Source) :=
  ((spec_l01Next aS (aList.length : Int)).bind fun x1 => ((at' aList x1.1).bind fun x2 => some (x2, x1.2)))
set_option maxRecDepth 100000 in
set_option maxHeartbeats 4000000 in
theorem spec_l01Pick_run (aS : l01Source) (aList : (List Int)) (r : Int × l01Source) (h : spec_l01Pick aS aList = some r) : SCall Tryd.prog 73 [.o (.box [vl (eI .u8) aS.code, vi aS.at', vi aS.seed]), .v (vl (eI .i64) aList)] ⟨[.v (vi r.1)], [(0, .box [vl (eI .u8) r.2.code, vi r.2.at', vi r.2.seed])], false⟩ := by
  refine scall_in Tryd.func73 rfl [(.tmp 4)] rfl (fun r => ⟨[.v (vi r.1)], [(0, .box [vl (eI .u8) r.2.code, vi r.2.at', vi r.2.seed])], false⟩) (r := r) ?_
  unfold spec_l01Pick at h
  refine swp_seq ?_
  refine swp_reg ?_
  refine SRun.ck tbok 1 ⟨12, [(0, .ref 1000000 0), (1, vl (eI .i64) aList)], [(1000000, .box [vl (eI .u8) aS.code, vi aS.at', vi aS.seed])]⟩ ?_
  refine SRun.nil ?_
  refine nx_n ?_
  refine swp_seq ?_
  refine swp_reg ?_
  refine SRun.ck tbok 4 ⟨12, [(5, vl (eI .i64) aList), (6, .ref 1000000 0), (8, vi (aList.length : Int))], [(1000000, .box [vl (eI .u8) aS.code, vi aS.at', vi aS.seed])]⟩ ?_
  obtain ⟨x1, hx1, h⟩ := bind_some h
  refine SRun.estep (x_estep_call (f := 77) (caps := []) (xs := [.ref 1000000 0, vi (aList.length : Int)]) (pre := []) (post := [vi (aList.length : Int)]) (qs := [vi (aList.length : Int)]) (z := .ref 1000000 0) (d := 1000000) (pl := 0) (y := .box [vl (eI .u8) aS.code, vi aS.at', vi aS.seed]) (y' := .box [vl (eI .u8) x1.2.code, vi x1.2.at', vi x1.2.seed]) (res := ⟨[.v (vi x1.1)], [(0, .box [vl (eI .u8) x1.2.code, vi x1.2.at', vi x1.2.seed])], false⟩) (x := vi x1.1) (yo := none) rfl rfl rfl rfl rfl ents77 (spec_l01Next_run aS (aList.length : Int) _ hx1) rfl rfl false (fun _ => rfl) (by intro hc; cases hc)) ?_
  obtain ⟨x2, hx2, h⟩ := bind_some h
  refine SRun.ls (x_index (L := aList) (f := (eI .i64)) (ti := ti32) (tj := ti2) (e := 2) (k := .i64) tbok rfl hx2) ?_
  refine SRun.ck tbok 2 ⟨12, [(4, vi x2)], [(1000000, .box [vl (eI .u8) x1.2.code, vi x1.2.at', vi x1.2.seed])]⟩ ?_
  refine SRun.nil ?_
  refine nx_n ?_
  refine swp_ret ?_
  replace h := Option.some.inj h
  subst h
  exact q_fr (fin_io (fin1 (by kernel_rfl) (finV rfl SV.flat_of (holds_t (by kernel_rfl)))) (y := .box [vl (eI .u8) x1.2.code, vi x1.2.at', vi x1.2.seed]) (by kernel_rfl) rfl (by kernel_rfl) (by kernel_rfl))
theorem ents73 : Ents Tryd.prog 73 := ents_of Tryd.func73 (by kernel_rfl) rfl
noncomputable def spec_l32Draw (aS : l01Source) : Option ((List Op) × l01Source) :=
  ((spec_l32Two aS).bind fun x1 => ((spec_MergeLogs x1.1 x1.2.1).bind fun x2 => (((bif (x2.2 != 0) then some x1.1 else some x2.1)).bind fun (j3 : (List Op)) => ((spec_l01Next x1.2.2 3).bind fun x5 => ((spec_l32Grow x5.2 j3 x5.1).bind fun x6 => ((app' ([] : List Op) x6.1).bind fun x7 => (((bif (decide ((x7.length : Int) > 0)) then ((spec_l01Next x6.2 (x7.length : Int)).bind fun x10 => ((spec_l01Next x10.2 30).bind fun x11 => (bif (x11.1 == 0) then ((spec_l01Next x11.2 5).bind fun x12 => ((at' x7 x10.1).bind fun x13 => some ((List.set x7 (Int.toNat x10.1) (Op.mk x13.Office x12.1 x13.Key x13.Text x13.Seen)), x12.2))) else (bif (x11.1 == 1) then ((spec_l01DrawWord x11.2).bind fun x14 => ((at' x7 x10.1).bind fun x15 => some ((List.set x7 (Int.toNat x10.1) (Op.mk x15.Office x15.Number x14.1 x15.Text x15.Seen)), x14.2))) else (bif (x11.1 == 2) then ((at' x7 x10.1).bind fun x16 => some ((List.set x7 (Int.toNat x10.1) (Op.mk x16.Office x16.Number x16.Key x16.Text ([9, 0, 0, 0] : List Int))), x11.2)) else (bif (x11.1 == 3) then ((spec_l01Pick x11.2 ([0, 3, 4, (-1)] : List Int)).bind fun x17 => ((at' x7 x10.1).bind fun x18 => some ((List.set x7 (Int.toNat x10.1) (Op.mk x17.1 x18.Number x18.Key x18.Text x18.Seen)), x17.2))) else (bif (x11.1 == 4) then ((spec_l32Grow x11.2 x7 17).bind fun x19 => some (x19.1, x19.2)) else some (x7, x11.2)))))))) else some (x7, x6.2))).bind fun (j8 : (List Op) × l01Source) => some (j8.1, j8.2))))))))
set_option maxRecDepth 100000 in
set_option maxHeartbeats 4000000 in
theorem spec_l32Draw_run (aS : l01Source) (r : (List Op) × l01Source) (h : spec_l32Draw aS = some r) : SCall Tryd.prog 72 [.o (.box [vl (eI .u8) aS.code, vi aS.at', vi aS.seed])] ⟨[.v (vl eOp r.1)], [(0, .box [vl (eI .u8) r.2.code, vi r.2.at', vi r.2.seed])], true⟩ := by
  refine scall_in Tryd.func72 rfl [(.tmp 2)] rfl (fun r => ⟨[.v (vl eOp r.1)], [(0, .box [vl (eI .u8) r.2.code, vi r.2.at', vi r.2.seed])], true⟩) (r := r) ?_
  unfold spec_l32Draw at h
  refine swp_seq ?_
  refine swp_reg ?_
  refine SRun.ck tbok 1 ⟨76, [(0, .ref 1000000 0)], [(1000000, .box [vl (eI .u8) aS.code, vi aS.at', vi aS.seed])]⟩ ?_
  refine SRun.nil ?_
  refine nx_n ?_
  refine swp_seq ?_
  refine swp_reg ?_
  refine SRun.ck tbok 1 ⟨76, [(0, .ref 1000000 0), (9, .ref 1000000 0)], [(1000000, .box [vl (eI .u8) aS.code, vi aS.at', vi aS.seed])]⟩ ?_
  obtain ⟨x1, hx1, h⟩ := bind_some h
  refine SRun.estep (x_estep_call (f := 92) (caps := []) (xs := [.ref 1000000 0]) (pre := []) (post := []) (qs := []) (z := .ref 1000000 0) (d := 1000000) (pl := 0) (y := .box [vl (eI .u8) aS.code, vi aS.at', vi aS.seed]) (y' := .box [vl (eI .u8) x1.2.2.code, vi x1.2.2.at', vi x1.2.2.seed]) (res := ⟨[.v (vl eOp x1.1), .v (vl eOp x1.2.1)], [(0, .box [vl (eI .u8) x1.2.2.code, vi x1.2.2.at', vi x1.2.2.seed])], true⟩) (x := .tup [vl eOp x1.1, vl eOp x1.2.1]) (yo := none) rfl rfl rfl rfl rfl ents92 (spec_l32Two_run aS _ hx1) rfl rfl false (fun _ => rfl) (by intro hc; cases hc)) ?_
  refine SRun.ck tbok 5 ⟨76, [(0, .ref 1000000 0), (3, vl eOp x1.1), (4, vl eOp x1.2.1)], [(1000000, .box [vl (eI .u8) x1.2.2.code, vi x1.2.2.at', vi x1.2.2.seed])]⟩ ?_
  refine SRun.nil ?_
  refine nx_n ?_
  refine swp_seq ?_
  refine swp_reg ?_
  refine SRun.ck tbok 2 ⟨76, [(0, .ref 1000000 0), (3, vl eOp x1.1), (14, vl eOp x1.1), (15, vl eOp x1.2.1)], [(1000000, .box [vl (eI .u8) x1.2.2.code, vi x1.2.2.at', vi x1.2.2.seed])]⟩ ?_
  obtain ⟨x2, hx2, h⟩ := bind_some h
  refine SRun.ls (x_lstep_call (f := 35) (caps := []) (xs := [vl eOp x1.1, vl eOp x1.2.1]) (ys := [vl eOp x1.1, vl eOp x1.2.1]) (res := ⟨[.deep 61 5 x2.1.length [.flat, .flat, .flat, .flat, (.sl 2 1 [.flat])] (x2.1.map eOp), .v (vi x2.2)], [], false⟩) (x := .tup [.own 16, vi x2.2]) (y := some (.deep 61 5 x2.1.length [.flat, .flat, .flat, .flat, (.sl 2 1 [.flat])] (x2.1.map eOp))) rfl ents35 (spec_MergeLogs_run x1.1 x1.2.1 _ hx2) rfl (by intro hc; cases hc)) ?_
  refine SRun.ck tbok 5 ⟨76, [(0, .ref 1000000 0), (3, vl eOp x1.1), (5, .own 16), (6, vi x2.2)], [(16, .deep 61 5 x2.1.length [.flat, .flat, .flat, .flat, (.sl 2 1 [.flat])] (x2.1.map eOp)), (1000000, .box [vl (eI .u8) x1.2.2.code, vi x1.2.2.at', vi x1.2.2.seed])]⟩ ?_
  refine SRun.nil ?_
  refine nx_n ?_
  refine swp_seq ?_
  refine swp_seq ?_
  refine swp_reg ?_
  refine SRun.ck tbok 2 ⟨76, [(0, .ref 1000000 0), (3, vl eOp x1.1), (5, .own 16), (20, vb (x2.2 != 0))], [(16, .deep 61 5 x2.1.length [.flat, .flat, .flat, .flat, (.sl 2 1 [.flat])] (x2.1.map eOp)), (1000000, .box [vl (eI .u8) x1.2.2.code, vi x1.2.2.at', vi x1.2.2.seed])]⟩ ?_
  refine SRun.nil ?_
  refine nx_n ?_
  refine swp_seqJ h (fun j3 => ⟨76, [(0, .ref 1000000 0), (5, vl eOp j3)], [(1000000, .box [vl (eI .u8) x1.2.2.code, vi x1.2.2.at', vi x1.2.2.seed])]⟩) (fun v4 h => ?_) (fun j3 h => ?_)
  refine swp_cond (b := (x2.2 != 0)) (by kernel_rfl) (fun hb => ?_) (fun hb => ?_)
  replace h := cond_t hb h
  refine swp_reg ?_
  refine SRun.ck tbok 2 ⟨76, [(0, .ref 1000000 0), (5, vl eOp x1.1)], [(1000000, .box [vl (eI .u8) x1.2.2.code, vi x1.2.2.at', vi x1.2.2.seed])]⟩ ?_
  refine SRun.nil ?_
  replace h := Option.some.inj h
  subst h
  exact q_j (Le.sub0)
  replace h := cond_f hb h
  refine swp_skip ?_
  replace h := Option.some.inj h
  subst h
  exact q_j ((Le.frzD' (d := 16) (e := 61) (m := 5) (n := x2.1.length) (ss := [.flat, .flat, .flat, .flat, (.sl 2 1 [.flat])]) (es := x2.1.map eOp) (by kernel_rfl) (by kernel_rfl)).trans (Le.sub0))
  refine swp_seq ?_
  refine swp_reg ?_
  refine SRun.ck tbok 4 ⟨76, [(0, .ref 1000000 0), (22, .own 22), (23, .ref 1000000 0), (24, vl eOp j3), (25, .ref 1000000 0)], [(22, .arr 61 5 ([] : List Op).length (([] : List Op).map eOp)), (1000000, .box [vl (eI .u8) x1.2.2.code, vi x1.2.2.at', vi x1.2.2.seed])]⟩ ?_
  obtain ⟨x5, hx5, h⟩ := bind_some h
  refine SRun.estep (x_estep_call (f := 77) (caps := []) (xs := [.ref 1000000 0, vi 3]) (pre := []) (post := [vi 3]) (qs := [vi 3]) (z := .ref 1000000 0) (d := 1000000) (pl := 0) (y := .box [vl (eI .u8) x1.2.2.code, vi x1.2.2.at', vi x1.2.2.seed]) (y' := .box [vl (eI .u8) x5.2.code, vi x5.2.at', vi x5.2.seed]) (res := ⟨[.v (vi x5.1)], [(0, .box [vl (eI .u8) x5.2.code, vi x5.2.at', vi x5.2.seed])], false⟩) (x := vi x5.1) (yo := none) rfl rfl rfl rfl rfl ents77 (spec_l01Next_run x1.2.2 3 _ hx5) rfl rfl false (fun _ => rfl) (by intro hc; cases hc)) ?_
  obtain ⟨x6, hx6, h⟩ := bind_some h
  refine SRun.estep (x_estep_call (f := 93) (caps := []) (xs := [.ref 1000000 0, vl eOp j3, vi x5.1]) (pre := []) (post := [vl eOp j3, vi x5.1]) (qs := [vl eOp j3, vi x5.1]) (z := .ref 1000000 0) (d := 1000000) (pl := 0) (y := .box [vl (eI .u8) x5.2.code, vi x5.2.at', vi x5.2.seed]) (y' := .box [vl (eI .u8) x6.2.code, vi x6.2.at', vi x6.2.seed]) (res := ⟨[.v (vl eOp x6.1)], [(0, .box [vl (eI .u8) x6.2.code, vi x6.2.at', vi x6.2.seed])], true⟩) (x := vl eOp x6.1) (yo := none) rfl rfl rfl rfl rfl ents93 (spec_l32Grow_run x5.2 j3 x5.1 _ hx6) rfl rfl false (fun _ => rfl) (by intro hc; cases hc)) ?_
  obtain ⟨x7, hx7, h⟩ := bind_some h
  refine SRun.estep (x_append (f := eOp) (t := 25) (ti := ti25) (tj := ti61) (zs := [.int .i64 0, .int .i64 0, .string (ByteArray.mk #[]), .string (ByteArray.mk #[]), .slice none 0 0]) (e := 61) (m := 5) (d := 22) (xv := vl eOp x6.1) hx7 tbok rfl rfl rfl rfl (src_e (fun _ => rfl))) ?_
  refine SRun.ck tbok 1 ⟨76, [(0, .ref 1000000 0), (5, .own 28)], [(28, .arr 61 5 x7.length (x7.map eOp)), (1000000, .box [vl (eI .u8) x6.2.code, vi x6.2.at', vi x6.2.seed])]⟩ ?_
  refine SRun.nil ?_
  refine nx_n ?_
  refine swp_seq ?_
  refine swp_seq ?_
  refine swp_reg ?_
  refine SRun.ck tbok 3 ⟨76, [(0, .ref 1000000 0), (5, .own 28), (31, vb (decide ((x7.length : Int) > 0)))], [(28, .arr 61 5 x7.length (x7.map eOp)), (1000000, .box [vl (eI .u8) x6.2.code, vi x6.2.at', vi x6.2.seed])]⟩ ?_
  refine SRun.nil ?_
  refine nx_n ?_
  refine swp_seqJ h (fun j8 => ⟨76, [(5, vl eOp j8.1)], [(1000000, .box [vl (eI .u8) j8.2.code, vi j8.2.at', vi j8.2.seed])]⟩) (fun v9 h => ?_) (fun j8 h => ?_)
  refine swp_cond (b := (decide ((x7.length : Int) > 0))) (by kernel_rfl) (fun hb => ?_) (fun hb => ?_)
  replace h := cond_t hb h
  refine swp_seq ?_
  refine swp_reg ?_
  refine SRun.ck tbok 3 ⟨76, [(0, .ref 1000000 0), (5, .own 28), (32, .ref 1000000 0), (34, vi (x7.length : Int))], [(28, .arr 61 5 x7.length (x7.map eOp)), (1000000, .box [vl (eI .u8) x6.2.code, vi x6.2.at', vi x6.2.seed])]⟩ ?_
  obtain ⟨x10, hx10, h⟩ := bind_some h
  refine SRun.estep (x_estep_call (f := 77) (caps := []) (xs := [.ref 1000000 0, vi (x7.length : Int)]) (pre := []) (post := [vi (x7.length : Int)]) (qs := [vi (x7.length : Int)]) (z := .ref 1000000 0) (d := 1000000) (pl := 0) (y := .box [vl (eI .u8) x6.2.code, vi x6.2.at', vi x6.2.seed]) (y' := .box [vl (eI .u8) x10.2.code, vi x10.2.at', vi x10.2.seed]) (res := ⟨[.v (vi x10.1)], [(0, .box [vl (eI .u8) x10.2.code, vi x10.2.at', vi x10.2.seed])], false⟩) (x := vi x10.1) (yo := none) rfl rfl rfl rfl rfl ents77 (spec_l01Next_run x6.2 (x7.length : Int) _ hx10) rfl rfl false (fun _ => rfl) (by intro hc; cases hc)) ?_
  refine SRun.ck tbok 1 ⟨76, [(0, .ref 1000000 0), (5, .own 28), (7, vi x10.1)], [(28, .arr 61 5 x7.length (x7.map eOp)), (1000000, .box [vl (eI .u8) x10.2.code, vi x10.2.at', vi x10.2.seed])]⟩ ?_
  refine SRun.nil ?_
  refine nx_n ?_
  refine swp_seq ?_
  refine swp_reg ?_
  refine SRun.ck tbok 1 ⟨76, [(0, .ref 1000000 0), (5, .own 28), (7, vi x10.1), (36, .ref 1000000 0)], [(28, .arr 61 5 x7.length (x7.map eOp)), (1000000, .box [vl (eI .u8) x10.2.code, vi x10.2.at', vi x10.2.seed])]⟩ ?_
  obtain ⟨x11, hx11, h⟩ := bind_some h
  refine SRun.estep (x_estep_call (f := 77) (caps := []) (xs := [.ref 1000000 0, vi 30]) (pre := []) (post := [vi 30]) (qs := [vi 30]) (z := .ref 1000000 0) (d := 1000000) (pl := 0) (y := .box [vl (eI .u8) x10.2.code, vi x10.2.at', vi x10.2.seed]) (y' := .box [vl (eI .u8) x11.2.code, vi x11.2.at', vi x11.2.seed]) (res := ⟨[.v (vi x11.1)], [(0, .box [vl (eI .u8) x11.2.code, vi x11.2.at', vi x11.2.seed])], false⟩) (x := vi x11.1) (yo := none) rfl rfl rfl rfl rfl ents77 (spec_l01Next_run x10.2 30 _ hx11) rfl rfl false (fun _ => rfl) (by intro hc; cases hc)) ?_
  refine SRun.nil ?_
  refine nx_n ?_
  refine swp_blk (a := v9) ?_
  refine swp_seq ?_
  refine swp_reg ?_
  refine SRun.ck tbok 2 ⟨76, [(0, .ref 1000000 0), (5, .own 28), (7, vi x10.1), (37, vi x11.1), (38, vb (x11.1 == 0))], [(28, .arr 61 5 x7.length (x7.map eOp)), (1000000, .box [vl (eI .u8) x11.2.code, vi x11.2.at', vi x11.2.seed])]⟩ ?_
  refine SRun.nil ?_
  refine nx_n ?_
  refine swp_cond (b := (x11.1 == 0)) (by kernel_rfl) (fun hb => ?_) (fun hb => ?_)
  replace h := cond_t hb h
  refine swp_reg ?_
  refine SRun.ck tbok 3 ⟨76, [(5, .own 28), (40, .own 28), (41, vi x10.1), (42, .ref 1000000 0)], [(28, .arr 61 5 x7.length (x7.map eOp)), (1000000, .box [vl (eI .u8) x11.2.code, vi x11.2.at', vi x11.2.seed])]⟩ ?_
  obtain ⟨x12, hx12, h⟩ := bind_some h
  refine SRun.estep (x_estep_call (f := 77) (caps := []) (xs := [.ref 1000000 0, vi 5]) (pre := []) (post := [vi 5]) (qs := [vi 5]) (z := .ref 1000000 0) (d := 1000000) (pl := 0) (y := .box [vl (eI .u8) x11.2.code, vi x11.2.at', vi x11.2.seed]) (y' := .box [vl (eI .u8) x12.2.code, vi x12.2.at', vi x12.2.seed]) (res := ⟨[.v (vi x12.1)], [(0, .box [vl (eI .u8) x12.2.code, vi x12.2.at', vi x12.2.seed])], false⟩) (x := vi x12.1) (yo := none) rfl rfl rfl rfl rfl ents77 (spec_l01Next_run x11.2 5 _ hx12) rfl rfl false (fun _ => rfl) (by intro hc; cases hc)) ?_
  obtain ⟨x13, hx13, h⟩ := bind_some h
  refine SRun.ls (x_index_own (d := 28) (L := x7) (f := eOp) (ti := ti25) (tj := ti61) (e := 61) (e' := 61) (m := 5) (k := .i64) tbok rfl hx13) ?_
  refine SRun.ck tbok 1 ⟨76, [(5, .own 28), (43, vi x12.1), (45, .eref 28 5 (Int.toNat x10.1) 1)], [(28, .arr 61 5 x7.length (x7.map eOp)), (1000000, .box [vl (eI .u8) x12.2.code, vi x12.2.at', vi x12.2.seed])]⟩ ?_
  refine SRun.estep (x_store_own (d := 28) (m := 5) (j := 1) (L := x7) (f := eOp) (x := (Op.mk x13.Office x12.1 x13.Key x13.Text x13.Seen)) (z := x13) (ti := ti2) (e := 61) (ts := [.int .i64 x12.1]) (vs := [vi x12.1]) (v := vi x12.1) tbok rfl rfl hx13) ?_
  refine SRun.nil ?_
  replace h := Option.some.inj h
  subst h
  exact q_bn (q_j ((Le.frz' (d := 28) (e := 61) (m := 5) (n := (List.set x7 (Int.toNat x10.1) (Op.mk x13.Office x12.1 x13.Key x13.Text x13.Seen)).length) (es := (List.set x7 (Int.toNat x10.1) (Op.mk x13.Office x12.1 x13.Key x13.Text x13.Seen)).map eOp) (by kernel_rfl) (by kernel_rfl)).trans (Le.sub0)))
  replace h := cond_f hb h
  refine swp_seq ?_
  refine swp_reg ?_
  refine SRun.ck tbok 2 ⟨76, [(0, .ref 1000000 0), (5, .own 28), (7, vi x10.1), (37, vi x11.1), (46, vb (x11.1 == 1))], [(28, .arr 61 5 x7.length (x7.map eOp)), (1000000, .box [vl (eI .u8) x11.2.code, vi x11.2.at', vi x11.2.seed])]⟩ ?_
  refine SRun.nil ?_
  refine nx_n ?_
  refine swp_cond (b := (x11.1 == 1)) (by kernel_rfl) (fun hb => ?_) (fun hb => ?_)
  replace h := cond_t hb h
  refine swp_reg ?_
  refine SRun.ck tbok 3 ⟨76, [(5, .own 28), (48, .own 28), (49, vi x10.1), (50, .ref 1000000 0)], [(28, .arr 61 5 x7.length (x7.map eOp)), (1000000, .box [vl (eI .u8) x11.2.code, vi x11.2.at', vi x11.2.seed])]⟩ ?_
  obtain ⟨x14, hx14, h⟩ := bind_some h
  refine SRun.estep (x_estep_call (f := 74) (caps := []) (xs := [.ref 1000000 0]) (pre := []) (post := []) (qs := []) (z := .ref 1000000 0) (d := 1000000) (pl := 0) (y := .box [vl (eI .u8) x11.2.code, vi x11.2.at', vi x11.2.seed]) (y' := .box [vl (eI .u8) x14.2.code, vi x14.2.at', vi x14.2.seed]) (res := ⟨[.v (vs x14.1)], [(0, .box [vl (eI .u8) x14.2.code, vi x14.2.at', vi x14.2.seed])], false⟩) (x := vs x14.1) (yo := none) rfl rfl rfl rfl rfl ents74 (spec_l01DrawWord_run x11.2 _ hx14) rfl rfl false (fun _ => rfl) (by intro hc; cases hc)) ?_
  obtain ⟨x15, hx15, h⟩ := bind_some h
  refine SRun.ls (x_index_own (d := 28) (L := x7) (f := eOp) (ti := ti25) (tj := ti61) (e := 61) (e' := 61) (m := 5) (k := .i64) tbok rfl hx15) ?_
  refine SRun.ck tbok 1 ⟨76, [(5, .own 28), (51, vs x14.1), (53, .eref 28 5 (Int.toNat x10.1) 2)], [(28, .arr 61 5 x7.length (x7.map eOp)), (1000000, .box [vl (eI .u8) x14.2.code, vi x14.2.at', vi x14.2.seed])]⟩ ?_
  refine SRun.estep (x_store_own (d := 28) (m := 5) (j := 2) (L := x7) (f := eOp) (x := (Op.mk x15.Office x15.Number x14.1 x15.Text x15.Seen)) (z := x15) (ti := ti9) (e := 61) (ts := [.str x14.1]) (vs := [vs x14.1]) (v := vs x14.1) tbok rfl rfl hx15) ?_
  refine SRun.nil ?_
  replace h := Option.some.inj h
  subst h
  exact q_bn (q_j ((Le.frz' (d := 28) (e := 61) (m := 5) (n := (List.set x7 (Int.toNat x10.1) (Op.mk x15.Office x15.Number x14.1 x15.Text x15.Seen)).length) (es := (List.set x7 (Int.toNat x10.1) (Op.mk x15.Office x15.Number x14.1 x15.Text x15.Seen)).map eOp) (by kernel_rfl) (by kernel_rfl)).trans (Le.sub0)))
  replace h := cond_f hb h
  refine swp_seq ?_
  refine swp_reg ?_
  refine SRun.ck tbok 2 ⟨76, [(0, .ref 1000000 0), (5, .own 28), (7, vi x10.1), (37, vi x11.1), (54, vb (x11.1 == 2))], [(28, .arr 61 5 x7.length (x7.map eOp)), (1000000, .box [vl (eI .u8) x11.2.code, vi x11.2.at', vi x11.2.seed])]⟩ ?_
  refine SRun.nil ?_
  refine nx_n ?_
  refine swp_cond (b := (x11.1 == 2)) (by kernel_rfl) (fun hb => ?_) (fun hb => ?_)
  replace h := cond_t hb h
  refine swp_reg ?_
  refine SRun.ck tbok 3 ⟨76, [(5, .own 28), (56, .own 28), (57, vi x10.1), (58, .own 58)], [(28, .arr 61 5 x7.length (x7.map eOp)), (58, .arr 2 1 ([9, 0, 0, 0] : List Int).length (([9, 0, 0, 0] : List Int).map (eI .i64))), (1000000, .box [vl (eI .u8) x11.2.code, vi x11.2.at', vi x11.2.seed])]⟩ ?_
  obtain ⟨x16, hx16, h⟩ := bind_some h
  refine SRun.ls (x_index_own (d := 28) (L := x7) (f := eOp) (ti := ti25) (tj := ti61) (e := 61) (e' := 61) (m := 5) (k := .i64) tbok rfl hx16) ?_
  refine SRun.ck tbok 1 ⟨76, [(5, .own 28), (58, .own 58), (60, .eref 28 5 (Int.toNat x10.1) 4)], [(28, .arr 61 5 x7.length (x7.map eOp)), (58, .arr 2 1 ([9, 0, 0, 0] : List Int).length (([9, 0, 0, 0] : List Int).map (eI .i64))), (1000000, .box [vl (eI .u8) x11.2.code, vi x11.2.at', vi x11.2.seed])]⟩ ?_
  refine SRun.le (Le.frz' (d := 58) (e := 2) (m := 1) (n := ([9, 0, 0, 0] : List Int).length) (es := ([9, 0, 0, 0] : List Int).map (eI .i64)) (by kernel_rfl) (by kernel_rfl)) ?_
  refine SRun.estep (x_store_own (d := 28) (m := 5) (j := 4) (L := x7) (f := eOp) (x := (Op.mk x16.Office x16.Number x16.Key x16.Text ([9, 0, 0, 0] : List Int))) (z := x16) (ti := ti32) (e := 61) (ts := [.sl ([9, 0, 0, 0] : List Int).length (([9, 0, 0, 0] : List Int).map (eI .i64))]) (vs := [vl (eI .i64) ([9, 0, 0, 0] : List Int)]) (v := vl (eI .i64) ([9, 0, 0, 0] : List Int)) tbok rfl rfl hx16) ?_
  refine SRun.nil ?_
  replace h := Option.some.inj h
  subst h
  exact q_bn (q_j ((Le.frz' (d := 28) (e := 61) (m := 5) (n := (List.set x7 (Int.toNat x10.1) (Op.mk x16.Office x16.Number x16.Key x16.Text ([9, 0, 0, 0] : List Int))).length) (es := (List.set x7 (Int.toNat x10.1) (Op.mk x16.Office x16.Number x16.Key x16.Text ([9, 0, 0, 0] : List Int))).map eOp) (by kernel_rfl) (by kernel_rfl)).trans (Le.sub0)))
  replace h := cond_f hb h
  refine swp_seq ?_
  refine swp_reg ?_
  refine SRun.ck tbok 2 ⟨76, [(0, .ref 1000000 0), (5, .own 28), (7, vi x10.1), (37, vi x11.1), (61, vb (x11.1 == 3))], [(28, .arr 61 5 x7.length (x7.map eOp)), (1000000, .box [vl (eI .u8) x11.2.code, vi x11.2.at', vi x11.2.seed])]⟩ ?_
  refine SRun.nil ?_
  refine nx_n ?_
  refine swp_cond (b := (x11.1 == 3)) (by kernel_rfl) (fun hb => ?_) (fun hb => ?_)
  replace h := cond_t hb h
  refine swp_reg ?_
  refine SRun.ck tbok 4 ⟨76, [(5, .own 28), (63, .own 28), (64, vi x10.1), (65, .ref 1000000 0), (66, .own 66)], [(28, .arr 61 5 x7.length (x7.map eOp)), (66, .arr 2 1 ([0, 3, 4, (-1)] : List Int).length (([0, 3, 4, (-1)] : List Int).map (eI .i64))), (1000000, .box [vl (eI .u8) x11.2.code, vi x11.2.at', vi x11.2.seed])]⟩ ?_
  refine SRun.le (Le.frz' (d := 66) (e := 2) (m := 1) (n := ([0, 3, 4, (-1)] : List Int).length) (es := ([0, 3, 4, (-1)] : List Int).map (eI .i64)) (by kernel_rfl) (by kernel_rfl)) ?_
  obtain ⟨x17, hx17, h⟩ := bind_some h
  refine SRun.estep (x_estep_call (f := 73) (caps := []) (xs := [.ref 1000000 0, vl (eI .i64) ([0, 3, 4, (-1)] : List Int)]) (pre := []) (post := [vl (eI .i64) ([0, 3, 4, (-1)] : List Int)]) (qs := [vl (eI .i64) ([0, 3, 4, (-1)] : List Int)]) (z := .ref 1000000 0) (d := 1000000) (pl := 0) (y := .box [vl (eI .u8) x11.2.code, vi x11.2.at', vi x11.2.seed]) (y' := .box [vl (eI .u8) x17.2.code, vi x17.2.at', vi x17.2.seed]) (res := ⟨[.v (vi x17.1)], [(0, .box [vl (eI .u8) x17.2.code, vi x17.2.at', vi x17.2.seed])], false⟩) (x := vi x17.1) (yo := none) rfl rfl rfl rfl rfl ents73 (spec_l01Pick_run x11.2 ([0, 3, 4, (-1)] : List Int) _ hx17) rfl rfl false (fun _ => rfl) (by intro hc; cases hc)) ?_
  obtain ⟨x18, hx18, h⟩ := bind_some h
  refine SRun.ls (x_index_own (d := 28) (L := x7) (f := eOp) (ti := ti25) (tj := ti61) (e := 61) (e' := 61) (m := 5) (k := .i64) tbok rfl hx18) ?_
  refine SRun.ck tbok 1 ⟨76, [(5, .own 28), (67, vi x17.1), (69, .eref 28 5 (Int.toNat x10.1) 0)], [(28, .arr 61 5 x7.length (x7.map eOp)), (1000000, .box [vl (eI .u8) x17.2.code, vi x17.2.at', vi x17.2.seed])]⟩ ?_
  refine SRun.estep (x_store_own (d := 28) (m := 5) (j := 0) (L := x7) (f := eOp) (x := (Op.mk x17.1 x18.Number x18.Key x18.Text x18.Seen)) (z := x18) (ti := ti2) (e := 61) (ts := [.int .i64 x17.1]) (vs := [vi x17.1]) (v := vi x17.1) tbok rfl rfl hx18) ?_
  refine SRun.nil ?_
  replace h := Option.some.inj h
  subst h
  exact q_bn (q_j ((Le.frz' (d := 28) (e := 61) (m := 5) (n := (List.set x7 (Int.toNat x10.1) (Op.mk x17.1 x18.Number x18.Key x18.Text x18.Seen)).length) (es := (List.set x7 (Int.toNat x10.1) (Op.mk x17.1 x18.Number x18.Key x18.Text x18.Seen)).map eOp) (by kernel_rfl) (by kernel_rfl)).trans (Le.sub0)))
  replace h := cond_f hb h
  refine swp_seq ?_
  refine swp_reg ?_
  refine SRun.ck tbok 2 ⟨76, [(0, .ref 1000000 0), (5, .own 28), (70, vb (x11.1 == 4))], [(28, .arr 61 5 x7.length (x7.map eOp)), (1000000, .box [vl (eI .u8) x11.2.code, vi x11.2.at', vi x11.2.seed])]⟩ ?_
  refine SRun.nil ?_
  refine nx_n ?_
  refine swp_cond (b := (x11.1 == 4)) (by kernel_rfl) (fun hb => ?_) (fun hb => ?_)
  replace h := cond_t hb h
  refine swp_reg ?_
  refine SRun.ck tbok 2 ⟨76, [(72, .ref 1000000 0), (73, .own 28)], [(28, .arr 61 5 x7.length (x7.map eOp)), (1000000, .box [vl (eI .u8) x11.2.code, vi x11.2.at', vi x11.2.seed])]⟩ ?_
  refine SRun.le (Le.frz' (d := 28) (e := 61) (m := 5) (n := x7.length) (es := x7.map eOp) (by kernel_rfl) (by kernel_rfl)) ?_
  obtain ⟨x19, hx19, h⟩ := bind_some h
  refine SRun.estep (x_estep_call (f := 93) (caps := []) (xs := [.ref 1000000 0, vl eOp x7, vi 17]) (pre := []) (post := [vl eOp x7, vi 17]) (qs := [vl eOp x7, vi 17]) (z := .ref 1000000 0) (d := 1000000) (pl := 0) (y := .box [vl (eI .u8) x11.2.code, vi x11.2.at', vi x11.2.seed]) (y' := .box [vl (eI .u8) x19.2.code, vi x19.2.at', vi x19.2.seed]) (res := ⟨[.v (vl eOp x19.1)], [(0, .box [vl (eI .u8) x19.2.code, vi x19.2.at', vi x19.2.seed])], true⟩) (x := vl eOp x19.1) (yo := none) rfl rfl rfl rfl rfl ents93 (spec_l32Grow_run x11.2 x7 17 _ hx19) rfl rfl false (fun _ => rfl) (by intro hc; cases hc)) ?_
  refine SRun.ck tbok 1 ⟨76, [(5, vl eOp x19.1)], [(1000000, .box [vl (eI .u8) x19.2.code, vi x19.2.at', vi x19.2.seed])]⟩ ?_
  refine SRun.nil ?_
  replace h := Option.some.inj h
  subst h
  exact q_bn (q_j (Le.sub0))
  replace h := cond_f hb h
  refine swp_skip ?_
  replace h := Option.some.inj h
  subst h
  exact q_bn (q_j ((Le.frz' (d := 28) (e := 61) (m := 5) (n := x7.length) (es := x7.map eOp) (by kernel_rfl) (by kernel_rfl)).trans (Le.sub0)))
  replace h := cond_f hb h
  refine swp_skip ?_
  replace h := Option.some.inj h
  subst h
  exact q_j ((Le.frz' (d := 28) (e := 61) (m := 5) (n := x7.length) (es := x7.map eOp) (by kernel_rfl) (by kernel_rfl)).trans (Le.sub0))
  refine swp_seq ?_
  refine swp_reg ?_
  refine SRun.ck tbok 2 ⟨76, [(2, vl eOp j8.1)], [(1000000, .box [vl (eI .u8) j8.2.code, vi j8.2.at', vi j8.2.seed])]⟩ ?_
  refine SRun.nil ?_
  refine nx_n ?_
  refine swp_ret ?_
  replace h := Option.some.inj h
  subst h
  exact q_fr (fin_io (fin1 (by kernel_rfl) (finT rfl (holds_t (by kernel_rfl)))) (y := .box [vl (eI .u8) j8.2.code, vi j8.2.at', vi j8.2.seed]) (by kernel_rfl) rfl (by kernel_rfl) (by kernel_rfl))
theorem ents72 : Ents Tryd.prog 72 := ents_of Tryd.func72 (by kernel_rfl) rfl
noncomputable def spec_l01Damage (aS : l01Source) (aT : ByteArray) : Option (ByteArray × l01Source) :=
  ((spec_l01Next aS (w64 ((aT.size : Int) + 1))).bind fun x1 => ((spec_l01Next x1.2 8).bind fun x2 => (((bif (x2.1 == 0) then ((sub' aT 0 x1.1).bind fun x5 => some (.inr (x5, x2.2))) else (bif (x2.1 == 1) then ((sub' aT 0 x1.1).bind fun x6 => ((spec_l01Next x2.2 8).bind fun x7 => ((at' ([(ByteArray.mk #[48]), (ByteArray.mk #[35]), (ByteArray.mk #[46]), (ByteArray.mk #[47]), (ByteArray.mk #[32]), (ByteArray.mk #[97]), (ByteArray.mk #[45]), (ByteArray.mk #[10])] : List ByteArray) x7.1).bind fun x8 => ((cat' x6 x8).bind fun x9 => ((sub' aT x1.1 (aT.size : Int)).bind fun x10 => ((cat' x9 x10).bind fun x11 => some (.inr (x11, x7.2)))))))) else (bif (x2.1 == 2) then (bif (decide (x1.1 < (aT.size : Int))) then ((sub' aT 0 x1.1).bind fun x12 => ((sub' aT (w64 (x1.1 + 1)) (aT.size : Int)).bind fun x13 => ((cat' x12 x13).bind fun x14 => some (.inr (x14, x2.2))))) else some (.inl x2.2)) else some (.inl x2.2))))).bind (Sum.elim (fun (j3 : l01Source) => some (aT, j3)) some))))
set_option maxRecDepth 100000 in
set_option maxHeartbeats 4000000 in
theorem spec_l01Damage_run (aS : l01Source) (aT : ByteArray) (r : ByteArray × l01Source) (h : spec_l01Damage aS aT = some r) : SCall Tryd.prog 96 [.o (.box [vl (eI .u8) aS.code, vi aS.at', vi aS.seed]), .v (vs aT)] ⟨[.v (vs r.1)], [(0, .box [vl (eI .u8) r.2.code, vi r.2.at', vi r.2.seed])], false⟩ := by
  refine scall_in Tryd.func96 rfl [(.tmp 4)] rfl (fun r => ⟨[.v (vs r.1)], [(0, .box [vl (eI .u8) r.2.code, vi r.2.at', vi r.2.seed])], false⟩) (r := r) ?_
  unfold spec_l01Damage at h
  refine swp_seq ?_
  refine swp_reg ?_
  refine SRun.ck tbok 1 ⟨48, [(0, .ref 1000000 0), (1, vs aT)], [(1000000, .box [vl (eI .u8) aS.code, vi aS.at', vi aS.seed])]⟩ ?_
  refine SRun.nil ?_
  refine nx_n ?_
  refine swp_seq ?_
  refine swp_reg ?_
  refine SRun.ck tbok 4 ⟨48, [(0, .ref 1000000 0), (1, vs aT), (6, .ref 1000000 0), (9, vi (w64 ((aT.size : Int) + 1)))], [(1000000, .box [vl (eI .u8) aS.code, vi aS.at', vi aS.seed])]⟩ ?_
  obtain ⟨x1, hx1, h⟩ := bind_some h
  refine SRun.estep (x_estep_call (f := 77) (caps := []) (xs := [.ref 1000000 0, vi (w64 ((aT.size : Int) + 1))]) (pre := []) (post := [vi (w64 ((aT.size : Int) + 1))]) (qs := [vi (w64 ((aT.size : Int) + 1))]) (z := .ref 1000000 0) (d := 1000000) (pl := 0) (y := .box [vl (eI .u8) aS.code, vi aS.at', vi aS.seed]) (y' := .box [vl (eI .u8) x1.2.code, vi x1.2.at', vi x1.2.seed]) (res := ⟨[.v (vi x1.1)], [(0, .box [vl (eI .u8) x1.2.code, vi x1.2.at', vi x1.2.seed])], false⟩) (x := vi x1.1) (yo := none) rfl rfl rfl rfl rfl ents77 (spec_l01Next_run aS (w64 ((aT.size : Int) + 1)) _ hx1) rfl rfl false (fun _ => rfl) (by intro hc; cases hc)) ?_
  refine SRun.ck tbok 1 ⟨48, [(0, .ref 1000000 0), (1, vs aT), (5, vi x1.1)], [(1000000, .box [vl (eI .u8) x1.2.code, vi x1.2.at', vi x1.2.seed])]⟩ ?_
  refine SRun.nil ?_
  refine nx_n ?_
  refine swp_seq ?_
  refine swp_seq ?_
  refine swp_reg ?_
  refine SRun.ck tbok 1 ⟨48, [(0, .ref 1000000 0), (1, vs aT), (5, vi x1.1), (11, .ref 1000000 0)], [(1000000, .box [vl (eI .u8) x1.2.code, vi x1.2.at', vi x1.2.seed])]⟩ ?_
  obtain ⟨x2, hx2, h⟩ := bind_some h
  refine SRun.estep (x_estep_call (f := 77) (caps := []) (xs := [.ref 1000000 0, vi 8]) (pre := []) (post := [vi 8]) (qs := [vi 8]) (z := .ref 1000000 0) (d := 1000000) (pl := 0) (y := .box [vl (eI .u8) x1.2.code, vi x1.2.at', vi x1.2.seed]) (y' := .box [vl (eI .u8) x2.2.code, vi x2.2.at', vi x2.2.seed]) (res := ⟨[.v (vi x2.1)], [(0, .box [vl (eI .u8) x2.2.code, vi x2.2.at', vi x2.2.seed])], false⟩) (x := vi x2.1) (yo := none) rfl rfl rfl rfl rfl ents77 (spec_l01Next_run x1.2 8 _ hx2) rfl rfl false (fun _ => rfl) (by intro hc; cases hc)) ?_
  refine SRun.nil ?_
  refine nx_n ?_
  refine swp_seqE (r := r) h (fun j3 => ⟨48, [(1, vs aT)], [(1000000, .box [vl (eI .u8) j3.code, vi j3.at', vi j3.seed])]⟩) (fun v4 h => ?_) (fun j3 h => ?_)
  refine swp_blk (a := v4) ?_
  refine swp_seq ?_
  refine swp_reg ?_
  refine SRun.ck tbok 2 ⟨48, [(0, .ref 1000000 0), (1, vs aT), (5, vi x1.1), (12, vi x2.1), (13, vb (x2.1 == 0))], [(1000000, .box [vl (eI .u8) x2.2.code, vi x2.2.at', vi x2.2.seed])]⟩ ?_
  refine SRun.nil ?_
  refine nx_n ?_
  refine swp_cond (b := (x2.1 == 0)) (by kernel_rfl) (fun hb => ?_) (fun hb => ?_)
  replace h := cond_t hb h
  refine swp_seq ?_
  refine swp_reg ?_
  refine SRun.ck tbok 2 ⟨48, [(15, vs aT), (16, vi x1.1)], [(1000000, .box [vl (eI .u8) x2.2.code, vi x2.2.at', vi x2.2.seed])]⟩ ?_
  obtain ⟨x5, hx5, h⟩ := bind_some h
  refine SRun.ls (x_sub (ti := ti9) hx5 tbok rfl) ?_
  refine SRun.ck tbok 1 ⟨48, [(4, vs x5)], [(1000000, .box [vl (eI .u8) x2.2.code, vi x2.2.at', vi x2.2.seed])]⟩ ?_
  refine SRun.nil ?_
  refine nx_n ?_
  refine swp_ret ?_
  replace h := Option.some.inj h
  subst h
  exact q_br (q_rr (q_fr (fin_io (fin1 (by kernel_rfl) (finV rfl SV.flat_of (holds_t (by kernel_rfl)))) (y := .box [vl (eI .u8) x2.2.code, vi x2.2.at', vi x2.2.seed]) (by kernel_rfl) rfl (by kernel_rfl) (by kernel_rfl))))
  replace h := cond_f hb h
  refine swp_seq ?_
  refine swp_reg ?_
  refine SRun.ck tbok 2 ⟨48, [(0, .ref 1000000 0), (1, vs aT), (5, vi x1.1), (12, vi x2.1), (18, vb (x2.1 == 1))], [(1000000, .box [vl (eI .u8) x2.2.code, vi x2.2.at', vi x2.2.seed])]⟩ ?_
  refine SRun.nil ?_
  refine nx_n ?_
  refine swp_cond (b := (x2.1 == 1)) (by kernel_rfl) (fun hb => ?_) (fun hb => ?_)
  replace h := cond_t hb h
  refine swp_seq ?_
  obtain ⟨x6, hx6, h⟩ := bind_some h
  obtain ⟨x7, hx7, h⟩ := bind_some h
  obtain ⟨x8, hx8, h⟩ := bind_some h
  obtain ⟨x9, hx9, h⟩ := bind_some h
  obtain ⟨x10, hx10, h⟩ := bind_some h
  obtain ⟨x11, hx11, h⟩ := bind_some h
  refine swp_dr mixed ?_
  refine DGo.enum (σE := ⟨48, [(4, vs x11)], [(1000000, .box [vl (eI .u8) x7.2.code, vi x7.2.at', vi x7.2.seed])]⟩) (n := 14) (L0 := #[false, false, false, false, false, false, false, false, false, false, false, false, false, false]) (by kernel_rfl) (by kernel_rfl) (fun K hk => ?_) ?_
  refine DE.share (fuel := 0) (L := #[true, true, true, true, true, true, true, true, true, true, true, true, true, true]) (σ := ⟨48, [(4, vs x11)], [(1000000, .box [vl (eI .u8) x7.2.code, vi x7.2.at', vi x7.2.seed])]⟩) ?_ (fun d32 => ?_)
  exact DE.done (by kernel_rfl) hk
  refine DE.share (fuel := 1) (L := #[true, true, true, true, true, true, true, true, true, true, true, true, true, false]) (σ := ⟨48, [(32, vs x11)], [(1000000, .box [vl (eI .u8) x7.2.code, vi x7.2.at', vi x7.2.seed])]⟩) ?_ (fun d31 => ?_)
  exact DE.take (i := 13) (L' := #[true, true, true, true, true, true, true, true, true, true, true, true, true, true]) rfl (.inr rfl) rfl (by kernel_rfl) (by kernel_rfl) (by kernel_rfl) (EStep.le (EStep.ofN2 tbok (σ' := ⟨48, [(4, vs x11), (32, vs x11)], [(1000000, .box [vl (eI .u8) x7.2.code, vi x7.2.at', vi x7.2.seed])]⟩) (by kernel_rfl)) Le.sub0) (by kernel_rfl) d32
  refine DE.share (fuel := 2) (L := #[true, true, true, true, true, true, true, true, true, true, true, true, false, false]) (σ := ⟨48, [(28, vs x9), (31, vs x10)], [(1000000, .box [vl (eI .u8) x7.2.code, vi x7.2.at', vi x7.2.seed])]⟩) ?_ (fun d30 => ?_)
  exact DE.all [12] (by kernel_rfl) (by simp) (List.forall_mem_cons.2 ⟨DEs.mk (i := 12) (L' := #[true, true, true, true, true, true, true, true, true, true, true, true, true, false]) rfl (EStep.le (EStep.ofL (x_cat hx11 rfl) (by kernel_rfl)) Le.sub0) (by kernel_rfl) d31, (fun _ h => absurd h List.not_mem_nil)⟩)
  refine DE.share (fuel := 3) (L := #[true, true, true, true, true, true, true, true, false, true, true, true, false, false]) (σ := ⟨48, [(22, vs x6), (27, vs x8), (31, vs x10)], [(1000000, .box [vl (eI .u8) x7.2.code, vi x7.2.at', vi x7.2.seed])]⟩) ?_ (fun d29 => ?_)
  exact DE.all [8] (by kernel_rfl) (by simp) (List.forall_mem_cons.2 ⟨DEs.mk (i := 8) (L' := #[true, true, true, true, true, true, true, true, true, true, true, true, false, false]) rfl (EStep.le (EStep.ofL (x_cat hx9 rfl) (by kernel_rfl)) Le.sub0) (by kernel_rfl) d30, (fun _ h => absurd h List.not_mem_nil)⟩)
  refine DE.share (fuel := 3) (L := #[true, true, true, true, true, true, true, true, true, true, true, false, false, false]) (σ := ⟨48, [(28, vs x9), (29, vs aT), (30, vi x1.1)], [(1000000, .box [vl (eI .u8) x7.2.code, vi x7.2.at', vi x7.2.seed])]⟩) ?_ (fun d28 => ?_)
  exact DE.all [11] (by kernel_rfl) (by simp) (List.forall_mem_cons.2 ⟨DEs.mk (i := 11) (L' := #[true, true, true, true, true, true, true, true, true, true, true, true, false, false]) rfl (EStep.le (EStep.ofL (x_sub (ti := ti9) hx10 tbok rfl) (by kernel_rfl)) Le.sub0) (by kernel_rfl) d30, (fun _ h => absurd h List.not_mem_nil)⟩)
  refine DE.share (fuel := 4) (L := #[true, true, false, true, true, true, true, true, false, true, true, true, false, false]) (σ := ⟨48, [(20, vs aT), (21, vi x1.1), (27, vs x8), (31, vs x10)], [(1000000, .box [vl (eI .u8) x7.2.code, vi x7.2.at', vi x7.2.seed])]⟩) ?_ (fun d27 => ?_)
  exact DE.all [2] (by kernel_rfl) (by simp) (List.forall_mem_cons.2 ⟨DEs.mk (i := 2) (L' := #[true, true, true, true, true, true, true, true, false, true, true, true, false, false]) rfl (EStep.le (EStep.ofL (x_sub (ti := ti9) hx6 tbok rfl) (by kernel_rfl)) Le.sub0) (by kernel_rfl) d29, (fun _ h => absurd h List.not_mem_nil)⟩)
  refine DE.share (fuel := 4) (L := #[true, true, true, true, true, true, true, false, false, true, true, true, false, false]) (σ := ⟨48, [(22, vs x6), (26, .eref 23 1 (Int.toNat x7.1) 0), (31, vs x10)], [(23, .arr 9 1 ([(ByteArray.mk #[48]), (ByteArray.mk #[35]), (ByteArray.mk #[46]), (ByteArray.mk #[47]), (ByteArray.mk #[32]), (ByteArray.mk #[97]), (ByteArray.mk #[45]), (ByteArray.mk #[10])] : List ByteArray).length (([(ByteArray.mk #[48]), (ByteArray.mk #[35]), (ByteArray.mk #[46]), (ByteArray.mk #[47]), (ByteArray.mk #[32]), (ByteArray.mk #[97]), (ByteArray.mk #[45]), (ByteArray.mk #[10])] : List ByteArray).map eS)), (1000000, .box [vl (eI .u8) x7.2.code, vi x7.2.at', vi x7.2.seed])]⟩) ?_ (fun d26 => ?_)
  exact DE.all [7] (by kernel_rfl) (by simp) (List.forall_mem_cons.2 ⟨DEs.mk (i := 7) (L' := #[true, true, true, true, true, true, true, true, false, true, true, true, false, false]) rfl (EStep.le (EStep.ofL (x_load_own (d := 23) (m := 1) (j := 0) (L := ([(ByteArray.mk #[48]), (ByteArray.mk #[35]), (ByteArray.mk #[46]), (ByteArray.mk #[47]), (ByteArray.mk #[32]), (ByteArray.mk #[97]), (ByteArray.mk #[45]), (ByteArray.mk #[10])] : List ByteArray)) (f := eS) (ti := ti9) (e := 9) (v := vs x8) tbok rfl hx8) (by kernel_rfl)) Le.sub0) (by kernel_rfl) d29, (fun _ h => absurd h List.not_mem_nil)⟩)
  refine DE.share (fuel := 4) (L := #[true, true, true, true, true, true, true, true, false, true, true, false, false, false]) (σ := ⟨48, [(22, vs x6), (27, vs x8), (29, vs aT), (30, vi x1.1)], [(1000000, .box [vl (eI .u8) x7.2.code, vi x7.2.at', vi x7.2.seed])]⟩) ?_ (fun d25 => ?_)
  exact DE.all [8, 11] (by kernel_rfl) (by simp) (List.forall_mem_cons.2 ⟨DEs.mk (i := 8) (L' := #[true, true, true, true, true, true, true, true, true, true, true, false, false, false]) rfl (EStep.le (EStep.ofL (x_cat hx9 rfl) (by kernel_rfl)) Le.sub0) (by kernel_rfl) d28, (List.forall_mem_cons.2 ⟨DEs.mk (i := 11) (L' := #[true, true, true, true, true, true, true, true, false, true, true, true, false, false]) rfl (EStep.le (EStep.ofL (x_sub (ti := ti9) hx10 tbok rfl) (by kernel_rfl)) Le.sub0) (by kernel_rfl) d29, (fun _ h => absurd h List.not_mem_nil)⟩)⟩)
  refine DE.share (fuel := 5) (L := #[true, true, false, true, true, true, true, false, false, true, true, true, false, false]) (σ := ⟨48, [(20, vs aT), (21, vi x1.1), (26, .eref 23 1 (Int.toNat x7.1) 0), (31, vs x10)], [(23, .arr 9 1 ([(ByteArray.mk #[48]), (ByteArray.mk #[35]), (ByteArray.mk #[46]), (ByteArray.mk #[47]), (ByteArray.mk #[32]), (ByteArray.mk #[97]), (ByteArray.mk #[45]), (ByteArray.mk #[10])] : List ByteArray).length (([(ByteArray.mk #[48]), (ByteArray.mk #[35]), (ByteArray.mk #[46]), (ByteArray.mk #[47]), (ByteArray.mk #[32]), (ByteArray.mk #[97]), (ByteArray.mk #[45]), (ByteArray.mk #[10])] : List ByteArray).map eS)), (1000000, .box [vl (eI .u8) x7.2.code, vi x7.2.at', vi x7.2.seed])]⟩) ?_ (fun d24 => ?_)
  exact DE.all [2, 7] (by kernel_rfl) (by simp) (List.forall_mem_cons.2 ⟨DEs.mk (i := 2) (L' := #[true, true, true, true, true, true, true, false, false, true, true, true, false, false]) rfl (EStep.le (EStep.ofL (x_sub (ti := ti9) hx6 tbok rfl) (by kernel_rfl)) Le.sub0) (by kernel_rfl) d26, (List.forall_mem_cons.2 ⟨DEs.mk (i := 7) (L' := #[true, true, false, true, true, true, true, true, false, true, true, true, false, false]) rfl (EStep.le (EStep.ofL (x_load_own (d := 23) (m := 1) (j := 0) (L := ([(ByteArray.mk #[48]), (ByteArray.mk #[35]), (ByteArray.mk #[46]), (ByteArray.mk #[47]), (ByteArray.mk #[32]), (ByteArray.mk #[97]), (ByteArray.mk #[45]), (ByteArray.mk #[10])] : List ByteArray)) (f := eS) (ti := ti9) (e := 9) (v := vs x8) tbok rfl hx8) (by kernel_rfl)) Le.sub0) (by kernel_rfl) d27, (fun _ h => absurd h List.not_mem_nil)⟩)⟩)
  refine DE.share (fuel := 5) (L := #[true, true, false, true, true, true, true, true, false, true, true, false, false, false]) (σ := ⟨48, [(20, vs aT), (21, vi x1.1), (27, vs x8), (29, vs aT), (30, vi x1.1)], [(1000000, .box [vl (eI .u8) x7.2.code, vi x7.2.at', vi x7.2.seed])]⟩) ?_ (fun d23 => ?_)
  exact DE.all [2, 11] (by kernel_rfl) (by simp) (List.forall_mem_cons.2 ⟨DEs.mk (i := 2) (L' := #[true, true, true, true, true, true, true, true, false, true, true, false, false, false]) rfl (EStep.le (EStep.ofL (x_sub (ti := ti9) hx6 tbok rfl) (by kernel_rfl)) Le.sub0) (by kernel_rfl) d25, (List.forall_mem_cons.2 ⟨DEs.mk (i := 11) (L' := #[true, true, false, true, true, true, true, true, false, true, true, true, false, false]) rfl (EStep.le (EStep.ofL (x_sub (ti := ti9) hx10 tbok rfl) (by kernel_rfl)) Le.sub0) (by kernel_rfl) d27, (fun _ h => absurd h List.not_mem_nil)⟩)⟩)
  refine DE.share (fuel := 5) (L := #[true, true, true, true, true, true, false, false, false, true, true, true, false, false]) (σ := ⟨48, [(22, vs x6), (23, .own 23), (25, vi x7.1), (31, vs x10)], [(23, .arr 9 1 ([(ByteArray.mk #[48]), (ByteArray.mk #[35]), (ByteArray.mk #[46]), (ByteArray.mk #[47]), (ByteArray.mk #[32]), (ByteArray.mk #[97]), (ByteArray.mk #[45]), (ByteArray.mk #[10])] : List ByteArray).length (([(ByteArray.mk #[48]), (ByteArray.mk #[35]), (ByteArray.mk #[46]), (ByteArray.mk #[47]), (ByteArray.mk #[32]), (ByteArray.mk #[97]), (ByteArray.mk #[45]), (ByteArray.mk #[10])] : List ByteArray).map eS)), (1000000, .box [vl (eI .u8) x7.2.code, vi x7.2.at', vi x7.2.seed])]⟩) ?_ (fun d22 => ?_)
  exact DE.all [6] (by kernel_rfl) (by simp) (List.forall_mem_cons.2 ⟨DEs.mk (i := 6) (L' := #[true, true, true, true, true, true, true, false, false, true, true, true, false, false]) rfl (EStep.le (EStep.ofL (x_index_own (d := 23) (L := ([(ByteArray.mk #[48]), (ByteArray.mk #[35]), (ByteArray.mk #[46]), (ByteArray.mk #[47]), (ByteArray.mk #[32]), (ByteArray.mk #[97]), (ByteArray.mk #[45]), (ByteArray.mk #[10])] : List ByteArray)) (f := eS) (ti := ti86) (tj := ti9) (e := 9) (e' := 9) (m := 1) (k := .i64) tbok rfl hx8) (by kernel_rfl)) Le.sub0) (by kernel_rfl) d26, (fun _ h => absurd h List.not_mem_nil)⟩)
  refine DE.share (fuel := 5) (L := #[true, true, true, true, true, true, true, false, false, true, true, false, false, false]) (σ := ⟨48, [(22, vs x6), (26, .eref 23 1 (Int.toNat x7.1) 0), (29, vs aT), (30, vi x1.1)], [(23, .arr 9 1 ([(ByteArray.mk #[48]), (ByteArray.mk #[35]), (ByteArray.mk #[46]), (ByteArray.mk #[47]), (ByteArray.mk #[32]), (ByteArray.mk #[97]), (ByteArray.mk #[45]), (ByteArray.mk #[10])] : List ByteArray).length (([(ByteArray.mk #[48]), (ByteArray.mk #[35]), (ByteArray.mk #[46]), (ByteArray.mk #[47]), (ByteArray.mk #[32]), (ByteArray.mk #[97]), (ByteArray.mk #[45]), (ByteArray.mk #[10])] : List ByteArray).map eS)), (1000000, .box [vl (eI .u8) x7.2.code, vi x7.2.at', vi x7.2.seed])]⟩) ?_ (fun d21 => ?_)
  exact DE.all [7, 11] (by kernel_rfl) (by simp) (List.forall_mem_cons.2 ⟨DEs.mk (i := 7) (L' := #[true, true, true, true, true, true, true, true, false, true, true, false, false, false]) rfl (EStep.le (EStep.ofL (x_load_own (d := 23) (m := 1) (j := 0) (L := ([(ByteArray.mk #[48]), (ByteArray.mk #[35]), (ByteArray.mk #[46]), (ByteArray.mk #[47]), (ByteArray.mk #[32]), (ByteArray.mk #[97]), (ByteArray.mk #[45]), (ByteArray.mk #[10])] : List ByteArray)) (f := eS) (ti := ti9) (e := 9) (v := vs x8) tbok rfl hx8) (by kernel_rfl)) Le.sub0) (by kernel_rfl) d25, (List.forall_mem_cons.2 ⟨DEs.mk (i := 11) (L' := #[true, true, true, true, true, true, true, false, false, true, true, true, false, false]) rfl (EStep.le (EStep.ofL (x_sub (ti := ti9) hx10 tbok rfl) (by kernel_rfl)) Le.sub0) (by kernel_rfl) d26, (fun _ h => absurd h List.not_mem_nil)⟩)⟩)
  refine DE.share (fuel := 6) (L := #[true, true, false, true, true, true, false, false, false, true, true, true, false, false]) (σ := ⟨48, [(20, vs aT), (21, vi x1.1), (23, .own 23), (25, vi x7.1), (31, vs x10)], [(23, .arr 9 1 ([(ByteArray.mk #[48]), (ByteArray.mk #[35]), (ByteArray.mk #[46]), (ByteArray.mk #[47]), (ByteArray.mk #[32]), (ByteArray.mk #[97]), (ByteArray.mk #[45]), (ByteArray.mk #[10])] : List ByteArray).length (([(ByteArray.mk #[48]), (ByteArray.mk #[35]), (ByteArray.mk #[46]), (ByteArray.mk #[47]), (ByteArray.mk #[32]), (ByteArray.mk #[97]), (ByteArray.mk #[45]), (ByteArray.mk #[10])] : List ByteArray).map eS)), (1000000, .box [vl (eI .u8) x7.2.code, vi x7.2.at', vi x7.2.seed])]⟩) ?_ (fun d20 => ?_)
  exact DE.all [2, 6] (by kernel_rfl) (by simp) (List.forall_mem_cons.2 ⟨DEs.mk (i := 2) (L' := #[true, true, true, true, true, true, false, false, false, true, true, true, false, false]) rfl (EStep.le (EStep.ofL (x_sub (ti := ti9) hx6 tbok rfl) (by kernel_rfl)) Le.sub0) (by kernel_rfl) d22, (List.forall_mem_cons.2 ⟨DEs.mk (i := 6) (L' := #[true, true, false, true, true, true, true, false, false, true, true, true, false, false]) rfl (EStep.le (EStep.ofL (x_index_own (d := 23) (L := ([(ByteArray.mk #[48]), (ByteArray.mk #[35]), (ByteArray.mk #[46]), (ByteArray.mk #[47]), (ByteArray.mk #[32]), (ByteArray.mk #[97]), (ByteArray.mk #[45]), (ByteArray.mk #[10])] : List ByteArray)) (f := eS) (ti := ti86) (tj := ti9) (e := 9) (e' := 9) (m := 1) (k := .i64) tbok rfl hx8) (by kernel_rfl)) Le.sub0) (by kernel_rfl) d24, (fun _ h => absurd h List.not_mem_nil)⟩)⟩)
  refine DE.share (fuel := 6) (L := #[true, true, false, true, true, true, true, false, false, true, true, false, false, false]) (σ := ⟨48, [(20, vs aT), (21, vi x1.1), (26, .eref 23 1 (Int.toNat x7.1) 0), (29, vs aT), (30, vi x1.1)], [(23, .arr 9 1 ([(ByteArray.mk #[48]), (ByteArray.mk #[35]), (ByteArray.mk #[46]), (ByteArray.mk #[47]), (ByteArray.mk #[32]), (ByteArray.mk #[97]), (ByteArray.mk #[45]), (ByteArray.mk #[10])] : List ByteArray).length (([(ByteArray.mk #[48]), (ByteArray.mk #[35]), (ByteArray.mk #[46]), (ByteArray.mk #[47]), (ByteArray.mk #[32]), (ByteArray.mk #[97]), (ByteArray.mk #[45]), (ByteArray.mk #[10])] : List ByteArray).map eS)), (1000000, .box [vl (eI .u8) x7.2.code, vi x7.2.at', vi x7.2.seed])]⟩) ?_ (fun d19 => ?_)
  exact DE.all [2, 7, 11] (by kernel_rfl) (by simp) (List.forall_mem_cons.2 ⟨DEs.mk (i := 2) (L' := #[true, true, true, true, true, true, true, false, false, true, true, false, false, false]) rfl (EStep.le (EStep.ofL (x_sub (ti := ti9) hx6 tbok rfl) (by kernel_rfl)) Le.sub0) (by kernel_rfl) d21, (List.forall_mem_cons.2 ⟨DEs.mk (i := 7) (L' := #[true, true, false, true, true, true, true, true, false, true, true, false, false, false]) rfl (EStep.le (EStep.ofL (x_load_own (d := 23) (m := 1) (j := 0) (L := ([(ByteArray.mk #[48]), (ByteArray.mk #[35]), (ByteArray.mk #[46]), (ByteArray.mk #[47]), (ByteArray.mk #[32]), (ByteArray.mk #[97]), (ByteArray.mk #[45]), (ByteArray.mk #[10])] : List ByteArray)) (f := eS) (ti := ti9) (e := 9) (v := vs x8) tbok rfl hx8) (by kernel_rfl)) Le.sub0) (by kernel_rfl) d23, (List.forall_mem_cons.2 ⟨DEs.mk (i := 11) (L' := #[true, true, false, true, true, true, true, false, false, true, true, true, false, false]) rfl (EStep.le (EStep.ofL (x_sub (ti := ti9) hx10 tbok rfl) (by kernel_rfl)) Le.sub0) (by kernel_rfl) d24, (fun _ h => absurd h List.not_mem_nil)⟩)⟩)⟩)
  refine DE.share (fuel := 6) (L := #[true, true, true, false, true, true, false, false, false, true, true, true, false, false]) (σ := ⟨48, [(22, vs x6), (25, vi x7.1), (31, vs x10)], [(1000000, .box [vl (eI .u8) x7.2.code, vi x7.2.at', vi x7.2.seed])]⟩) ?_ (fun d18 => ?_)
  exact DE.all [3] (by kernel_rfl) (by simp) (List.forall_mem_cons.2 ⟨DEs.mk (i := 3) (L' := #[true, true, true, true, true, true, false, false, false, true, true, true, false, false]) rfl (EStep.le (EStep.ofN2 tbok (σ' := ⟨48, [(23, .own 23), (22, vs x6), (25, vi x7.1), (31, vs x10)], [(23, .arr 9 1 ([(ByteArray.mk #[48]), (ByteArray.mk #[35]), (ByteArray.mk #[46]), (ByteArray.mk #[47]), (ByteArray.mk #[32]), (ByteArray.mk #[97]), (ByteArray.mk #[45]), (ByteArray.mk #[10])] : List ByteArray).length (([(ByteArray.mk #[48]), (ByteArray.mk #[35]), (ByteArray.mk #[46]), (ByteArray.mk #[47]), (ByteArray.mk #[32]), (ByteArray.mk #[97]), (ByteArray.mk #[45]), (ByteArray.mk #[10])] : List ByteArray).map eS)), (1000000, .box [vl (eI .u8) x7.2.code, vi x7.2.at', vi x7.2.seed])]⟩) (by kernel_rfl)) Le.sub0) (by kernel_rfl) d22, (fun _ h => absurd h List.not_mem_nil)⟩)
  refine DE.share (fuel := 6) (L := #[true, true, true, true, true, false, false, false, false, true, true, true, false, false]) (σ := ⟨48, [(22, vs x6), (23, .own 23), (24, .ref 1000000 0), (31, vs x10)], [(23, .arr 9 1 ([(ByteArray.mk #[48]), (ByteArray.mk #[35]), (ByteArray.mk #[46]), (ByteArray.mk #[47]), (ByteArray.mk #[32]), (ByteArray.mk #[97]), (ByteArray.mk #[45]), (ByteArray.mk #[10])] : List ByteArray).length (([(ByteArray.mk #[48]), (ByteArray.mk #[35]), (ByteArray.mk #[46]), (ByteArray.mk #[47]), (ByteArray.mk #[32]), (ByteArray.mk #[97]), (ByteArray.mk #[45]), (ByteArray.mk #[10])] : List ByteArray).map eS)), (1000000, .box [vl (eI .u8) x2.2.code, vi x2.2.at', vi x2.2.seed])]⟩) ?_ (fun d17 => ?_)
  exact DE.all [5] (by kernel_rfl) (by simp) (List.forall_mem_cons.2 ⟨DEs.mk (i := 5) (L' := #[true, true, true, true, true, true, false, false, false, true, true, true, false, false]) rfl (EStep.le (x_estep_call (f := 77) (caps := []) (xs := [.ref 1000000 0, vi 8]) (pre := []) (post := [vi 8]) (qs := [vi 8]) (z := .ref 1000000 0) (d := 1000000) (pl := 0) (y := .box [vl (eI .u8) x2.2.code, vi x2.2.at', vi x2.2.seed]) (y' := .box [vl (eI .u8) x7.2.code, vi x7.2.at', vi x7.2.seed]) (res := ⟨[.v (vi x7.1)], [(0, .box [vl (eI .u8) x7.2.code, vi x7.2.at', vi x7.2.seed])], false⟩) (x := vi x7.1) (yo := none) rfl rfl rfl rfl rfl ents77 (spec_l01Next_run x2.2 8 _ hx7) rfl rfl false (fun _ => rfl) (by intro hc; cases hc)) Le.sub0) (by kernel_rfl) d22, (fun _ h => absurd h List.not_mem_nil)⟩)
  refine DE.share (fuel := 6) (L := #[true, true, true, true, true, true, false, false, false, true, true, false, false, false]) (σ := ⟨48, [(22, vs x6), (23, .own 23), (25, vi x7.1), (29, vs aT), (30, vi x1.1)], [(23, .arr 9 1 ([(ByteArray.mk #[48]), (ByteArray.mk #[35]), (ByteArray.mk #[46]), (ByteArray.mk #[47]), (ByteArray.mk #[32]), (ByteArray.mk #[97]), (ByteArray.mk #[45]), (ByteArray.mk #[10])] : List ByteArray).length (([(ByteArray.mk #[48]), (ByteArray.mk #[35]), (ByteArray.mk #[46]), (ByteArray.mk #[47]), (ByteArray.mk #[32]), (ByteArray.mk #[97]), (ByteArray.mk #[45]), (ByteArray.mk #[10])] : List ByteArray).map eS)), (1000000, .box [vl (eI .u8) x7.2.code, vi x7.2.at', vi x7.2.seed])]⟩) ?_ (fun d16 => ?_)
  exact DE.all [6, 11] (by kernel_rfl) (by simp) (List.forall_mem_cons.2 ⟨DEs.mk (i := 6) (L' := #[true, true, true, true, true, true, true, false, false, true, true, false, false, false]) rfl (EStep.le (EStep.ofL (x_index_own (d := 23) (L := ([(ByteArray.mk #[48]), (ByteArray.mk #[35]), (ByteArray.mk #[46]), (ByteArray.mk #[47]), (ByteArray.mk #[32]), (ByteArray.mk #[97]), (ByteArray.mk #[45]), (ByteArray.mk #[10])] : List ByteArray)) (f := eS) (ti := ti86) (tj := ti9) (e := 9) (e' := 9) (m := 1) (k := .i64) tbok rfl hx8) (by kernel_rfl)) Le.sub0) (by kernel_rfl) d21, (List.forall_mem_cons.2 ⟨DEs.mk (i := 11) (L' := #[true, true, true, true, true, true, false, false, false, true, true, true, false, false]) rfl (EStep.le (EStep.ofL (x_sub (ti := ti9) hx10 tbok rfl) (by kernel_rfl)) Le.sub0) (by kernel_rfl) d22, (fun _ h => absurd h List.not_mem_nil)⟩)⟩)
  refine DE.share (fuel := 7) (L := #[true, true, false, false, true, true, false, false, false, true, true, true, false, false]) (σ := ⟨48, [(20, vs aT), (21, vi x1.1), (25, vi x7.1), (31, vs x10)], [(1000000, .box [vl (eI .u8) x7.2.code, vi x7.2.at', vi x7.2.seed])]⟩) ?_ (fun d15 => ?_)
  exact DE.all [2, 3] (by kernel_rfl) (by simp) (List.forall_mem_cons.2 ⟨DEs.mk (i := 2) (L' := #[true, true, true, false, true, true, false, false, false, true, true, true, false, false]) rfl (EStep.le (EStep.ofL (x_sub (ti := ti9) hx6 tbok rfl) (by kernel_rfl)) Le.sub0) (by kernel_rfl) d18, (List.forall_mem_cons.2 ⟨DEs.mk (i := 3) (L' := #[true, true, false, true, true, true, false, false, false, true, true, true, false, false]) rfl (EStep.le (EStep.ofN2 tbok (σ' := ⟨48, [(23, .own 23), (20, vs aT), (21, vi x1.1), (25, vi x7.1), (31, vs x10)], [(23, .arr 9 1 ([(ByteArray.mk #[48]), (ByteArray.mk #[35]), (ByteArray.mk #[46]), (ByteArray.mk #[47]), (ByteArray.mk #[32]), (ByteArray.mk #[97]), (ByteArray.mk #[45]), (ByteArray.mk #[10])] : List ByteArray).length (([(ByteArray.mk #[48]), (ByteArray.mk #[35]), (ByteArray.mk #[46]), (ByteArray.mk #[47]), (ByteArray.mk #[32]), (ByteArray.mk #[97]), (ByteArray.mk #[45]), (ByteArray.mk #[10])] : List ByteArray).map eS)), (1000000, .box [vl (eI .u8) x7.2.code, vi x7.2.at', vi x7.2.seed])]⟩) (by kernel_rfl)) Le.sub0) (by kernel_rfl) d20, (fun _ h => absurd h List.not_mem_nil)⟩)⟩)
  refine DE.share (fuel := 7) (L := #[true, true, false, true, true, false, false, false, false, true, true, true, false, false]) (σ := ⟨48, [(20, vs aT), (21, vi x1.1), (23, .own 23), (24, .ref 1000000 0), (31, vs x10)], [(23, .arr 9 1 ([(ByteArray.mk #[48]), (ByteArray.mk #[35]), (ByteArray.mk #[46]), (ByteArray.mk #[47]), (ByteArray.mk #[32]), (ByteArray.mk #[97]), (ByteArray.mk #[45]), (ByteArray.mk #[10])] : List ByteArray).length (([(ByteArray.mk #[48]), (ByteArray.mk #[35]), (ByteArray.mk #[46]), (ByteArray.mk #[47]), (ByteArray.mk #[32]), (ByteArray.mk #[97]), (ByteArray.mk #[45]), (ByteArray.mk #[10])] : List ByteArray).map eS)), (1000000, .box [vl (eI .u8) x2.2.code, vi x2.2.at', vi x2.2.seed])]⟩) ?_ (fun d14 => ?_)
  exact DE.all [2, 5] (by kernel_rfl) (by simp) (List.forall_mem_cons.2 ⟨DEs.mk (i := 2) (L' := #[true, true, true, true, true, false, false, false, false, true, true, true, false, false]) rfl (EStep.le (EStep.ofL (x_sub (ti := ti9) hx6 tbok rfl) (by kernel_rfl)) Le.sub0) (by kernel_rfl) d17, (List.forall_mem_cons.2 ⟨DEs.mk (i := 5) (L' := #[true, true, false, true, true, true, false, false, false, true, true, true, false, false]) rfl (EStep.le (x_estep_call (f := 77) (caps := []) (xs := [.ref 1000000 0, vi 8]) (pre := []) (post := [vi 8]) (qs := [vi 8]) (z := .ref 1000000 0) (d := 1000000) (pl := 0) (y := .box [vl (eI .u8) x2.2.code, vi x2.2.at', vi x2.2.seed]) (y' := .box [vl (eI .u8) x7.2.code, vi x7.2.at', vi x7.2.seed]) (res := ⟨[.v (vi x7.1)], [(0, .box [vl (eI .u8) x7.2.code, vi x7.2.at', vi x7.2.seed])], false⟩) (x := vi x7.1) (yo := none) rfl rfl rfl rfl rfl ents77 (spec_l01Next_run x2.2 8 _ hx7) rfl rfl false (fun _ => rfl) (by intro hc; cases hc)) Le.sub0) (by kernel_rfl) d20, (fun _ h => absurd h List.not_mem_nil)⟩)⟩)
  refine DE.share (fuel := 7) (L := #[true, true, false, true, true, true, false, false, false, true, true, false, false, false]) (σ := ⟨48, [(20, vs aT), (21, vi x1.1), (23, .own 23), (25, vi x7.1), (29, vs aT), (30, vi x1.1)], [(23, .arr 9 1 ([(ByteArray.mk #[48]), (ByteArray.mk #[35]), (ByteArray.mk #[46]), (ByteArray.mk #[47]), (ByteArray.mk #[32]), (ByteArray.mk #[97]), (ByteArray.mk #[45]), (ByteArray.mk #[10])] : List ByteArray).length (([(ByteArray.mk #[48]), (ByteArray.mk #[35]), (ByteArray.mk #[46]), (ByteArray.mk #[47]), (ByteArray.mk #[32]), (ByteArray.mk #[97]), (ByteArray.mk #[45]), (ByteArray.mk #[10])] : List ByteArray).map eS)), (1000000, .box [vl (eI .u8) x7.2.code, vi x7.2.at', vi x7.2.seed])]⟩) ?_ (fun d13 => ?_)
  exact DE.all [2, 6, 11] (by kernel_rfl) (by simp) (List.forall_mem_cons.2 ⟨DEs.mk (i := 2) (L' := #[true, true, true, true, true, true, false, false, false, true, true, false, false, false]) rfl (EStep.le (EStep.ofL (x_sub (ti := ti9) hx6 tbok rfl) (by kernel_rfl)) Le.sub0) (by kernel_rfl) d16, (List.forall_mem_cons.2 ⟨DEs.mk (i := 6) (L' := #[true, true, false, true, true, true, true, false, false, true, true, false, false, false]) rfl (EStep.le (EStep.ofL (x_index_own (d := 23) (L := ([(ByteArray.mk #[48]), (ByteArray.mk #[35]), (ByteArray.mk #[46]), (ByteArray.mk #[47]), (ByteArray.mk #[32]), (ByteArray.mk #[97]), (ByteArray.mk #[45]), (ByteArray.mk #[10])] : List ByteArray)) (f := eS) (ti := ti86) (tj := ti9) (e := 9) (e' := 9) (m := 1) (k := .i64) tbok rfl hx8) (by kernel_rfl)) Le.sub0) (by kernel_rfl) d19, (List.forall_mem_cons.2 ⟨DEs.mk (i := 11) (L' := #[true, true, false, true, true, true, false, false, false, true, true, true, false, false]) rfl (EStep.le (EStep.ofL (x_sub (ti := ti9) hx10 tbok rfl) (by kernel_rfl)) Le.sub0) (by kernel_rfl) d20, (fun _ h => absurd h List.not_mem_nil)⟩)⟩)⟩)
  refine DE.share (fuel := 7) (L := #[true, true, true, false, true, false, false, false, false, true, true, true, false, false]) (σ := ⟨48, [(22, vs x6), (24, .ref 1000000 0), (31, vs x10)], [(1000000, .box [vl (eI .u8) x2.2.code, vi x2.2.at', vi x2.2.seed])]⟩) ?_ (fun d12 => ?_)
  exact DE.all [3, 5] (by kernel_rfl) (by simp) (List.forall_mem_cons.2 ⟨DEs.mk (i := 3) (L' := #[true, true, true, true, true, false, false, false, false, true, true, true, false, false]) rfl (EStep.le (EStep.ofN2 tbok (σ' := ⟨48, [(23, .own 23), (22, vs x6), (24, .ref 1000000 0), (31, vs x10)], [(23, .arr 9 1 ([(ByteArray.mk #[48]), (ByteArray.mk #[35]), (ByteArray.mk #[46]), (ByteArray.mk #[47]), (ByteArray.mk #[32]), (ByteArray.mk #[97]), (ByteArray.mk #[45]), (ByteArray.mk #[10])] : List ByteArray).length (([(ByteArray.mk #[48]), (ByteArray.mk #[35]), (ByteArray.mk #[46]), (ByteArray.mk #[47]), (ByteArray.mk #[32]), (ByteArray.mk #[97]), (ByteArray.mk #[45]), (ByteArray.mk #[10])] : List ByteArray).map eS)), (1000000, .box [vl (eI .u8) x2.2.code, vi x2.2.at', vi x2.2.seed])]⟩) (by kernel_rfl)) Le.sub0) (by kernel_rfl) d17, (List.forall_mem_cons.2 ⟨DEs.mk (i := 5) (L' := #[true, true, true, false, true, true, false, false, false, true, true, true, false, false]) rfl (EStep.le (x_estep_call (f := 77) (caps := []) (xs := [.ref 1000000 0, vi 8]) (pre := []) (post := [vi 8]) (qs := [vi 8]) (z := .ref 1000000 0) (d := 1000000) (pl := 0) (y := .box [vl (eI .u8) x2.2.code, vi x2.2.at', vi x2.2.seed]) (y' := .box [vl (eI .u8) x7.2.code, vi x7.2.at', vi x7.2.seed]) (res := ⟨[.v (vi x7.1)], [(0, .box [vl (eI .u8) x7.2.code, vi x7.2.at', vi x7.2.seed])], false⟩) (x := vi x7.1) (yo := none) rfl rfl rfl rfl rfl ents77 (spec_l01Next_run x2.2 8 _ hx7) rfl rfl false (fun _ => rfl) (by intro hc; cases hc)) Le.sub0) (by kernel_rfl) d18, (fun _ h => absurd h List.not_mem_nil)⟩)⟩)
  refine DE.share (fuel := 7) (L := #[true, true, true, false, true, true, false, false, false, true, true, false, false, false]) (σ := ⟨48, [(22, vs x6), (25, vi x7.1), (29, vs aT), (30, vi x1.1)], [(1000000, .box [vl (eI .u8) x7.2.code, vi x7.2.at', vi x7.2.seed])]⟩) ?_ (fun d11 => ?_)
  exact DE.all [3, 11] (by kernel_rfl) (by simp) (List.forall_mem_cons.2 ⟨DEs.mk (i := 3) (L' := #[true, true, true, true, true, true, false, false, false, true, true, false, false, false]) rfl (EStep.le (EStep.ofN2 tbok (σ' := ⟨48, [(23, .own 23), (22, vs x6), (25, vi x7.1), (29, vs aT), (30, vi x1.1)], [(23, .arr 9 1 ([(ByteArray.mk #[48]), (ByteArray.mk #[35]), (ByteArray.mk #[46]), (ByteArray.mk #[47]), (ByteArray.mk #[32]), (ByteArray.mk #[97]), (ByteArray.mk #[45]), (ByteArray.mk #[10])] : List ByteArray).length (([(ByteArray.mk #[48]), (ByteArray.mk #[35]), (ByteArray.mk #[46]), (ByteArray.mk #[47]), (ByteArray.mk #[32]), (ByteArray.mk #[97]), (ByteArray.mk #[45]), (ByteArray.mk #[10])] : List ByteArray).map eS)), (1000000, .box [vl (eI .u8) x7.2.code, vi x7.2.at', vi x7.2.seed])]⟩) (by kernel_rfl)) Le.sub0) (by kernel_rfl) d16, (List.forall_mem_cons.2 ⟨DEs.mk (i := 11) (L' := #[true, true, true, false, true, true, false, false, false, true, true, true, false, false]) rfl (EStep.le (EStep.ofL (x_sub (ti := ti9) hx10 tbok rfl) (by kernel_rfl)) Le.sub0) (by kernel_rfl) d18, (fun _ h => absurd h List.not_mem_nil)⟩)⟩)
  refine DE.share (fuel := 7) (L := #[true, true, true, true, true, false, false, false, false, true, true, false, false, false]) (σ := ⟨48, [(22, vs x6), (23, .own 23), (24, .ref 1000000 0), (29, vs aT), (30, vi x1.1)], [(23, .arr 9 1 ([(ByteArray.mk #[48]), (ByteArray.mk #[35]), (ByteArray.mk #[46]), (ByteArray.mk #[47]), (ByteArray.mk #[32]), (ByteArray.mk #[97]), (ByteArray.mk #[45]), (ByteArray.mk #[10])] : List ByteArray).length (([(ByteArray.mk #[48]), (ByteArray.mk #[35]), (ByteArray.mk #[46]), (ByteArray.mk #[47]), (ByteArray.mk #[32]), (ByteArray.mk #[97]), (ByteArray.mk #[45]), (ByteArray.mk #[10])] : List ByteArray).map eS)), (1000000, .box [vl (eI .u8) x2.2.code, vi x2.2.at', vi x2.2.seed])]⟩) ?_ (fun d10 => ?_)
  exact DE.all [5, 11] (by kernel_rfl) (by simp) (List.forall_mem_cons.2 ⟨DEs.mk (i := 5) (L' := #[true, true, true, true, true, true, false, false, false, true, true, false, false, false]) rfl (EStep.le (x_estep_call (f := 77) (caps := []) (xs := [.ref 1000000 0, vi 8]) (pre := []) (post := [vi 8]) (qs := [vi 8]) (z := .ref 1000000 0) (d := 1000000) (pl := 0) (y := .box [vl (eI .u8) x2.2.code, vi x2.2.at', vi x2.2.seed]) (y' := .box [vl (eI .u8) x7.2.code, vi x7.2.at', vi x7.2.seed]) (res := ⟨[.v (vi x7.1)], [(0, .box [vl (eI .u8) x7.2.code, vi x7.2.at', vi x7.2.seed])], false⟩) (x := vi x7.1) (yo := none) rfl rfl rfl rfl rfl ents77 (spec_l01Next_run x2.2 8 _ hx7) rfl rfl false (fun _ => rfl) (by intro hc; cases hc)) Le.sub0) (by kernel_rfl) d16, (List.forall_mem_cons.2 ⟨DEs.mk (i := 11) (L' := #[true, true, true, true, true, false, false, false, false, true, true, true, false, false]) rfl (EStep.le (EStep.ofL (x_sub (ti := ti9) hx10 tbok rfl) (by kernel_rfl)) Le.sub0) (by kernel_rfl) d17, (fun _ h => absurd h List.not_mem_nil)⟩)⟩)
  refine DE.share (fuel := 8) (L := #[true, true, false, false, true, false, false, false, false, true, true, true, false, false]) (σ := ⟨48, [(20, vs aT), (21, vi x1.1), (24, .ref 1000000 0), (31, vs x10)], [(1000000, .box [vl (eI .u8) x2.2.code, vi x2.2.at', vi x2.2.seed])]⟩) ?_ (fun d9 => ?_)
  exact DE.all [2, 3, 5] (by kernel_rfl) (by simp) (List.forall_mem_cons.2 ⟨DEs.mk (i := 2) (L' := #[true, true, true, false, true, false, false, false, false, true, true, true, false, false]) rfl (EStep.le (EStep.ofL (x_sub (ti := ti9) hx6 tbok rfl) (by kernel_rfl)) Le.sub0) (by kernel_rfl) d12, (List.forall_mem_cons.2 ⟨DEs.mk (i := 3) (L' := #[true, true, false, true, true, false, false, false, false, true, true, true, false, false]) rfl (EStep.le (EStep.ofN2 tbok (σ' := ⟨48, [(23, .own 23), (20, vs aT), (21, vi x1.1), (24, .ref 1000000 0), (31, vs x10)], [(23, .arr 9 1 ([(ByteArray.mk #[48]), (ByteArray.mk #[35]), (ByteArray.mk #[46]), (ByteArray.mk #[47]), (ByteArray.mk #[32]), (ByteArray.mk #[97]), (ByteArray.mk #[45]), (ByteArray.mk #[10])] : List ByteArray).length (([(ByteArray.mk #[48]), (ByteArray.mk #[35]), (ByteArray.mk #[46]), (ByteArray.mk #[47]), (ByteArray.mk #[32]), (ByteArray.mk #[97]), (ByteArray.mk #[45]), (ByteArray.mk #[10])] : List ByteArray).map eS)), (1000000, .box [vl (eI .u8) x2.2.code, vi x2.2.at', vi x2.2.seed])]⟩) (by kernel_rfl)) Le.sub0) (by kernel_rfl) d14, (List.forall_mem_cons.2 ⟨DEs.mk (i := 5) (L' := #[true, true, false, false, true, true, false, false, false, true, true, true, false, false]) rfl (EStep.le (x_estep_call (f := 77) (caps := []) (xs := [.ref 1000000 0, vi 8]) (pre := []) (post := [vi 8]) (qs := [vi 8]) (z := .ref 1000000 0) (d := 1000000) (pl := 0) (y := .box [vl (eI .u8) x2.2.code, vi x2.2.at', vi x2.2.seed]) (y' := .box [vl (eI .u8) x7.2.code, vi x7.2.at', vi x7.2.seed]) (res := ⟨[.v (vi x7.1)], [(0, .box [vl (eI .u8) x7.2.code, vi x7.2.at', vi x7.2.seed])], false⟩) (x := vi x7.1) (yo := none) rfl rfl rfl rfl rfl ents77 (spec_l01Next_run x2.2 8 _ hx7) rfl rfl false (fun _ => rfl) (by intro hc; cases hc)) Le.sub0) (by kernel_rfl) d15, (fun _ h => absurd h List.not_mem_nil)⟩)⟩)⟩)
  refine DE.share (fuel := 8) (L := #[true, true, false, false, true, true, false, false, false, true, true, false, false, false]) (σ := ⟨48, [(20, vs aT), (21, vi x1.1), (25, vi x7.1), (29, vs aT), (30, vi x1.1)], [(1000000, .box [vl (eI .u8) x7.2.code, vi x7.2.at', vi x7.2.seed])]⟩) ?_ (fun d8 => ?_)
  exact DE.all [2, 3, 11] (by kernel_rfl) (by simp) (List.forall_mem_cons.2 ⟨DEs.mk (i := 2) (L' := #[true, true, true, false, true, true, false, false, false, true, true, false, false, false]) rfl (EStep.le (EStep.ofL (x_sub (ti := ti9) hx6 tbok rfl) (by kernel_rfl)) Le.sub0) (by kernel_rfl) d11, (List.forall_mem_cons.2 ⟨DEs.mk (i := 3) (L' := #[true, true, false, true, true, true, false, false, false, true, true, false, false, false]) rfl (EStep.le (EStep.ofN2 tbok (σ' := ⟨48, [(23, .own 23), (20, vs aT), (21, vi x1.1), (25, vi x7.1), (29, vs aT), (30, vi x1.1)], [(23, .arr 9 1 ([(ByteArray.mk #[48]), (ByteArray.mk #[35]), (ByteArray.mk #[46]), (ByteArray.mk #[47]), (ByteArray.mk #[32]), (ByteArray.mk #[97]), (ByteArray.mk #[45]), (ByteArray.mk #[10])] : List ByteArray).length (([(ByteArray.mk #[48]), (ByteArray.mk #[35]), (ByteArray.mk #[46]), (ByteArray.mk #[47]), (ByteArray.mk #[32]), (ByteArray.mk #[97]), (ByteArray.mk #[45]), (ByteArray.mk #[10])] : List ByteArray).map eS)), (1000000, .box [vl (eI .u8) x7.2.code, vi x7.2.at', vi x7.2.seed])]⟩) (by kernel_rfl)) Le.sub0) (by kernel_rfl) d13, (List.forall_mem_cons.2 ⟨DEs.mk (i := 11) (L' := #[true, true, false, false, true, true, false, false, false, true, true, true, false, false]) rfl (EStep.le (EStep.ofL (x_sub (ti := ti9) hx10 tbok rfl) (by kernel_rfl)) Le.sub0) (by kernel_rfl) d15, (fun _ h => absurd h List.not_mem_nil)⟩)⟩)⟩)
  refine DE.share (fuel := 8) (L := #[true, true, false, true, true, false, false, false, false, true, true, false, false, false]) (σ := ⟨48, [(20, vs aT), (21, vi x1.1), (23, .own 23), (24, .ref 1000000 0), (29, vs aT), (30, vi x1.1)], [(23, .arr 9 1 ([(ByteArray.mk #[48]), (ByteArray.mk #[35]), (ByteArray.mk #[46]), (ByteArray.mk #[47]), (ByteArray.mk #[32]), (ByteArray.mk #[97]), (ByteArray.mk #[45]), (ByteArray.mk #[10])] : List ByteArray).length (([(ByteArray.mk #[48]), (ByteArray.mk #[35]), (ByteArray.mk #[46]), (ByteArray.mk #[47]), (ByteArray.mk #[32]), (ByteArray.mk #[97]), (ByteArray.mk #[45]), (ByteArray.mk #[10])] : List ByteArray).map eS)), (1000000, .box [vl (eI .u8) x2.2.code, vi x2.2.at', vi x2.2.seed])]⟩) ?_ (fun d7 => ?_)
  exact DE.all [2, 5, 11] (by kernel_rfl) (by simp) (List.forall_mem_cons.2 ⟨DEs.mk (i := 2) (L' := #[true, true, true, true, true, false, false, false, false, true, true, false, false, false]) rfl (EStep.le (EStep.ofL (x_sub (ti := ti9) hx6 tbok rfl) (by kernel_rfl)) Le.sub0) (by kernel_rfl) d10, (List.forall_mem_cons.2 ⟨DEs.mk (i := 5) (L' := #[true, true, false, true, true, true, false, false, false, true, true, false, false, false]) rfl (EStep.le (x_estep_call (f := 77) (caps := []) (xs := [.ref 1000000 0, vi 8]) (pre := []) (post := [vi 8]) (qs := [vi 8]) (z := .ref 1000000 0) (d := 1000000) (pl := 0) (y := .box [vl (eI .u8) x2.2.code, vi x2.2.at', vi x2.2.seed]) (y' := .box [vl (eI .u8) x7.2.code, vi x7.2.at', vi x7.2.seed]) (res := ⟨[.v (vi x7.1)], [(0, .box [vl (eI .u8) x7.2.code, vi x7.2.at', vi x7.2.seed])], false⟩) (x := vi x7.1) (yo := none) rfl rfl rfl rfl rfl ents77 (spec_l01Next_run x2.2 8 _ hx7) rfl rfl false (fun _ => rfl) (by intro hc; cases hc)) Le.sub0) (by kernel_rfl) d13, (List.forall_mem_cons.2 ⟨DEs.mk (i := 11) (L' := #[true, true, false, true, true, false, false, false, false, true, true, true, false, false]) rfl (EStep.le (EStep.ofL (x_sub (ti := ti9) hx10 tbok rfl) (by kernel_rfl)) Le.sub0) (by kernel_rfl) d14, (fun _ h => absurd h List.not_mem_nil)⟩)⟩)⟩)
  refine DE.share (fuel := 8) (L := #[true, true, true, false, true, false, false, false, false, true, true, false, false, false]) (σ := ⟨48, [(22, vs x6), (24, .ref 1000000 0), (29, vs aT), (30, vi x1.1)], [(1000000, .box [vl (eI .u8) x2.2.code, vi x2.2.at', vi x2.2.seed])]⟩) ?_ (fun d6 => ?_)
  exact DE.all [3, 5, 11] (by kernel_rfl) (by simp) (List.forall_mem_cons.2 ⟨DEs.mk (i := 3) (L' := #[true, true, true, true, true, false, false, false, false, true, true, false, false, false]) rfl (EStep.le (EStep.ofN2 tbok (σ' := ⟨48, [(23, .own 23), (22, vs x6), (24, .ref 1000000 0), (29, vs aT), (30, vi x1.1)], [(23, .arr 9 1 ([(ByteArray.mk #[48]), (ByteArray.mk #[35]), (ByteArray.mk #[46]), (ByteArray.mk #[47]), (ByteArray.mk #[32]), (ByteArray.mk #[97]), (ByteArray.mk #[45]), (ByteArray.mk #[10])] : List ByteArray).length (([(ByteArray.mk #[48]), (ByteArray.mk #[35]), (ByteArray.mk #[46]), (ByteArray.mk #[47]), (ByteArray.mk #[32]), (ByteArray.mk #[97]), (ByteArray.mk #[45]), (ByteArray.mk #[10])] : List ByteArray).map eS)), (1000000, .box [vl (eI .u8) x2.2.code, vi x2.2.at', vi x2.2.seed])]⟩) (by kernel_rfl)) Le.sub0) (by kernel_rfl) d10, (List.forall_mem_cons.2 ⟨DEs.mk (i := 5) (L' := #[true, true, true, false, true, true, false, false, false, true, true, false, false, false]) rfl (EStep.le (x_estep_call (f := 77) (caps := []) (xs := [.ref 1000000 0, vi 8]) (pre := []) (post := [vi 8]) (qs := [vi 8]) (z := .ref 1000000 0) (d := 1000000) (pl := 0) (y := .box [vl (eI .u8) x2.2.code, vi x2.2.at', vi x2.2.seed]) (y' := .box [vl (eI .u8) x7.2.code, vi x7.2.at', vi x7.2.seed]) (res := ⟨[.v (vi x7.1)], [(0, .box [vl (eI .u8) x7.2.code, vi x7.2.at', vi x7.2.seed])], false⟩) (x := vi x7.1) (yo := none) rfl rfl rfl rfl rfl ents77 (spec_l01Next_run x2.2 8 _ hx7) rfl rfl false (fun _ => rfl) (by intro hc; cases hc)) Le.sub0) (by kernel_rfl) d11, (List.forall_mem_cons.2 ⟨DEs.mk (i := 11) (L' := #[true, true, true, false, true, false, false, false, false, true, true, true, false, false]) rfl (EStep.le (EStep.ofL (x_sub (ti := ti9) hx10 tbok rfl) (by kernel_rfl)) Le.sub0) (by kernel_rfl) d12, (fun _ h => absurd h List.not_mem_nil)⟩)⟩)⟩)
  refine DE.share (fuel := 9) (L := #[true, true, false, false, true, false, false, false, false, true, true, false, false, false]) (σ := ⟨48, [(20, vs aT), (21, vi x1.1), (24, .ref 1000000 0), (29, vs aT), (30, vi x1.1)], [(1000000, .box [vl (eI .u8) x2.2.code, vi x2.2.at', vi x2.2.seed])]⟩) ?_ (fun d5 => ?_)
  exact DE.all [2, 3, 5, 11] (by kernel_rfl) (by simp) (List.forall_mem_cons.2 ⟨DEs.mk (i := 2) (L' := #[true, true, true, false, true, false, false, false, false, true, true, false, false, false]) rfl (EStep.le (EStep.ofL (x_sub (ti := ti9) hx6 tbok rfl) (by kernel_rfl)) Le.sub0) (by kernel_rfl) d6, (List.forall_mem_cons.2 ⟨DEs.mk (i := 3) (L' := #[true, true, false, true, true, false, false, false, false, true, true, false, false, false]) rfl (EStep.le (EStep.ofN2 tbok (σ' := ⟨48, [(23, .own 23), (20, vs aT), (21, vi x1.1), (24, .ref 1000000 0), (29, vs aT), (30, vi x1.1)], [(23, .arr 9 1 ([(ByteArray.mk #[48]), (ByteArray.mk #[35]), (ByteArray.mk #[46]), (ByteArray.mk #[47]), (ByteArray.mk #[32]), (ByteArray.mk #[97]), (ByteArray.mk #[45]), (ByteArray.mk #[10])] : List ByteArray).length (([(ByteArray.mk #[48]), (ByteArray.mk #[35]), (ByteArray.mk #[46]), (ByteArray.mk #[47]), (ByteArray.mk #[32]), (ByteArray.mk #[97]), (ByteArray.mk #[45]), (ByteArray.mk #[10])] : List ByteArray).map eS)), (1000000, .box [vl (eI .u8) x2.2.code, vi x2.2.at', vi x2.2.seed])]⟩) (by kernel_rfl)) Le.sub0) (by kernel_rfl) d7, (List.forall_mem_cons.2 ⟨DEs.mk (i := 5) (L' := #[true, true, false, false, true, true, false, false, false, true, true, false, false, false]) rfl (EStep.le (x_estep_call (f := 77) (caps := []) (xs := [.ref 1000000 0, vi 8]) (pre := []) (post := [vi 8]) (qs := [vi 8]) (z := .ref 1000000 0) (d := 1000000) (pl := 0) (y := .box [vl (eI .u8) x2.2.code, vi x2.2.at', vi x2.2.seed]) (y' := .box [vl (eI .u8) x7.2.code, vi x7.2.at', vi x7.2.seed]) (res := ⟨[.v (vi x7.1)], [(0, .box [vl (eI .u8) x7.2.code, vi x7.2.at', vi x7.2.seed])], false⟩) (x := vi x7.1) (yo := none) rfl rfl rfl rfl rfl ents77 (spec_l01Next_run x2.2 8 _ hx7) rfl rfl false (fun _ => rfl) (by intro hc; cases hc)) Le.sub0) (by kernel_rfl) d8, (List.forall_mem_cons.2 ⟨DEs.mk (i := 11) (L' := #[true, true, false, false, true, false, false, false, false, true, true, true, false, false]) rfl (EStep.le (EStep.ofL (x_sub (ti := ti9) hx10 tbok rfl) (by kernel_rfl)) Le.sub0) (by kernel_rfl) d9, (fun _ h => absurd h List.not_mem_nil)⟩)⟩)⟩)⟩)
  refine DE.share (fuel := 10) (L := #[true, true, false, false, true, false, false, false, false, true, false, false, false, false]) (σ := ⟨48, [(5, vi x1.1), (20, vs aT), (21, vi x1.1), (24, .ref 1000000 0), (29, vs aT)], [(1000000, .box [vl (eI .u8) x2.2.code, vi x2.2.at', vi x2.2.seed])]⟩) ?_ (fun d4 => ?_)
  exact DE.take (i := 10) (L' := #[true, true, false, false, true, false, false, false, false, true, true, false, false, false]) rfl (.inl rfl) rfl (by kernel_rfl) (by kernel_rfl) (by kernel_rfl) (EStep.le (EStep.ofN2 tbok (σ' := ⟨48, [(30, vi x1.1), (5, vi x1.1), (20, vs aT), (21, vi x1.1), (24, .ref 1000000 0), (29, vs aT)], [(1000000, .box [vl (eI .u8) x2.2.code, vi x2.2.at', vi x2.2.seed])]⟩) (by kernel_rfl)) Le.sub0) (by kernel_rfl) d5
  refine DE.share (fuel := 11) (L := #[true, true, false, false, true, false, false, false, false, false, false, false, false, false]) (σ := ⟨48, [(1, vs aT), (5, vi x1.1), (20, vs aT), (21, vi x1.1), (24, .ref 1000000 0)], [(1000000, .box [vl (eI .u8) x2.2.code, vi x2.2.at', vi x2.2.seed])]⟩) ?_ (fun d3 => ?_)
  exact DE.take (i := 9) (L' := #[true, true, false, false, true, false, false, false, false, true, false, false, false, false]) rfl (.inl rfl) rfl (by kernel_rfl) (by kernel_rfl) (by kernel_rfl) (EStep.le (EStep.ofN2 tbok (σ' := ⟨48, [(29, vs aT), (1, vs aT), (5, vi x1.1), (20, vs aT), (21, vi x1.1), (24, .ref 1000000 0)], [(1000000, .box [vl (eI .u8) x2.2.code, vi x2.2.at', vi x2.2.seed])]⟩) (by kernel_rfl)) Le.sub0) (by kernel_rfl) d4
  refine DE.share (fuel := 12) (L := #[true, true, false, false, false, false, false, false, false, false, false, false, false, false]) (σ := ⟨48, [(0, .ref 1000000 0), (1, vs aT), (5, vi x1.1), (20, vs aT), (21, vi x1.1)], [(1000000, .box [vl (eI .u8) x2.2.code, vi x2.2.at', vi x2.2.seed])]⟩) ?_ (fun d2 => ?_)
  exact DE.take (i := 4) (L' := #[true, true, false, false, true, false, false, false, false, false, false, false, false, false]) rfl (.inl rfl) rfl (by kernel_rfl) (by kernel_rfl) (by kernel_rfl) (EStep.le (EStep.ofN2 tbok (σ' := ⟨48, [(24, .ref 1000000 0), (0, .ref 1000000 0), (1, vs aT), (5, vi x1.1), (20, vs aT), (21, vi x1.1)], [(1000000, .box [vl (eI .u8) x2.2.code, vi x2.2.at', vi x2.2.seed])]⟩) (by kernel_rfl)) Le.sub0) (by kernel_rfl) d3
  refine DE.share (fuel := 13) (L := #[true, false, false, false, false, false, false, false, false, false, false, false, false, false]) (σ := ⟨48, [(0, .ref 1000000 0), (1, vs aT), (5, vi x1.1), (20, vs aT)], [(1000000, .box [vl (eI .u8) x2.2.code, vi x2.2.at', vi x2.2.seed])]⟩) ?_ (fun d1 => ?_)
  exact DE.take (i := 1) (L' := #[true, true, false, false, false, false, false, false, false, false, false, false, false, false]) rfl (.inl rfl) rfl (by kernel_rfl) (by kernel_rfl) (by kernel_rfl) (EStep.le (EStep.ofN2 tbok (σ' := ⟨48, [(21, vi x1.1), (0, .ref 1000000 0), (1, vs aT), (5, vi x1.1), (20, vs aT)], [(1000000, .box [vl (eI .u8) x2.2.code, vi x2.2.at', vi x2.2.seed])]⟩) (by kernel_rfl)) Le.sub0) (by kernel_rfl) d2
  exact DE.take (i := 0) (L' := #[true, false, false, false, false, false, false, false, false, false, false, false, false, false]) rfl (.inl rfl) rfl (by kernel_rfl) (by kernel_rfl) (by kernel_rfl) (EStep.le (EStep.ofN2 tbok (σ' := ⟨48, [(20, vs aT), (0, .ref 1000000 0), (1, vs aT), (5, vi x1.1), (12, vi x2.1), (18, vb (x2.1 == 1))], [(1000000, .box [vl (eI .u8) x2.2.code, vi x2.2.at', vi x2.2.seed])]⟩) (by kernel_rfl)) Le.sub0) (by kernel_rfl) d1
  refine nx_n ?_
  refine swp_ret ?_
  replace h := Option.some.inj h
  subst h
  exact q_br (q_rr (q_fr (fin_io (fin1 (by kernel_rfl) (finV rfl SV.flat_of (holds_t (by kernel_rfl)))) (y := .box [vl (eI .u8) x7.2.code, vi x7.2.at', vi x7.2.seed]) (by kernel_rfl) rfl (by kernel_rfl) (by kernel_rfl))))
  replace h := cond_f hb h
  refine swp_seq ?_
  refine swp_reg ?_
  refine SRun.ck tbok 2 ⟨48, [(1, vs aT), (5, vi x1.1), (33, vb (x2.1 == 2))], [(1000000, .box [vl (eI .u8) x2.2.code, vi x2.2.at', vi x2.2.seed])]⟩ ?_
  refine SRun.nil ?_
  refine nx_n ?_
  refine swp_cond (b := (x2.1 == 2)) (by kernel_rfl) (fun hb => ?_) (fun hb => ?_)
  replace h := cond_t hb h
  refine swp_seq ?_
  refine swp_reg ?_
  refine SRun.ck tbok 4 ⟨48, [(1, vs aT), (5, vi x1.1), (38, vb (decide (x1.1 < (aT.size : Int))))], [(1000000, .box [vl (eI .u8) x2.2.code, vi x2.2.at', vi x2.2.seed])]⟩ ?_
  refine SRun.nil ?_
  refine nx_n ?_
  refine swp_cond (b := (decide (x1.1 < (aT.size : Int)))) (by kernel_rfl) (fun hb => ?_) (fun hb => ?_)
  replace h := cond_t hb h
  refine swp_seq ?_
  refine swp_dr mixed ?_
  refine DGo.chunk' tbok 2 (σ' := ⟨48, [(40, vi x1.1), (39, vs aT), (1, vs aT), (5, vi x1.1), (38, vb (decide (x1.1 < (aT.size : Int))))], [(1000000, .box [vl (eI .u8) x2.2.code, vi x2.2.at', vi x2.2.seed])]⟩) (by kernel_rfl) ?_
  obtain ⟨x12, hx12, h⟩ := bind_some h
  refine DGo.step (x_sub (ti := ti9) hx12 tbok rfl) ?_
  refine DGo.chunk' tbok 3 (σ' := ⟨48, [(44, vi (w64 (x1.1 + 1))), (43, vi x1.1), (42, vs aT), (41, vs x12), (40, vi x1.1), (39, vs aT), (1, vs aT), (5, vi x1.1), (38, vb (decide (x1.1 < (aT.size : Int))))], [(1000000, .box [vl (eI .u8) x2.2.code, vi x2.2.at', vi x2.2.seed])]⟩) (by kernel_rfl) ?_
  obtain ⟨x13, hx13, h⟩ := bind_some h
  refine DGo.step (x_sub (ti := ti9) hx13 tbok rfl) ?_
  obtain ⟨x14, hx14, h⟩ := bind_some h
  refine DGo.step (x_cat hx14 rfl) ?_
  refine DGo.chunk' tbok 1 (σ' := ⟨48, [(4, vs x14), (46, vs x14), (45, vs x13), (44, vi (w64 (x1.1 + 1))), (43, vi x1.1), (42, vs aT), (41, vs x12), (40, vi x1.1), (39, vs aT), (1, vs aT), (5, vi x1.1), (38, vb (decide (x1.1 < (aT.size : Int))))], [(1000000, .box [vl (eI .u8) x2.2.code, vi x2.2.at', vi x2.2.seed])]⟩) (by kernel_rfl) ?_
  refine DGo.nil (by kernel_rfl) ?_
  refine nx_n ?_
  refine swp_ret ?_
  replace h := Option.some.inj h
  subst h
  exact q_br (q_rr (q_fr (fin_io (fin1 (by kernel_rfl) (finV rfl SV.flat_of (holds_t (by kernel_rfl)))) (y := .box [vl (eI .u8) x2.2.code, vi x2.2.at', vi x2.2.seed]) (by kernel_rfl) rfl (by kernel_rfl) (by kernel_rfl))))
  replace h := cond_f hb h
  refine swp_skip ?_
  replace h := Option.some.inj h
  subst h
  exact q_bn (q_l (Le.sub0))
  replace h := cond_f hb h
  refine swp_skip ?_
  replace h := Option.some.inj h
  subst h
  exact q_bn (q_l (Le.sub0))
  refine swp_seq ?_
  refine swp_reg ?_
  refine SRun.ck tbok 2 ⟨48, [(4, vs aT)], [(1000000, .box [vl (eI .u8) j3.code, vi j3.at', vi j3.seed])]⟩ ?_
  refine SRun.nil ?_
  refine nx_n ?_
  refine swp_ret ?_
  replace h := Option.some.inj h
  subst h
  exact q_fr (fin_io (fin1 (by kernel_rfl) (finV rfl SV.flat_of (holds_t (by kernel_rfl)))) (y := .box [vl (eI .u8) j3.code, vi j3.at', vi j3.seed]) (by kernel_rfl) rfl (by kernel_rfl) (by kernel_rfl))
theorem ents96 : Ents Tryd.prog 96 := ents_of Tryd.func96 (by kernel_rfl) rfl
noncomputable def spec_l01DrawPhrase (aS : l01Source) : Option (ByteArray × l01Source) :=
  ((spec_l01GoodPhrase aS).bind fun x1 => ((spec_l01Next x1.2 20).bind fun x2 => (((bif (x2.1 == 0) then ((spec_l01Damage x2.2 x1.1).bind fun x5 => some (.inr (x5.1, x5.2))) else (bif (x2.1 == 1) then ((spec_l01Next x2.2 5).bind fun x6 => ((at' ([(ByteArray.mk #[]), (ByteArray.mk #[97, 32, 32, 98]), (ByteArray.mk #[32, 97]), (ByteArray.mk #[97, 32, 98, 32, 99, 32, 100, 32, 101, 32, 102, 32, 103, 32, 104]), (ByteArray.mk #[97, 32, 98, 32, 99, 32, 100, 32, 101, 32, 102, 32, 103, 32, 104, 32, 105])] : List ByteArray) x6.1).bind fun x7 => some (.inr (x7, x6.2)))) else some (.inl x2.2)))).bind (Sum.elim (fun (j3 : l01Source) => some (x1.1, j3)) some))))
set_option maxRecDepth 100000 in
set_option maxHeartbeats 4000000 in
theorem spec_l01DrawPhrase_run (aS : l01Source) (r : ByteArray × l01Source) (h : spec_l01DrawPhrase aS = some r) : SCall Tryd.prog 75 [.o (.box [vl (eI .u8) aS.code, vi aS.at', vi aS.seed])] ⟨[.v (vs r.1)], [(0, .box [vl (eI .u8) r.2.code, vi r.2.at', vi r.2.seed])], false⟩ := by
  refine scall_in Tryd.func75 rfl [(.tmp 2)] rfl (fun r => ⟨[.v (vs r.1)], [(0, .box [vl (eI .u8) r.2.code, vi r.2.at', vi r.2.seed])], false⟩) (r := r) ?_
  unfold spec_l01DrawPhrase at h
  refine swp_seq ?_
  refine swp_reg ?_
  refine SRun.ck tbok 1 ⟨21, [(0, .ref 1000000 0)], [(1000000, .box [vl (eI .u8) aS.code, vi aS.at', vi aS.seed])]⟩ ?_
  refine SRun.nil ?_
  refine nx_n ?_
  refine swp_seq ?_
  refine swp_reg ?_
  refine SRun.ck tbok 1 ⟨21, [(0, .ref 1000000 0), (4, .ref 1000000 0)], [(1000000, .box [vl (eI .u8) aS.code, vi aS.at', vi aS.seed])]⟩ ?_
  obtain ⟨x1, hx1, h⟩ := bind_some h
  refine SRun.estep (x_estep_call (f := 95) (caps := []) (xs := [.ref 1000000 0]) (pre := []) (post := []) (qs := []) (z := .ref 1000000 0) (d := 1000000) (pl := 0) (y := .box [vl (eI .u8) aS.code, vi aS.at', vi aS.seed]) (y' := .box [vl (eI .u8) x1.2.code, vi x1.2.at', vi x1.2.seed]) (res := ⟨[.v (vs x1.1)], [(0, .box [vl (eI .u8) x1.2.code, vi x1.2.at', vi x1.2.seed])], false⟩) (x := vs x1.1) (yo := none) rfl rfl rfl rfl rfl ents95 (spec_l01GoodPhrase_run aS _ hx1) rfl rfl false (fun _ => rfl) (by intro hc; cases hc)) ?_
  refine SRun.ck tbok 1 ⟨21, [(0, .ref 1000000 0), (3, vs x1.1)], [(1000000, .box [vl (eI .u8) x1.2.code, vi x1.2.at', vi x1.2.seed])]⟩ ?_
  refine SRun.nil ?_
  refine nx_n ?_
  refine swp_seq ?_
  refine swp_seq ?_
  refine swp_reg ?_
  refine SRun.ck tbok 1 ⟨21, [(0, .ref 1000000 0), (3, vs x1.1), (6, .ref 1000000 0)], [(1000000, .box [vl (eI .u8) x1.2.code, vi x1.2.at', vi x1.2.seed])]⟩ ?_
  obtain ⟨x2, hx2, h⟩ := bind_some h
  refine SRun.estep (x_estep_call (f := 77) (caps := []) (xs := [.ref 1000000 0, vi 20]) (pre := []) (post := [vi 20]) (qs := [vi 20]) (z := .ref 1000000 0) (d := 1000000) (pl := 0) (y := .box [vl (eI .u8) x1.2.code, vi x1.2.at', vi x1.2.seed]) (y' := .box [vl (eI .u8) x2.2.code, vi x2.2.at', vi x2.2.seed]) (res := ⟨[.v (vi x2.1)], [(0, .box [vl (eI .u8) x2.2.code, vi x2.2.at', vi x2.2.seed])], false⟩) (x := vi x2.1) (yo := none) rfl rfl rfl rfl rfl ents77 (spec_l01Next_run x1.2 20 _ hx2) rfl rfl false (fun _ => rfl) (by intro hc; cases hc)) ?_
  refine SRun.nil ?_
  refine nx_n ?_
  refine swp_seqE (r := r) h (fun j3 => ⟨21, [(3, vs x1.1)], [(1000000, .box [vl (eI .u8) j3.code, vi j3.at', vi j3.seed])]⟩) (fun v4 h => ?_) (fun j3 h => ?_)
  refine swp_blk (a := v4) ?_
  refine swp_seq ?_
  refine swp_reg ?_
  refine SRun.ck tbok 2 ⟨21, [(0, .ref 1000000 0), (3, vs x1.1), (7, vi x2.1), (8, vb (x2.1 == 0))], [(1000000, .box [vl (eI .u8) x2.2.code, vi x2.2.at', vi x2.2.seed])]⟩ ?_
  refine SRun.nil ?_
  refine nx_n ?_
  refine swp_cond (b := (x2.1 == 0)) (by kernel_rfl) (fun hb => ?_) (fun hb => ?_)
  replace h := cond_t hb h
  refine swp_seq ?_
  refine swp_reg ?_
  refine SRun.ck tbok 2 ⟨21, [(10, .ref 1000000 0), (11, vs x1.1)], [(1000000, .box [vl (eI .u8) x2.2.code, vi x2.2.at', vi x2.2.seed])]⟩ ?_
  obtain ⟨x5, hx5, h⟩ := bind_some h
  refine SRun.estep (x_estep_call (f := 96) (caps := []) (xs := [.ref 1000000 0, vs x1.1]) (pre := []) (post := [vs x1.1]) (qs := [vs x1.1]) (z := .ref 1000000 0) (d := 1000000) (pl := 0) (y := .box [vl (eI .u8) x2.2.code, vi x2.2.at', vi x2.2.seed]) (y' := .box [vl (eI .u8) x5.2.code, vi x5.2.at', vi x5.2.seed]) (res := ⟨[.v (vs x5.1)], [(0, .box [vl (eI .u8) x5.2.code, vi x5.2.at', vi x5.2.seed])], false⟩) (x := vs x5.1) (yo := none) rfl rfl rfl rfl rfl ents96 (spec_l01Damage_run x2.2 x1.1 _ hx5) rfl rfl false (fun _ => rfl) (by intro hc; cases hc)) ?_
  refine SRun.ck tbok 1 ⟨21, [(2, vs x5.1)], [(1000000, .box [vl (eI .u8) x5.2.code, vi x5.2.at', vi x5.2.seed])]⟩ ?_
  refine SRun.nil ?_
  refine nx_n ?_
  refine swp_ret ?_
  replace h := Option.some.inj h
  subst h
  exact q_br (q_rr (q_fr (fin_io (fin1 (by kernel_rfl) (finV rfl SV.flat_of (holds_t (by kernel_rfl)))) (y := .box [vl (eI .u8) x5.2.code, vi x5.2.at', vi x5.2.seed]) (by kernel_rfl) rfl (by kernel_rfl) (by kernel_rfl))))
  replace h := cond_f hb h
  refine swp_seq ?_
  refine swp_reg ?_
  refine SRun.ck tbok 2 ⟨21, [(0, .ref 1000000 0), (3, vs x1.1), (13, vb (x2.1 == 1))], [(1000000, .box [vl (eI .u8) x2.2.code, vi x2.2.at', vi x2.2.seed])]⟩ ?_
  refine SRun.nil ?_
  refine nx_n ?_
  refine swp_cond (b := (x2.1 == 1)) (by kernel_rfl) (fun hb => ?_) (fun hb => ?_)
  replace h := cond_t hb h
  refine swp_seq ?_
  refine swp_reg ?_
  refine SRun.ck tbok 2 ⟨21, [(15, .own 15), (16, .ref 1000000 0)], [(15, .arr 9 1 ([(ByteArray.mk #[]), (ByteArray.mk #[97, 32, 32, 98]), (ByteArray.mk #[32, 97]), (ByteArray.mk #[97, 32, 98, 32, 99, 32, 100, 32, 101, 32, 102, 32, 103, 32, 104]), (ByteArray.mk #[97, 32, 98, 32, 99, 32, 100, 32, 101, 32, 102, 32, 103, 32, 104, 32, 105])] : List ByteArray).length (([(ByteArray.mk #[]), (ByteArray.mk #[97, 32, 32, 98]), (ByteArray.mk #[32, 97]), (ByteArray.mk #[97, 32, 98, 32, 99, 32, 100, 32, 101, 32, 102, 32, 103, 32, 104]), (ByteArray.mk #[97, 32, 98, 32, 99, 32, 100, 32, 101, 32, 102, 32, 103, 32, 104, 32, 105])] : List ByteArray).map eS)), (1000000, .box [vl (eI .u8) x2.2.code, vi x2.2.at', vi x2.2.seed])]⟩ ?_
  obtain ⟨x6, hx6, h⟩ := bind_some h
  refine SRun.estep (x_estep_call (f := 77) (caps := []) (xs := [.ref 1000000 0, vi 5]) (pre := []) (post := [vi 5]) (qs := [vi 5]) (z := .ref 1000000 0) (d := 1000000) (pl := 0) (y := .box [vl (eI .u8) x2.2.code, vi x2.2.at', vi x2.2.seed]) (y' := .box [vl (eI .u8) x6.2.code, vi x6.2.at', vi x6.2.seed]) (res := ⟨[.v (vi x6.1)], [(0, .box [vl (eI .u8) x6.2.code, vi x6.2.at', vi x6.2.seed])], false⟩) (x := vi x6.1) (yo := none) rfl rfl rfl rfl rfl ents77 (spec_l01Next_run x2.2 5 _ hx6) rfl rfl false (fun _ => rfl) (by intro hc; cases hc)) ?_
  obtain ⟨x7, hx7, h⟩ := bind_some h
  refine SRun.ls (x_index_own (d := 15) (L := ([(ByteArray.mk #[]), (ByteArray.mk #[97, 32, 32, 98]), (ByteArray.mk #[32, 97]), (ByteArray.mk #[97, 32, 98, 32, 99, 32, 100, 32, 101, 32, 102, 32, 103, 32, 104]), (ByteArray.mk #[97, 32, 98, 32, 99, 32, 100, 32, 101, 32, 102, 32, 103, 32, 104, 32, 105])] : List ByteArray)) (f := eS) (ti := ti86) (tj := ti9) (e := 9) (e' := 9) (m := 1) (k := .i64) tbok rfl hx7) ?_
  refine SRun.ls (x_load_own (d := 15) (m := 1) (j := 0) (L := ([(ByteArray.mk #[]), (ByteArray.mk #[97, 32, 32, 98]), (ByteArray.mk #[32, 97]), (ByteArray.mk #[97, 32, 98, 32, 99, 32, 100, 32, 101, 32, 102, 32, 103, 32, 104]), (ByteArray.mk #[97, 32, 98, 32, 99, 32, 100, 32, 101, 32, 102, 32, 103, 32, 104, 32, 105])] : List ByteArray)) (f := eS) (ti := ti9) (e := 9) (v := vs x7) tbok rfl hx7) ?_
  refine SRun.ck tbok 1 ⟨21, [(2, vs x7)], [(1000000, .box [vl (eI .u8) x6.2.code, vi x6.2.at', vi x6.2.seed])]⟩ ?_
  refine SRun.nil ?_
  refine nx_n ?_
  refine swp_ret ?_
  replace h := Option.some.inj h
  subst h
  exact q_br (q_rr (q_fr (fin_io (fin1 (by kernel_rfl) (finV rfl SV.flat_of (holds_t (by kernel_rfl)))) (y := .box [vl (eI .u8) x6.2.code, vi x6.2.at', vi x6.2.seed]) (by kernel_rfl) rfl (by kernel_rfl) (by kernel_rfl))))
  replace h := cond_f hb h
  refine swp_skip ?_
  replace h := Option.some.inj h
  subst h
  exact q_bn (q_l (Le.sub0))
  refine swp_seq ?_
  refine swp_reg ?_
  refine SRun.ck tbok 2 ⟨21, [(2, vs x1.1)], [(1000000, .box [vl (eI .u8) j3.code, vi j3.at', vi j3.seed])]⟩ ?_
  refine SRun.nil ?_
  refine nx_n ?_
  refine swp_ret ?_
  replace h := Option.some.inj h
  subst h
  exact q_fr (fin_io (fin1 (by kernel_rfl) (finV rfl SV.flat_of (holds_t (by kernel_rfl)))) (y := .box [vl (eI .u8) j3.code, vi j3.at', vi j3.seed]) (by kernel_rfl) rfl (by kernel_rfl) (by kernel_rfl))
theorem ents75 : Ents Tryd.prog 75 := ents_of Tryd.func75 (by kernel_rfl) rfl
noncomputable def spec_DrawMakeOp (aCode : (List Int)) : Option ((List Op) × Int × ByteArray × ByteArray) :=
  ((spec_l01From aCode).bind fun x1 => ((spec_l32Draw x1).bind fun x2 => ((spec_l01Pick x2.2 ([0, 1, 2, 3, 0, 1, 4, (-1)] : List Int)).bind fun x3 => ((spec_l01DrawWord x3.2).bind fun x4 => ((spec_l01DrawPhrase x4.2).bind fun x5 => some (x2.1, x3.1, x4.1, x5.1))))))
set_option maxRecDepth 100000 in
set_option maxHeartbeats 4000000 in
theorem spec_DrawMakeOp_run (aCode : (List Int)) (r : (List Op) × Int × ByteArray × ByteArray) (h : spec_DrawMakeOp aCode = some r) : SCall Tryd.prog 38 [.v (vl (eI .u8) aCode)] ⟨[.v (vl eOp r.1), .v (vi r.2.1), .v (vs r.2.2.1), .v (vs r.2.2.2)], [], true⟩ := by
  refine scall_in Tryd.func38 rfl [(.tmp 2), (.tmp 3), (.tmp 4), (.tmp 5)] rfl (fun r => ⟨[.v (vl eOp r.1), .v (vi r.2.1), .v (vs r.2.2.1), .v (vs r.2.2.2)], [], true⟩) (r := r) ?_
  unfold spec_DrawMakeOp at h
  refine swp_seq ?_
  refine swp_reg ?_
  refine SRun.ck tbok 4 ⟨22, [(0, vl (eI .u8) aCode)], []⟩ ?_
  refine SRun.nil ?_
  refine nx_n ?_
  refine swp_seq ?_
  refine swp_reg ?_
  refine SRun.ck tbok 1 ⟨22, [(9, vl (eI .u8) aCode)], []⟩ ?_
  obtain ⟨x1, hx1, h⟩ := bind_some h
  refine SRun.ls (x_lstep_call (f := 71) (caps := []) (xs := [vl (eI .u8) aCode]) (ys := [vl (eI .u8) aCode]) (res := ⟨[.box [vl (eI .u8) x1.code, vi x1.at', vi x1.seed]], [], true⟩) (x := .ref 10 0) (y := some (.box [vl (eI .u8) x1.code, vi x1.at', vi x1.seed])) rfl ents71 (spec_l01From_run aCode _ hx1) rfl (fun _ => rfl)) ?_
  refine SRun.ck tbok 1 ⟨22, [(6, .ref 10 0)], [(10, .box [vl (eI .u8) x1.code, vi x1.at', vi x1.seed])]⟩ ?_
  refine SRun.nil ?_
  refine nx_n ?_
  refine swp_seq ?_
  refine swp_reg ?_
  refine SRun.ck tbok 1 ⟨22, [(6, .ref 10 0), (11, .ref 10 0)], [(10, .box [vl (eI .u8) x1.code, vi x1.at', vi x1.seed])]⟩ ?_
  obtain ⟨x2, hx2, h⟩ := bind_some h
  refine SRun.estep (x_estep_call (f := 72) (caps := []) (xs := [.ref 10 0]) (pre := []) (post := []) (qs := []) (z := .ref 10 0) (d := 10) (pl := 0) (y := .box [vl (eI .u8) x1.code, vi x1.at', vi x1.seed]) (y' := .box [vl (eI .u8) x2.2.code, vi x2.2.at', vi x2.2.seed]) (res := ⟨[.v (vl eOp x2.1)], [(0, .box [vl (eI .u8) x2.2.code, vi x2.2.at', vi x2.2.seed])], true⟩) (x := vl eOp x2.1) (yo := none) rfl rfl rfl rfl rfl ents72 (spec_l32Draw_run x1 _ hx2) rfl rfl false (fun _ => rfl) (by intro hc; cases hc)) ?_
  refine SRun.ck tbok 1 ⟨22, [(6, .ref 10 0), (7, vl eOp x2.1)], [(10, .box [vl (eI .u8) x2.2.code, vi x2.2.at', vi x2.2.seed])]⟩ ?_
  refine SRun.nil ?_
  refine nx_n ?_
  refine swp_seq ?_
  refine swp_reg ?_
  refine SRun.ck tbok 2 ⟨22, [(6, .ref 10 0), (7, vl eOp x2.1), (13, .ref 10 0), (14, .own 14)], [(10, .box [vl (eI .u8) x2.2.code, vi x2.2.at', vi x2.2.seed]), (14, .arr 2 1 ([0, 1, 2, 3, 0, 1, 4, (-1)] : List Int).length (([0, 1, 2, 3, 0, 1, 4, (-1)] : List Int).map (eI .i64)))]⟩ ?_
  refine SRun.le (Le.frz' (d := 14) (e := 2) (m := 1) (n := ([0, 1, 2, 3, 0, 1, 4, (-1)] : List Int).length) (es := ([0, 1, 2, 3, 0, 1, 4, (-1)] : List Int).map (eI .i64)) (by kernel_rfl) (by kernel_rfl)) ?_
  obtain ⟨x3, hx3, h⟩ := bind_some h
  refine SRun.estep (x_estep_call (f := 73) (caps := []) (xs := [.ref 10 0, vl (eI .i64) ([0, 1, 2, 3, 0, 1, 4, (-1)] : List Int)]) (pre := []) (post := [vl (eI .i64) ([0, 1, 2, 3, 0, 1, 4, (-1)] : List Int)]) (qs := [vl (eI .i64) ([0, 1, 2, 3, 0, 1, 4, (-1)] : List Int)]) (z := .ref 10 0) (d := 10) (pl := 0) (y := .box [vl (eI .u8) x2.2.code, vi x2.2.at', vi x2.2.seed]) (y' := .box [vl (eI .u8) x3.2.code, vi x3.2.at', vi x3.2.seed]) (res := ⟨[.v (vi x3.1)], [(0, .box [vl (eI .u8) x3.2.code, vi x3.2.at', vi x3.2.seed])], false⟩) (x := vi x3.1) (yo := none) rfl rfl rfl rfl rfl ents73 (spec_l01Pick_run x2.2 ([0, 1, 2, 3, 0, 1, 4, (-1)] : List Int) _ hx3) rfl rfl false (fun _ => rfl) (by intro hc; cases hc)) ?_
  refine SRun.ck tbok 1 ⟨22, [(6, .ref 10 0), (7, vl eOp x2.1), (8, vi x3.1)], [(10, .box [vl (eI .u8) x3.2.code, vi x3.2.at', vi x3.2.seed])]⟩ ?_
  refine SRun.nil ?_
  refine nx_n ?_
  refine swp_seq ?_
  refine swp_reg ?_
  refine SRun.ck tbok 3 ⟨22, [(6, .ref 10 0), (16, vl eOp x2.1), (17, vi x3.1), (18, .ref 10 0)], [(10, .box [vl (eI .u8) x3.2.code, vi x3.2.at', vi x3.2.seed])]⟩ ?_
  obtain ⟨x4, hx4, h⟩ := bind_some h
  refine SRun.estep (x_estep_call (f := 74) (caps := []) (xs := [.ref 10 0]) (pre := []) (post := []) (qs := []) (z := .ref 10 0) (d := 10) (pl := 0) (y := .box [vl (eI .u8) x3.2.code, vi x3.2.at', vi x3.2.seed]) (y' := .box [vl (eI .u8) x4.2.code, vi x4.2.at', vi x4.2.seed]) (res := ⟨[.v (vs x4.1)], [(0, .box [vl (eI .u8) x4.2.code, vi x4.2.at', vi x4.2.seed])], false⟩) (x := vs x4.1) (yo := none) rfl rfl rfl rfl rfl ents74 (spec_l01DrawWord_run x3.2 _ hx4) rfl rfl false (fun _ => rfl) (by intro hc; cases hc)) ?_
  refine SRun.ck tbok 1 ⟨22, [(16, vl eOp x2.1), (17, vi x3.1), (19, vs x4.1), (20, .ref 10 0)], [(10, .box [vl (eI .u8) x4.2.code, vi x4.2.at', vi x4.2.seed])]⟩ ?_
  obtain ⟨x5, hx5, h⟩ := bind_some h
  refine SRun.estep (x_estep_call (f := 75) (caps := []) (xs := [.ref 10 0]) (pre := []) (post := []) (qs := []) (z := .ref 10 0) (d := 10) (pl := 0) (y := .box [vl (eI .u8) x4.2.code, vi x4.2.at', vi x4.2.seed]) (y' := .box [vl (eI .u8) x5.2.code, vi x5.2.at', vi x5.2.seed]) (res := ⟨[.v (vs x5.1)], [(0, .box [vl (eI .u8) x5.2.code, vi x5.2.at', vi x5.2.seed])], false⟩) (x := vs x5.1) (yo := none) rfl rfl rfl rfl rfl ents75 (spec_l01DrawPhrase_run x4.2 _ hx5) rfl rfl false (fun _ => rfl) (by intro hc; cases hc)) ?_
  refine SRun.ck tbok 4 ⟨22, [(2, vl eOp x2.1), (3, vi x3.1), (4, vs x4.1), (5, vs x5.1)], []⟩ ?_
  refine SRun.nil ?_
  refine nx_n ?_
  refine swp_ret ?_
  replace h := Option.some.inj h
  subst h
  exact q_fr (fin4 (by kernel_rfl) (finT rfl (holds_t (by kernel_rfl))) (finT rfl (holds_t (by kernel_rfl))) (finT rfl (holds_t (by kernel_rfl))) (finT rfl (holds_t (by kernel_rfl))))
theorem ents38 : Ents Tryd.prog 38 := ents_of Tryd.func38 (by kernel_rfl) rfl
noncomputable def impl_within (aX : Int) (aLow : Int) (aHigh : Int) : Option (Bool) :=
  some ((decide (aX ≥ aLow)) && (decide (aX ≤ aHigh)))
set_option maxRecDepth 100000 in
set_option maxHeartbeats 4000000 in
theorem impl_within_run (aX : Int) (aLow : Int) (aHigh : Int) (r : Bool) (h : impl_within aX aLow aHigh = some r) : SCall Tryd.prog 64 [.v (vi aX), .v (vi aLow), .v (vi aHigh)] ⟨[.v (vb r)], [], false⟩ := by
  refine scall_in Tryd.func64 rfl [(.tmp 6)] rfl (fun r => ⟨[.v (vb r)], [], false⟩) (r := r) ?_
  unfold impl_within at h
  refine swp_seq ?_
  refine swp_reg ?_
  refine SRun.ck tbok 1 ⟨15, [(0, vi aX), (1, vi aLow), (2, vi aHigh)], []⟩ ?_
  refine SRun.nil ?_
  refine nx_n ?_
  refine swp_seq ?_
  refine swp_regP ⟨15, [(6, vb ((decide (aX ≥ aLow)) && (decide (aX ≤ aHigh))))], []⟩ ?_ ?_
  refine SRun.ck tbok 4 ⟨15, [(0, vi aX), (2, vi aHigh), (10, vb (decide (aX ≥ aLow)))], []⟩ ?_
  generalize (decide (aX ≥ aLow)) = bb
  cases bb
  refine SRun.ck tbok 5 ⟨15, [(6, vb false)], []⟩ ?_
  exact SRun.nil (Le.sub0)
  refine SRun.ck tbok 5 ⟨15, [(6, vb (decide (aX ≤ aHigh)))], []⟩ ?_
  exact SRun.nil (Le.sub0)
  refine swp_ret ?_
  replace h := Option.some.inj h
  subst h
  exact q_fr (fin1 (by kernel_rfl) (finV rfl SV.flat_of (holds_t (by kernel_rfl))))
theorem ents64 : Ents Tryd.prog 64 := ents_of Tryd.func64 (by kernel_rfl) rfl
theorem strings_Trim_run (s c r : ByteArray) (h : strings_Trim s c = some r) : SCall Tryd.prog 103 [.v (.tr (.str s)), .v (.tr (.str c))] ⟨[.v (.tr (.str r))], [], false⟩ := trim_run Tryd.lays160 (by kernel_rfl) 103 rfl s c r h
theorem ents103 : Ents Tryd.prog 103 := ents_of Tryd.func103 (by kernel_rfl) rfl
noncomputable def impl_isSmall (aS : ByteArray) (aLeast : Int) (aMost : Int) : Option (Bool) :=
  ((((impl_within (aS.size : Int) aLeast aMost).bind fun x1 => (bif x1 then ((strings_Trim aS (ByteArray.mk #[97, 98, 99, 100, 101, 102, 103, 104, 105, 106, 107, 108, 109, 110, 111, 112, 113, 114, 115, 116, 117, 118, 119, 120, 121, 122])).bind fun x2 => some (x2.toList == (ByteArray.mk #[]).toList)) else some false))).bind fun (j3 : Bool) => some j3)
set_option maxRecDepth 100000 in
set_option maxHeartbeats 4000000 in
theorem impl_isSmall_run (aS : ByteArray) (aLeast : Int) (aMost : Int) (r : Bool) (h : impl_isSmall aS aLeast aMost = some r) : SCall Tryd.prog 98 [.v (vs aS), .v (vi aLeast), .v (vi aMost)] ⟨[.v (vb r)], [], false⟩ := by
  refine scall_in Tryd.func98 rfl [(.tmp 6)] rfl (fun r => ⟨[.v (vb r)], [], false⟩) (r := r) ?_
  unfold impl_isSmall at h
  refine swp_seq ?_
  refine swp_reg ?_
  refine SRun.ck tbok 1 ⟨17, [(0, vs aS), (1, vi aLeast), (2, vi aMost)], []⟩ ?_
  refine SRun.nil ?_
  refine nx_n ?_
  refine swp_seq ?_
  refine swp_regJ h (fun j3 => ⟨17, [(6, vb j3)], []⟩) (fun v4 h => ?_) (fun j3 h => ?_)
  refine SRun.ck tbok 4 ⟨17, [(0, vs aS), (8, vi (aS.size : Int)), (9, vi aLeast), (10, vi aMost)], []⟩ ?_
  obtain ⟨x1, hx1, h⟩ := bind_some h
  refine SRun.ls (x_lstep_call (f := 64) (caps := []) (xs := [vi (aS.size : Int), vi aLeast, vi aMost]) (ys := [vi (aS.size : Int), vi aLeast, vi aMost]) (res := ⟨[.v (vb x1)], [], false⟩) (x := vb x1) (y := none) rfl ents64 (impl_within_run (aS.size : Int) aLeast aMost _ hx1) rfl (by intro hc; cases hc)) ?_
  refine SRun.ck tbok 1 ⟨17, [(0, vs aS), (12, vb x1)], []⟩ ?_
  refine SRun.cut [(12, fun b => b)] (b := x1) (by kernel_rfl) (fun hb => ?_) (fun hb => ?_)
  replace h := cond_t hb h
  refine SRun.ck tbok 1 ⟨17, [(12, vb true), (13, vs aS)], []⟩ ?_
  obtain ⟨x2, hx2, h⟩ := bind_some h
  refine SRun.ls (x_lstep_call (f := 103) (caps := []) (xs := [vs aS, vs (ByteArray.mk #[97, 98, 99, 100, 101, 102, 103, 104, 105, 106, 107, 108, 109, 110, 111, 112, 113, 114, 115, 116, 117, 118, 119, 120, 121, 122])]) (ys := [vs aS, vs (ByteArray.mk #[97, 98, 99, 100, 101, 102, 103, 104, 105, 106, 107, 108, 109, 110, 111, 112, 113, 114, 115, 116, 117, 118, 119, 120, 121, 122])]) (res := ⟨[.v (vs x2)], [], false⟩) (x := vs x2) (y := none) rfl ents103 (strings_Trim_run aS (ByteArray.mk #[97, 98, 99, 100, 101, 102, 103, 104, 105, 106, 107, 108, 109, 110, 111, 112, 113, 114, 115, 116, 117, 118, 119, 120, 121, 122]) _ hx2) rfl (by intro hc; cases hc)) ?_
  refine SRun.ck tbok 3 ⟨17, [(6, vb (x2.toList == (ByteArray.mk #[]).toList))], []⟩ ?_
  refine SRun.nil ?_
  replace h := Option.some.inj h
  subst h
  exact Le.sub0
  replace h := cond_f hb h
  refine SRun.ck tbok 5 ⟨17, [(6, vb false)], []⟩ ?_
  refine SRun.nil ?_
  replace h := Option.some.inj h
  subst h
  exact Le.sub0
  refine swp_ret ?_
  replace h := Option.some.inj h
  subst h
  exact q_fr (fin1 (by kernel_rfl) (finV rfl SV.flat_of (holds_t (by kernel_rfl))))
theorem ents98 : Ents Tryd.prog 98 := ents_of Tryd.func98 (by kernel_rfl) rfl
noncomputable def impl_IsWord (aS : ByteArray) : Option (Bool) :=
  ((impl_isSmall aS 1 16).bind fun x1 => some x1)
set_option maxRecDepth 100000 in
set_option maxHeartbeats 4000000 in
theorem impl_IsWord_run (aS : ByteArray) (r : Bool) (h : impl_IsWord aS = some r) : SCall Tryd.prog 80 [.v (vs aS)] ⟨[.v (vb r)], [], false⟩ := by
  refine scall_in Tryd.func80 rfl [(.tmp 2)] rfl (fun r => ⟨[.v (vb r)], [], false⟩) (r := r) ?_
  unfold impl_IsWord at h
  refine swp_seq ?_
  refine swp_reg ?_
  refine SRun.ck tbok 1 ⟨5, [(0, vs aS)], []⟩ ?_
  refine SRun.nil ?_
  refine nx_n ?_
  refine swp_seq ?_
  refine swp_reg ?_
  refine SRun.ck tbok 1 ⟨5, [(3, vs aS)], []⟩ ?_
  obtain ⟨x1, hx1, h⟩ := bind_some h
  refine SRun.ls (x_lstep_call (f := 98) (caps := []) (xs := [vs aS, vi 1, vi 16]) (ys := [vs aS, vi 1, vi 16]) (res := ⟨[.v (vb x1)], [], false⟩) (x := vb x1) (y := none) rfl ents98 (impl_isSmall_run aS 1 16 _ hx1) rfl (by intro hc; cases hc)) ?_
  refine SRun.ck tbok 1 ⟨5, [(2, vb x1)], []⟩ ?_
  refine SRun.nil ?_
  refine nx_n ?_
  refine swp_ret ?_
  replace h := Option.some.inj h
  subst h
  exact q_fr (fin1 (by kernel_rfl) (finV rfl SV.flat_of (holds_t (by kernel_rfl))))
theorem ents80 : Ents Tryd.prog 80 := ents_of Tryd.func80 (by kernel_rfl) rfl
theorem strings_Split_run (s c : ByteArray) (r : List ByteArray) (h : strings_Split s c = some r) : SCall Tryd.prog 104 [.v (.tr (.str s)), .v (.tr (.str c))] ⟨[.own 9 1 r.length (r.map eS)], [], false⟩ := split_run Tryd.lays146 (by kernel_rfl) 104 9 rfl rfl s c r h
theorem ents104 : Ents Tryd.prog 104 := ents_of Tryd.func104 (by kernel_rfl) rfl
noncomputable def impl_wordsOf (aS : ByteArray) : Option ((List ByteArray)) :=
  ((strings_Split aS (ByteArray.mk #[32])).bind fun x1 => some x1)
set_option maxRecDepth 100000 in
set_option maxHeartbeats 4000000 in
theorem impl_wordsOf_run (aS : ByteArray) (r : (List ByteArray)) (h : impl_wordsOf aS = some r) : SCall Tryd.prog 99 [.v (vs aS)] ⟨[.own 9 1 r.length (r.map eS)], [], false⟩ := by
  refine scall_in Tryd.func99 rfl [(.tmp 2)] rfl (fun r => ⟨[.own 9 1 r.length (r.map eS)], [], false⟩) (r := r) ?_
  unfold impl_wordsOf at h
  refine swp_seq ?_
  refine swp_reg ?_
  refine SRun.ck tbok 1 ⟨5, [(0, vs aS)], []⟩ ?_
  refine SRun.nil ?_
  refine nx_n ?_
  refine swp_seq ?_
  refine swp_reg ?_
  refine SRun.ck tbok 1 ⟨5, [(3, vs aS)], []⟩ ?_
  obtain ⟨x1, hx1, h⟩ := bind_some h
  refine SRun.ls (x_lstep_call (f := 104) (caps := []) (xs := [vs aS, vs (ByteArray.mk #[32])]) (ys := [vs aS, vs (ByteArray.mk #[32])]) (res := ⟨[.own 9 1 x1.length (x1.map eS)], [], false⟩) (x := .own 4) (y := some (.arr 9 1 x1.length (x1.map eS))) rfl ents104 (strings_Split_run aS (ByteArray.mk #[32]) _ hx1) rfl (by intro hc; cases hc)) ?_
  refine SRun.ck tbok 1 ⟨5, [(2, .own 4)], [(4, .arr 9 1 x1.length (x1.map eS))]⟩ ?_
  refine SRun.nil ?_
  refine nx_n ?_
  refine swp_ret ?_
  replace h := Option.some.inj h
  subst h
  exact q_fr (fin1 (by kernel_rfl) (finO (d := 4) (holds_t (by kernel_rfl)) (by kernel_rfl) (flat_map eS_flat _) (by kernel_rfl)))
theorem ents99 : Ents Tryd.prog 99 := ents_of Tryd.func99 (by kernel_rfl) rfl
noncomputable def impl_areWords (aList : (List ByteArray)) : Option (Bool) :=
  (((forN (aList.length : Int) (fun (i3 : Int) (_ : Unit) => ((at' aList i3).bind fun x7 => ((impl_IsWord x7).bind fun x8 => (bif (!x8) then some (.inr (.inr false)) else some (.inl ()))))) (fun (_ : Unit) => .inl ()) 0 ())).bind (Sum.elim (fun (_ : Unit) => some true) some))
set_option maxRecDepth 100000 in
set_option maxHeartbeats 4000000 in
theorem impl_areWords_run (aList : (List ByteArray)) (r : Bool) (h : impl_areWords aList = some r) : SCall Tryd.prog 100 [.v (vl eS aList)] ⟨[.v (vb r)], [], false⟩ := by
  refine scall_in Tryd.func100 rfl [(.tmp 2)] rfl (fun r => ⟨[.v (vb r)], [], false⟩) (r := r) ?_
  unfold impl_areWords at h
  refine swp_seq ?_
  refine swp_reg ?_
  refine SRun.ck tbok 1 ⟨15, [(0, vl eS aList)], []⟩ ?_
  refine SRun.nil ?_
  refine nx_n ?_
  refine swp_seq ?_
  refine swp_seq ?_
  refine swp_reg ?_
  refine SRun.ck tbok 3 ⟨15, [(5, vl eS aList), (6, vi (aList.length : Int)), (7, vi 0)], []⟩ ?_
  refine SRun.nil ?_
  refine nx_n ?_
  refine swp_seqE (r := r) h (fun j1 => ⟨15, [], []⟩) (fun v2 h => ?_) (fun j1 h => ?_)
  refine swp_blk (a := v2) ?_
  refine swp_lpL (r := v2) (s := (0, ())) _ (fun s3 => ⟨15, [(5, vl eS aList), (6, vi (aList.length : Int)), (7, vi s3.1)], []⟩) _ (Le.sub0) h (fun s3 v4 h => ?_)
  refine swp_seq ?_
  refine swp_reg ?_
  refine SRun.ck tbok 1 ⟨15, [(5, vl eS aList), (6, vi (aList.length : Int)), (7, vi s3.1), (8, vb (decide (s3.1 < (aList.length : Int))))], []⟩ ?_
  refine SRun.nil ?_
  refine nx_n ?_
  refine swp_seq ?_
  refine swp_cond (b := (decide (s3.1 < (aList.length : Int)))) (by kernel_rfl) (fun hb => ?_) (fun hb => ?_)
  replace h := cond_t hb h
  refine swp_skip ?_
  refine nx_n ?_
  refine swp_seq ?_
  refine swp_seqL (r := v4) h (fun j5 => ⟨15, [(5, vl eS aList), (6, vi (aList.length : Int)), (7, vi s3.1)], []⟩) (fun v6 h => ?_) (fun j5 h => ?_)
  refine swp_blk (a := v6) ?_
  refine swp_seq ?_
  refine swp_reg ?_
  obtain ⟨x7, hx7, h⟩ := bind_some h
  refine SRun.ls (x_index (L := aList) (f := eS) (ti := ti86) (tj := ti9) (e := 9) (k := .i64) tbok rfl hx7) ?_
  refine SRun.ck tbok 2 ⟨15, [(4, vs x7), (5, vl eS aList), (6, vi (aList.length : Int)), (7, vi s3.1)], []⟩ ?_
  refine SRun.nil ?_
  refine nx_n ?_
  refine swp_seq ?_
  refine swp_reg ?_
  refine SRun.ck tbok 1 ⟨15, [(5, vl eS aList), (6, vi (aList.length : Int)), (7, vi s3.1), (11, vs x7)], []⟩ ?_
  obtain ⟨x8, hx8, h⟩ := bind_some h
  refine SRun.ls (x_lstep_call (f := 80) (caps := []) (xs := [vs x7]) (ys := [vs x7]) (res := ⟨[.v (vb x8)], [], false⟩) (x := vb x8) (y := none) rfl ents80 (impl_IsWord_run x7 _ hx8) rfl (by intro hc; cases hc)) ?_
  refine SRun.ck tbok 1 ⟨15, [(5, vl eS aList), (6, vi (aList.length : Int)), (7, vi s3.1), (13, vb (!x8))], []⟩ ?_
  refine SRun.nil ?_
  refine nx_n ?_
  refine swp_cond (b := (!x8)) (by kernel_rfl) (fun hb => ?_) (fun hb => ?_)
  replace h := cond_t hb h
  refine swp_seq ?_
  refine swp_reg ?_
  refine SRun.ck tbok 1 ⟨15, [(2, vb false)], []⟩ ?_
  refine SRun.nil ?_
  refine nx_n ?_
  refine swp_ret ?_
  replace h := Option.some.inj h
  subst h
  exact q_br (q_rr (q_rr (q_br (q_rr (q_fr (fin1 (by kernel_rfl) (finV rfl SV.flat_of (holds_t (by kernel_rfl)))))))))
  replace h := cond_f hb h
  refine swp_skip ?_
  replace h := Option.some.inj h
  subst h
  exact q_bn (q_l (Le.sub0))
  refine swp_reg ?_
  refine SRun.ck tbok 2 ⟨15, [(5, vl eS aList), (6, vi (aList.length : Int)), (7, vi (w64 (s3.1 + 1)))], []⟩ ?_
  refine SRun.nil ?_
  replace h := Option.some.inj h
  subst h
  exact q_l (Le.sub0)
  replace h := cond_f hb h
  refine swp_exit ?_
  replace h := Option.some.inj h
  subst h
  exact nx_e (q_re (q_bh (q_l (Le.sub0))))
  refine swp_seq ?_
  refine swp_reg ?_
  refine SRun.ck tbok 1 ⟨15, [(2, vb true)], []⟩ ?_
  refine SRun.nil ?_
  refine nx_n ?_
  refine swp_ret ?_
  replace h := Option.some.inj h
  subst h
  exact q_fr (fin1 (by kernel_rfl) (finV rfl SV.flat_of (holds_t (by kernel_rfl))))
theorem ents100 : Ents Tryd.prog 100 := ents_of Tryd.func100 (by kernel_rfl) rfl
noncomputable def impl_IsPhrase (aS : ByteArray) : Option (Bool) :=
  ((impl_wordsOf aS).bind fun x1 => (((bif (decide ((x1.length : Int) ≤ 8)) then ((impl_areWords x1).bind fun x2 => some x2) else some false)).bind fun (j3 : Bool) => some j3))
set_option maxRecDepth 100000 in
set_option maxHeartbeats 4000000 in
theorem impl_IsPhrase_run (aS : ByteArray) (r : Bool) (h : impl_IsPhrase aS = some r) : SCall Tryd.prog 81 [.v (vs aS)] ⟨[.v (vb r)], [], false⟩ := by
  refine scall_in Tryd.func81 rfl [(.tmp 2)] rfl (fun r => ⟨[.v (vb r)], [], false⟩) (r := r) ?_
  unfold impl_IsPhrase at h
  refine swp_seq ?_
  refine swp_reg ?_
  refine SRun.ck tbok 1 ⟨13, [(0, vs aS)], []⟩ ?_
  refine SRun.nil ?_
  refine nx_n ?_
  refine swp_seq ?_
  refine swp_reg ?_
  refine SRun.ck tbok 1 ⟨13, [(4, vs aS)], []⟩ ?_
  obtain ⟨x1, hx1, h⟩ := bind_some h
  refine SRun.ls (x_lstep_call (f := 99) (caps := []) (xs := [vs aS]) (ys := [vs aS]) (res := ⟨[.own 9 1 x1.length (x1.map eS)], [], false⟩) (x := .own 5) (y := some (.arr 9 1 x1.length (x1.map eS))) rfl ents99 (impl_wordsOf_run aS _ hx1) rfl (by intro hc; cases hc)) ?_
  refine SRun.ck tbok 1 ⟨13, [(3, .own 5)], [(5, .arr 9 1 x1.length (x1.map eS))]⟩ ?_
  refine SRun.nil ?_
  refine nx_n ?_
  refine swp_seq ?_
  refine swp_regJ h (fun j3 => ⟨13, [(2, vb j3)], []⟩) (fun v4 h => ?_) (fun j3 h => ?_)
  refine SRun.ck tbok 4 ⟨13, [(3, .own 5), (9, vb (decide ((x1.length : Int) ≤ 8)))], [(5, .arr 9 1 x1.length (x1.map eS))]⟩ ?_
  refine SRun.cut [(9, fun b => b)] (b := (decide ((x1.length : Int) ≤ 8))) (by kernel_rfl) (fun hb => ?_) (fun hb => ?_)
  replace h := cond_t hb h
  refine SRun.ck tbok 1 ⟨13, [(9, vb true), (10, .own 5)], [(5, .arr 9 1 x1.length (x1.map eS))]⟩ ?_
  obtain ⟨x2, hx2, h⟩ := bind_some h
  refine SRun.ls (x_lstep_call (f := 100) (caps := []) (xs := [.own 5]) (ys := [vl eS x1]) (res := ⟨[.v (vb x2)], [], false⟩) (x := vb x2) (y := none) rfl ents100 (impl_areWords_run x1 _ hx2) rfl (by intro hc; cases hc)) ?_
  refine SRun.ck tbok 2 ⟨13, [(2, vb x2)], []⟩ ?_
  refine SRun.nil ?_
  replace h := Option.some.inj h
  subst h
  exact Le.sub0
  replace h := cond_f hb h
  refine SRun.ck tbok 4 ⟨13, [(2, vb false)], []⟩ ?_
  refine SRun.nil ?_
  replace h := Option.some.inj h
  subst h
  exact Le.sub0
  refine swp_ret ?_
  replace h := Option.some.inj h
  subst h
  exact q_fr (fin1 (by kernel_rfl) (finV rfl SV.flat_of (holds_t (by kernel_rfl))))
theorem ents81 : Ents Tryd.prog 81 := ents_of Tryd.func81 (by kernel_rfl) rfl
noncomputable def impl_isVector_1 (aN : Int) : Option (Bool) :=
  some (decide (aN < 0))
set_option maxRecDepth 100000 in
set_option maxHeartbeats 4000000 in
theorem impl_isVector_1_run (aN : Int) (r : Bool) (h : impl_isVector_1 aN = some r) : SCall Tryd.prog 83 [.v (vi aN)] ⟨[.v (vb r)], [], false⟩ := by
  refine scall_in Tryd.func83 rfl [(.tmp 2)] rfl (fun r => ⟨[.v (vb r)], [], false⟩) (r := r) ?_
  unfold impl_isVector_1 at h
  refine swp_seq ?_
  refine swp_reg ?_
  refine SRun.ck tbok 1 ⟨5, [(0, vi aN)], []⟩ ?_
  refine SRun.nil ?_
  refine nx_n ?_
  refine swp_seq ?_
  refine swp_reg ?_
  refine SRun.ck tbok 3 ⟨5, [(2, vb (decide (aN < 0)))], []⟩ ?_
  refine SRun.nil ?_
  refine nx_n ?_
  refine swp_ret ?_
  replace h := Option.some.inj h
  subst h
  exact q_fr (fin1 (by kernel_rfl) (finV rfl SV.flat_of (holds_t (by kernel_rfl))))
theorem ents83 : Ents Tryd.prog 83 := ents_of Tryd.func83 (by kernel_rfl) rfl
noncomputable def slices_IndexFunc_int64_impl_isVector_1 (aS : (List Int)) : Option (Int) :=
  (((forN (aS.length : Int) (fun (i3 : Int) (_ : Unit) => ((at' aS i3).bind fun x7 => ((impl_isVector_1 x7).bind fun x8 => (bif x8 then some (.inr (.inr i3)) else some (.inl ()))))) (fun (_ : Unit) => .inl ()) 0 ())).bind (Sum.elim (fun (_ : Unit) => some (-1)) some))
set_option maxRecDepth 100000 in
set_option maxHeartbeats 4000000 in
theorem slices_IndexFunc_int64_impl_isVector_1_run (aS : (List Int)) (r : Int) (h : slices_IndexFunc_int64_impl_isVector_1 aS = some r) : SCall Tryd.prog 101 [.v (vl (eI .i64) aS), .v (.clo 83 [])] ⟨[.v (vi r)], [], false⟩ := by
  refine scall_in Tryd.func101 rfl [(.tmp 4)] rfl (fun r => ⟨[.v (vi r)], [], false⟩) (r := r) ?_
  unfold slices_IndexFunc_int64_impl_isVector_1 at h
  refine swp_seq ?_
  refine swp_reg ?_
  refine SRun.ck tbok 1 ⟨19, [(0, vl (eI .i64) aS), (1, .clo 83 [])], []⟩ ?_
  refine SRun.nil ?_
  refine nx_n ?_
  refine swp_seq ?_
  refine swp_seq ?_
  refine swp_reg ?_
  refine SRun.ck tbok 3 ⟨19, [(0, vl (eI .i64) aS), (1, .clo 83 []), (7, vi (aS.length : Int)), (8, vi 0)], []⟩ ?_
  refine SRun.nil ?_
  refine nx_n ?_
  refine swp_seqE (r := r) h (fun j1 => ⟨19, [], []⟩) (fun v2 h => ?_) (fun j1 h => ?_)
  refine swp_blk (a := v2) ?_
  refine swp_lpL (r := v2) (s := (0, ())) _ (fun s3 => ⟨19, [(0, vl (eI .i64) aS), (1, .clo 83 []), (7, vi (aS.length : Int)), (8, vi s3.1)], []⟩) _ (Le.sub0) h (fun s3 v4 h => ?_)
  refine swp_seq ?_
  refine swp_reg ?_
  refine SRun.ck tbok 1 ⟨19, [(0, vl (eI .i64) aS), (1, .clo 83 []), (7, vi (aS.length : Int)), (8, vi s3.1), (9, vb (decide (s3.1 < (aS.length : Int))))], []⟩ ?_
  refine SRun.nil ?_
  refine nx_n ?_
  refine swp_seq ?_
  refine swp_cond (b := (decide (s3.1 < (aS.length : Int)))) (by kernel_rfl) (fun hb => ?_) (fun hb => ?_)
  replace h := cond_t hb h
  refine swp_skip ?_
  refine nx_n ?_
  refine swp_seq ?_
  refine swp_seqL (r := v4) h (fun j5 => ⟨19, [(0, vl (eI .i64) aS), (1, .clo 83 []), (7, vi (aS.length : Int)), (8, vi s3.1)], []⟩) (fun v6 h => ?_) (fun j5 h => ?_)
  refine swp_blk (a := v6) ?_
  refine swp_seq ?_
  refine swp_reg ?_
  refine SRun.ck tbok 2 ⟨19, [(0, vl (eI .i64) aS), (1, .clo 83 []), (5, vi s3.1), (7, vi (aS.length : Int)), (8, vi s3.1)], []⟩ ?_
  refine SRun.nil ?_
  refine nx_n ?_
  refine swp_seq ?_
  refine swp_reg ?_
  refine SRun.ck tbok 3 ⟨19, [(0, vl (eI .i64) aS), (1, .clo 83 []), (5, vi s3.1), (7, vi (aS.length : Int)), (8, vi s3.1), (11, .clo 83 []), (12, vl (eI .i64) aS), (13, vi s3.1)], []⟩ ?_
  obtain ⟨x7, hx7, h⟩ := bind_some h
  refine SRun.ls (x_index (L := aS) (f := (eI .i64)) (ti := ti32) (tj := ti2) (e := 2) (k := .i64) tbok rfl hx7) ?_
  refine SRun.ck tbok 1 ⟨19, [(0, vl (eI .i64) aS), (1, .clo 83 []), (5, vi s3.1), (7, vi (aS.length : Int)), (8, vi s3.1), (11, .clo 83 []), (15, vi x7)], []⟩ ?_
  obtain ⟨x8, hx8, h⟩ := bind_some h
  refine SRun.ls (x_lstep_call (f := 83) (caps := []) (xs := [vi x7]) (ys := [vi x7]) (res := ⟨[.v (vb x8)], [], false⟩) (x := vb x8) (y := none) rfl ents83 (impl_isVector_1_run x7 _ hx8) rfl (by intro hc; cases hc)) ?_
  refine SRun.nil ?_
  refine nx_n ?_
  refine swp_cond (b := x8) (by kernel_rfl) (fun hb => ?_) (fun hb => ?_)
  replace h := cond_t hb h
  refine swp_seq ?_
  refine swp_reg ?_
  refine SRun.ck tbok 2 ⟨19, [(4, vi s3.1)], []⟩ ?_
  refine SRun.nil ?_
  refine nx_n ?_
  refine swp_ret ?_
  replace h := Option.some.inj h
  subst h
  exact q_br (q_rr (q_rr (q_br (q_rr (q_fr (fin1 (by kernel_rfl) (finV rfl SV.flat_of (holds_t (by kernel_rfl)))))))))
  replace h := cond_f hb h
  refine swp_skip ?_
  replace h := Option.some.inj h
  subst h
  exact q_bn (q_l (Le.sub0))
  refine swp_reg ?_
  refine SRun.ck tbok 2 ⟨19, [(0, vl (eI .i64) aS), (1, .clo 83 []), (7, vi (aS.length : Int)), (8, vi (w64 (s3.1 + 1)))], []⟩ ?_
  refine SRun.nil ?_
  replace h := Option.some.inj h
  subst h
  exact q_l (Le.sub0)
  replace h := cond_f hb h
  refine swp_exit ?_
  replace h := Option.some.inj h
  subst h
  exact nx_e (q_re (q_bh (q_l (Le.sub0))))
  refine swp_seq ?_
  refine swp_reg ?_
  refine SRun.ck tbok 1 ⟨19, [(4, vi (-1))], []⟩ ?_
  refine SRun.nil ?_
  refine nx_n ?_
  refine swp_ret ?_
  replace h := Option.some.inj h
  subst h
  exact q_fr (fin1 (by kernel_rfl) (finV rfl SV.flat_of (holds_t (by kernel_rfl))))
theorem ents101 : Ents Tryd.prog 101 := ents_of Tryd.func101 (by kernel_rfl) rfl
noncomputable def slices_ContainsFunc_int64_impl_isVector_1 (aS : (List Int)) : Option (Bool) :=
  ((slices_IndexFunc_int64_impl_isVector_1 aS).bind fun x1 => some (decide (x1 ≥ 0)))
set_option maxRecDepth 100000 in
set_option maxHeartbeats 4000000 in
theorem slices_ContainsFunc_int64_impl_isVector_1_run (aS : (List Int)) (r : Bool) (h : slices_ContainsFunc_int64_impl_isVector_1 aS = some r) : SCall Tryd.prog 82 [.v (vl (eI .i64) aS), .v (.clo 83 [])] ⟨[.v (vb r)], [], false⟩ := by
  refine scall_in Tryd.func82 rfl [(.tmp 4)] rfl (fun r => ⟨[.v (vb r)], [], false⟩) (r := r) ?_
  unfold slices_ContainsFunc_int64_impl_isVector_1 at h
  refine swp_seq ?_
  refine swp_reg ?_
  refine SRun.ck tbok 1 ⟨9, [(0, vl (eI .i64) aS), (1, .clo 83 [])], []⟩ ?_
  refine SRun.nil ?_
  refine nx_n ?_
  refine swp_seq ?_
  refine swp_reg ?_
  refine SRun.ck tbok 2 ⟨9, [(5, vl (eI .i64) aS), (6, .clo 83 [])], []⟩ ?_
  obtain ⟨x1, hx1, h⟩ := bind_some h
  refine SRun.ls (x_lstep_call (f := 101) (caps := []) (xs := [vl (eI .i64) aS, .clo 83 []]) (ys := [vl (eI .i64) aS, .clo 83 []]) (res := ⟨[.v (vi x1)], [], false⟩) (x := vi x1) (y := none) rfl ents101 (slices_IndexFunc_int64_impl_isVector_1_run aS _ hx1) rfl (by intro hc; cases hc)) ?_
  refine SRun.ck tbok 2 ⟨9, [(4, vb (decide (x1 ≥ 0)))], []⟩ ?_
  refine SRun.nil ?_
  refine nx_n ?_
  refine swp_ret ?_
  replace h := Option.some.inj h
  subst h
  exact q_fr (fin1 (by kernel_rfl) (finV rfl SV.flat_of (holds_t (by kernel_rfl))))
theorem ents82 : Ents Tryd.prog 82 := ents_of Tryd.func82 (by kernel_rfl) rfl
noncomputable def impl_isVector (aList : (List Int)) : Option (Bool) :=
  (((bif ((aList.length : Int) == 4) then ((slices_ContainsFunc_int64_impl_isVector_1 aList).bind fun x1 => some (!x1)) else some false)).bind fun (j2 : Bool) => some j2)
set_option maxRecDepth 100000 in
set_option maxHeartbeats 4000000 in
theorem impl_isVector_run (aList : (List Int)) (r : Bool) (h : impl_isVector aList = some r) : SCall Tryd.prog 58 [.v (vl (eI .i64) aList)] ⟨[.v (vb r)], [], false⟩ := by
  refine scall_in Tryd.func58 rfl [(.tmp 2)] rfl (fun r => ⟨[.v (vb r)], [], false⟩) (r := r) ?_
  unfold impl_isVector at h
  refine swp_seq ?_
  refine swp_reg ?_
  refine SRun.ck tbok 1 ⟨11, [(0, vl (eI .i64) aList)], []⟩ ?_
  refine SRun.nil ?_
  refine nx_n ?_
  refine swp_seq ?_
  refine swp_regJ h (fun j2 => ⟨11, [(2, vb j2)], []⟩) (fun v3 h => ?_) (fun j2 h => ?_)
  refine SRun.ck tbok 4 ⟨11, [(0, vl (eI .i64) aList), (6, vb ((aList.length : Int) == 4))], []⟩ ?_
  refine SRun.cut [(6, fun b => b)] (b := ((aList.length : Int) == 4)) (by kernel_rfl) (fun hb => ?_) (fun hb => ?_)
  replace h := cond_t hb h
  refine SRun.ck tbok 1 ⟨11, [(6, vb true), (7, vl (eI .i64) aList)], []⟩ ?_
  obtain ⟨x1, hx1, h⟩ := bind_some h
  refine SRun.ls (x_lstep_call (f := 82) (caps := []) (xs := [vl (eI .i64) aList, .clo 83 []]) (ys := [vl (eI .i64) aList, .clo 83 []]) (res := ⟨[.v (vb x1)], [], false⟩) (x := vb x1) (y := none) rfl ents82 (slices_ContainsFunc_int64_impl_isVector_1_run aList _ hx1) rfl (by intro hc; cases hc)) ?_
  refine SRun.ck tbok 3 ⟨11, [(2, vb (!x1))], []⟩ ?_
  refine SRun.nil ?_
  replace h := Option.some.inj h
  subst h
  exact Le.sub0
  replace h := cond_f hb h
  refine SRun.ck tbok 5 ⟨11, [(2, vb false)], []⟩ ?_
  refine SRun.nil ?_
  replace h := Option.some.inj h
  subst h
  exact Le.sub0
  refine swp_ret ?_
  replace h := Option.some.inj h
  subst h
  exact q_fr (fin1 (by kernel_rfl) (finV rfl SV.flat_of (holds_t (by kernel_rfl))))
theorem ents58 : Ents Tryd.prog 58 := ents_of Tryd.func58 (by kernel_rfl) rfl
end Go.Proofs.YthfcdicfcepfhaaDoor.Sh
