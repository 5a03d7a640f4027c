/- Typed functions and the calls that do what they say. -/
import Derived.Test.YtpohkmbkohjahaaGreatDoorGAp0
import Derived.Test.YtpohkmbkohjahaaGreatDoorKA
import Derived.Test.YtpohkmbkohjahaaGreatDoorKC
import Derived.Test.YtpohkmbkohjahaaGreatDoorKS
import Derived.Test.YtpohkmbkohjahaaGreatDoorSN
import Derived.Test.YtpohkmbkohjahaaGreatDoorSP
import Derived.Test.YtpohkmbkohjahaaGreatDoorH1
namespace Go.Proofs.YtpohkmbkohjahaaGreatDoor.Sh
open Go.RowKit
set_option maxRecDepth 100000
set_option maxHeartbeats 4000000
noncomputable def laws_heldNameS (aA : (List Name)) (aK : Int) : Option (Int) :=
  (((forN (aA.length : Int) (fun (i3 : Int) (s3 : Int) => ((at' aA i3).bind fun x7 => ((laws_markText s3).bind fun x8 => (bif (!(x7.Text.toList == x8.toList)) then some (.inr (.inr (-1))) else ((at' aA i3).bind fun x9 => ((laws_markText (w64 (s3 + 1))).bind fun x10 => (bif (!(x9.Language.toList == x10.toList)) then some (.inr (.inr (-1))) else ((at' aA i3).bind fun x11 => (bif (x11.Status != (w64 ((w64 (s3 + 1)) + 1))) then some (.inr (.inr (-1))) else ((at' aA i3).bind fun x12 => (bif (x12.Years.From != (w64 ((w64 ((w64 (s3 + 1)) + 1)) + 1))) then some (.inr (.inr (-1))) else ((at' aA i3).bind fun x13 => (bif (x13.Years.To != (w64 ((w64 ((w64 ((w64 (s3 + 1)) + 1)) + 1)) + 1))) then some (.inr (.inr (-1))) else some (.inl (w64 ((w64 ((w64 ((w64 ((w64 (s3 + 1)) + 1)) + 1)) + 1)) + 1)))))))))))))))) (fun (s3 : Int) => .inl s3) 0 aK)).bind (Sum.elim (fun (j1 : Int) => some j1) some))
theorem laws_heldNameS_run (aA : (List Name)) (aK : Int) (r : Int) (h : laws_heldNameS aA aK = some r) : SCall Tryz.prog 49 [.v (vl eName aA), .v (vi aK)] ⟨[.v (vi r)], [], false⟩ := by
  refine scall_in Tryz.func49 rfl [(.tmp 4)] rfl (fun r => ⟨[.v (vi r)], [], false⟩) (r := r) ?_
  unfold laws_heldNameS at h
  refine srk tbok ⟨62, [(0, vl eName aA), (1, vi aK)], []⟩ ?_
  refine swp_seq ?_
  refine srk tbok ⟨62, [(0, vl eName aA), (1, vi aK), (5, vi 0)], []⟩ ?_
  refine swp_seqE (r := r) h (fun j1 => ⟨62, [(1, vi j1)], []⟩) (fun v2 h => ?_) (fun j1 h => ?_)
  refine swp_blk (a := v2) ?_
  refine swp_lpL (r := v2) (s := (0, aK)) _ (fun s3 => ⟨62, [(0, vl eName aA), (1, vi s3.2), (5, vi s3.1)], []⟩) _ (Le.sub0) h (fun s3 v4 h => ?_)
  refine swp_seq ?_
  refine srk tbok ⟨62, [(0, vl eName aA), (1, vi s3.2), (5, vi s3.1), (9, vb (decide (s3.1 < (aA.length : Int))))], []⟩ ?_
  refine swp_cd h (fun h => ?_) fun h => ?_
  refine swp_skip ?_
  refine nx_n ?_
  refine swp_seq ?_
  refine swp_seqL (r := v4) h (fun j5 => ⟨62, [(0, vl eName aA), (1, vi j5), (5, vi s3.1)], []⟩) (fun v6 h => ?_) (fun j5 h => ?_)
  refine swp_blk (a := v6) ?_
  refine swp_seq ?_
  refine swp_seq ?_
  refine swp_dr mixed ?_
  refine DGo.ck tbok false 2 ⟨62, [(0, vl eName aA), (1, vi s3.2), (5, vi s3.1), (12, vl eName aA), (13, vi s3.1)], []⟩ ?_
  obtain ⟨x7, hx7, h⟩ := bind_some h
  refine DGo.step (x_index (L := aA) (f := eName) (ti := ti39) (tj := ti95) (e := 95) (k := .i64) tbok rfl hx7) ?_
  refine DGo.ck tbok false 3 ⟨62, [(0, vl eName aA), (1, vi s3.2), (5, vi s3.1), (16, vs x7.Text), (17, vi s3.2)], []⟩ ?_
  obtain ⟨x8, hx8, h⟩ := bind_some h
  refine DGo.step (xc ents47 (laws_markText_run s3.2 _ hx8)) ?_
  refine DGo.ck tbok false 1 ⟨62, [(0, vl eName aA), (1, vi s3.2), (5, vi s3.1), (19, vb (!(x7.Text.toList == x8.toList)))], []⟩ ?_
  refine DGo.nx ?_
  refine swp_cd h (fun h => ?_) fun h => ?_
  refine srk tbok ⟨62, [(4, vi (-1))], []⟩ ?_
  refine swp_ret ?_
  obtain rfl := inj h
  exact nx_r (q_br (q_rr (q_rr (q_br (q_rr (q_fr (f1 fv)))))))
  refine swp_skip ?_
  refine nx_n ?_
  refine srk tbok ⟨62, [(0, vl eName aA), (1, vi (w64 (s3.2 + 1))), (5, vi s3.1)], []⟩ ?_
  refine swp_seq ?_
  refine swp_seq ?_
  refine swp_dr mixed ?_
  refine DGo.ck tbok false 2 ⟨62, [(0, vl eName aA), (1, vi (w64 (s3.2 + 1))), (5, vi s3.1), (22, vl eName aA), (23, vi s3.1)], []⟩ ?_
  obtain ⟨x9, hx9, h⟩ := bind_some h
  refine DGo.step (x_index (L := aA) (f := eName) (ti := ti39) (tj := ti95) (e := 95) (k := .i64) tbok rfl hx9) ?_
  refine DGo.ck tbok false 3 ⟨62, [(0, vl eName aA), (1, vi (w64 (s3.2 + 1))), (5, vi s3.1), (26, vs x9.Language), (27, vi (w64 (s3.2 + 1)))], []⟩ ?_
  obtain ⟨x10, hx10, h⟩ := bind_some h
  refine DGo.step (xc ents47 (laws_markText_run (w64 (s3.2 + 1)) _ hx10)) ?_
  refine DGo.ck tbok false 1 ⟨62, [(0, vl eName aA), (1, vi (w64 (s3.2 + 1))), (5, vi s3.1), (29, vb (!(x9.Language.toList == x10.toList)))], []⟩ ?_
  refine DGo.nx ?_
  refine swp_cd h (fun h => ?_) fun h => ?_
  refine srk tbok ⟨62, [(4, vi (-1))], []⟩ ?_
  refine swp_ret ?_
  obtain rfl := inj h
  exact nx_r (q_br (q_rr (q_rr (q_br (q_rr (q_fr (f1 fv)))))))
  refine swp_skip ?_
  refine nx_n ?_
  refine srk tbok ⟨62, [(0, vl eName aA), (1, vi (w64 ((w64 (s3.2 + 1)) + 1))), (5, vi s3.1)], []⟩ ?_
  refine swp_seq ?_
  refine sr ?_
  refine SRun.ck tbok 2 ⟨62, [(0, vl eName aA), (1, vi (w64 ((w64 (s3.2 + 1)) + 1))), (5, vi s3.1), (32, vl eName aA), (33, vi s3.1)], []⟩ ?_
  obtain ⟨x11, hx11, h⟩ := bind_some h
  refine SRun.ls (x_index (L := aA) (f := eName) (ti := ti39) (tj := ti95) (e := 95) (k := .i64) tbok rfl hx11) ?_
  refine ckn tbok 4 ⟨62, [(0, vl eName aA), (1, vi (w64 ((w64 (s3.2 + 1)) + 1))), (5, vi s3.1), (38, vb (x11.Status != (w64 ((w64 (s3.2 + 1)) + 1))))], []⟩ ?_
  refine swp_cd h (fun h => ?_) fun h => ?_
  refine srk tbok ⟨62, [(4, vi (-1))], []⟩ ?_
  refine swp_ret ?_
  obtain rfl := inj h
  exact nx_r (q_br (q_rr (q_rr (q_br (q_rr (q_fr (f1 fv)))))))
  refine swp_skip ?_
  refine nx_n ?_
  refine srk tbok ⟨62, [(0, vl eName aA), (1, vi (w64 ((w64 ((w64 (s3.2 + 1)) + 1)) + 1))), (5, vi s3.1)], []⟩ ?_
  refine swp_seq ?_
  refine sr ?_
  refine SRun.ck tbok 2 ⟨62, [(0, vl eName aA), (1, vi (w64 ((w64 ((w64 (s3.2 + 1)) + 1)) + 1))), (5, vi s3.1), (41, vl eName aA), (42, vi s3.1)], []⟩ ?_
  obtain ⟨x12, hx12, h⟩ := bind_some h
  refine SRun.ls (x_index (L := aA) (f := eName) (ti := ti39) (tj := ti95) (e := 95) (k := .i64) tbok rfl hx12) ?_
  refine ckn tbok 5 ⟨62, [(0, vl eName aA), (1, vi (w64 ((w64 ((w64 (s3.2 + 1)) + 1)) + 1))), (5, vi s3.1), (48, vb (x12.Years.From != (w64 ((w64 ((w64 (s3.2 + 1)) + 1)) + 1))))], []⟩ ?_
  refine swp_cd h (fun h => ?_) fun h => ?_
  refine srk tbok ⟨62, [(4, vi (-1))], []⟩ ?_
  refine swp_ret ?_
  obtain rfl := inj h
  exact nx_r (q_br (q_rr (q_rr (q_br (q_rr (q_fr (f1 fv)))))))
  refine swp_skip ?_
  refine nx_n ?_
  refine srk tbok ⟨62, [(0, vl eName aA), (1, vi (w64 ((w64 ((w64 ((w64 (s3.2 + 1)) + 1)) + 1)) + 1))), (5, vi s3.1)], []⟩ ?_
  refine swp_seq ?_
  refine sr ?_
  refine SRun.ck tbok 2 ⟨62, [(0, vl eName aA), (1, vi (w64 ((w64 ((w64 ((w64 (s3.2 + 1)) + 1)) + 1)) + 1))), (5, vi s3.1), (51, vl eName aA), (52, vi s3.1)], []⟩ ?_
  obtain ⟨x13, hx13, h⟩ := bind_some h
  refine SRun.ls (x_index (L := aA) (f := eName) (ti := ti39) (tj := ti95) (e := 95) (k := .i64) tbok rfl hx13) ?_
  refine ckn tbok 5 ⟨62, [(0, vl eName aA), (1, vi (w64 ((w64 ((w64 ((w64 (s3.2 + 1)) + 1)) + 1)) + 1))), (5, vi s3.1), (58, vb (x13.Years.To != (w64 ((w64 ((w64 ((w64 (s3.2 + 1)) + 1)) + 1)) + 1))))], []⟩ ?_
  refine swp_cd h (fun h => ?_) fun h => ?_
  refine srk tbok ⟨62, [(4, vi (-1))], []⟩ ?_
  refine swp_ret ?_
  obtain rfl := inj h
  exact nx_r (q_br (q_rr (q_rr (q_br (q_rr (q_fr (f1 fv)))))))
  refine swp_skip ?_
  refine nx_n ?_
  refine swp_reg ?_
  refine SRun.ck tbok 3 ⟨62, [(0, vl eName aA), (1, vi (w64 ((w64 ((w64 ((w64 ((w64 (s3.2 + 1)) + 1)) + 1)) + 1)) + 1))), (5, vi s3.1)], []⟩ ?_
  refine SRun.nil ?_
  obtain rfl := inj h
  exact q_bn (q_l (Le.sub0))
  refine swp_reg ?_
  refine SRun.ck tbok 3 ⟨62, [(0, vl eName aA), (1, vi j5), (5, vi (w64 (s3.1 + 1)))], []⟩ ?_
  refine SRun.nil ?_
  obtain rfl := inj h
  exact q_l (Le.sub0)
  refine swp_exit ?_
  obtain rfl := inj h
  exact nx_e (q_re (q_bh (q_l (Le.sub0))))
  refine srk tbok ⟨62, [(4, vi j1)], []⟩ ?_
  refine swp_ret ?_
  obtain rfl := inj h
  exact q_fr (f1 fv)
theorem ents49 : Ents Tryz.prog 49 := ents_of Tryz.func49 (by kernel_rfl) rfl
noncomputable def laws_heldPlaceS (aA : (List Place)) (aK : Int) : Option (Int) :=
  (((forN (aA.length : Int) (fun (i3 : Int) (s3 : Int) => ((at' aA i3).bind fun x7 => ((laws_markText s3).bind fun x8 => (bif (!(x7.Code.toList == x8.toList)) then some (.inr (.inr (-1))) else ((at' aA i3).bind fun x9 => (bif (x9.Class != (w64 (s3 + 1))) then some (.inr (.inr (-1))) else ((at' aA i3).bind fun x10 => (bif (x10.Years.From != (w64 ((w64 (s3 + 1)) + 1))) then some (.inr (.inr (-1))) else ((at' aA i3).bind fun x11 => (bif (x11.Years.To != (w64 ((w64 ((w64 (s3 + 1)) + 1)) + 1))) then some (.inr (.inr (-1))) else ((at' aA i3).bind fun x12 => ((laws_heldNameS x12.Names (w64 ((w64 ((w64 ((w64 (s3 + 1)) + 1)) + 1)) + 1))).bind fun x13 => (bif (decide (x13 < 0)) then some (.inr (.inr (-1))) else some (.inl x13)))))))))))))) (fun (s3 : Int) => .inl s3) 0 aK)).bind (Sum.elim (fun (j1 : Int) => some j1) some))
theorem laws_heldPlaceS_run (aA : (List Place)) (aK : Int) (r : Int) (h : laws_heldPlaceS aA aK = some r) : SCall Tryz.prog 12 [.v (vl ePlace aA), .v (vi aK)] ⟨[.v (vi r)], [], false⟩ := by
  refine scall_in Tryz.func12 rfl [(.tmp 4)] rfl (fun r => ⟨[.v (vi r)], [], false⟩) (r := r) ?_
  unfold laws_heldPlaceS at h
  refine srk tbok ⟨61, [(0, vl ePlace aA), (1, vi aK)], []⟩ ?_
  refine swp_seq ?_
  refine srk tbok ⟨61, [(0, vl ePlace aA), (1, vi aK), (5, vi 0)], []⟩ ?_
  refine swp_seqE (r := r) h (fun j1 => ⟨61, [(1, vi j1)], []⟩) (fun v2 h => ?_) (fun j1 h => ?_)
  refine swp_blk (a := v2) ?_
  refine swp_lpL (r := v2) (s := (0, aK)) _ (fun s3 => ⟨61, [(0, vl ePlace aA), (1, vi s3.2), (5, vi s3.1)], []⟩) _ (Le.sub0) h (fun s3 v4 h => ?_)
  refine swp_seq ?_
  refine srk tbok ⟨61, [(0, vl ePlace aA), (1, vi s3.2), (5, vi s3.1), (9, vb (decide (s3.1 < (aA.length : Int))))], []⟩ ?_
  refine swp_cd h (fun h => ?_) fun h => ?_
  refine swp_skip ?_
  refine nx_n ?_
  refine swp_seq ?_
  refine swp_seqL (r := v4) h (fun j5 => ⟨61, [(0, vl ePlace aA), (1, vi j5), (5, vi s3.1)], []⟩) (fun v6 h => ?_) (fun j5 h => ?_)
  refine swp_blk (a := v6) ?_
  refine swp_seq ?_
  refine swp_seq ?_
  refine swp_dr mixed ?_
  refine DGo.ck tbok false 2 ⟨61, [(0, vl ePlace aA), (1, vi s3.2), (5, vi s3.1), (12, vl ePlace aA), (13, vi s3.1)], []⟩ ?_
  obtain ⟨x7, hx7, h⟩ := bind_some h
  refine DGo.step (x_index (L := aA) (f := ePlace) (ti := ti24) (tj := ti41) (e := 41) (k := .i64) tbok rfl hx7) ?_
  refine DGo.ck tbok false 3 ⟨61, [(0, vl ePlace aA), (1, vi s3.2), (5, vi s3.1), (16, vs x7.Code), (17, vi s3.2)], []⟩ ?_
  obtain ⟨x8, hx8, h⟩ := bind_some h
  refine DGo.step (xc ents47 (laws_markText_run s3.2 _ hx8)) ?_
  refine DGo.ck tbok false 1 ⟨61, [(0, vl ePlace aA), (1, vi s3.2), (5, vi s3.1), (19, vb (!(x7.Code.toList == x8.toList)))], []⟩ ?_
  refine DGo.nx ?_
  refine swp_cd h (fun h => ?_) fun h => ?_
  refine srk tbok ⟨61, [(4, vi (-1))], []⟩ ?_
  refine swp_ret ?_
  obtain rfl := inj h
  exact nx_r (q_br (q_rr (q_rr (q_br (q_rr (q_fr (f1 fv)))))))
  refine swp_skip ?_
  refine nx_n ?_
  refine srk tbok ⟨61, [(0, vl ePlace aA), (1, vi (w64 (s3.2 + 1))), (5, vi s3.1)], []⟩ ?_
  refine swp_seq ?_
  refine sr ?_
  refine SRun.ck tbok 2 ⟨61, [(0, vl ePlace aA), (1, vi (w64 (s3.2 + 1))), (5, vi s3.1), (22, vl ePlace aA), (23, vi s3.1)], []⟩ ?_
  obtain ⟨x9, hx9, h⟩ := bind_some h
  refine SRun.ls (x_index (L := aA) (f := ePlace) (ti := ti24) (tj := ti41) (e := 41) (k := .i64) tbok rfl hx9) ?_
  refine ckn tbok 4 ⟨61, [(0, vl ePlace aA), (1, vi (w64 (s3.2 + 1))), (5, vi s3.1), (28, vb (x9.Class != (w64 (s3.2 + 1))))], []⟩ ?_
  refine swp_cd h (fun h => ?_) fun h => ?_
  refine srk tbok ⟨61, [(4, vi (-1))], []⟩ ?_
  refine swp_ret ?_
  obtain rfl := inj h
  exact nx_r (q_br (q_rr (q_rr (q_br (q_rr (q_fr (f1 fv)))))))
  refine swp_skip ?_
  refine nx_n ?_
  refine srk tbok ⟨61, [(0, vl ePlace aA), (1, vi (w64 ((w64 (s3.2 + 1)) + 1))), (5, vi s3.1)], []⟩ ?_
  refine swp_seq ?_
  refine sr ?_
  refine SRun.ck tbok 2 ⟨61, [(0, vl ePlace aA), (1, vi (w64 ((w64 (s3.2 + 1)) + 1))), (5, vi s3.1), (31, vl ePlace aA), (32, vi s3.1)], []⟩ ?_
  obtain ⟨x10, hx10, h⟩ := bind_some h
  refine SRun.ls (x_index (L := aA) (f := ePlace) (ti := ti24) (tj := ti41) (e := 41) (k := .i64) tbok rfl hx10) ?_
  refine ckn tbok 5 ⟨61, [(0, vl ePlace aA), (1, vi (w64 ((w64 (s3.2 + 1)) + 1))), (5, vi s3.1), (38, vb (x10.Years.From != (w64 ((w64 (s3.2 + 1)) + 1))))], []⟩ ?_
  refine swp_cd h (fun h => ?_) fun h => ?_
  refine srk tbok ⟨61, [(4, vi (-1))], []⟩ ?_
  refine swp_ret ?_
  obtain rfl := inj h
  exact nx_r (q_br (q_rr (q_rr (q_br (q_rr (q_fr (f1 fv)))))))
  refine swp_skip ?_
  refine nx_n ?_
  refine srk tbok ⟨61, [(0, vl ePlace aA), (1, vi (w64 ((w64 ((w64 (s3.2 + 1)) + 1)) + 1))), (5, vi s3.1)], []⟩ ?_
  refine swp_seq ?_
  refine sr ?_
  refine SRun.ck tbok 2 ⟨61, [(0, vl ePlace aA), (1, vi (w64 ((w64 ((w64 (s3.2 + 1)) + 1)) + 1))), (5, vi s3.1), (41, vl ePlace aA), (42, vi s3.1)], []⟩ ?_
  obtain ⟨x11, hx11, h⟩ := bind_some h
  refine SRun.ls (x_index (L := aA) (f := ePlace) (ti := ti24) (tj := ti41) (e := 41) (k := .i64) tbok rfl hx11) ?_
  refine ckn tbok 5 ⟨61, [(0, vl ePlace aA), (1, vi (w64 ((w64 ((w64 (s3.2 + 1)) + 1)) + 1))), (5, vi s3.1), (48, vb (x11.Years.To != (w64 ((w64 ((w64 (s3.2 + 1)) + 1)) + 1))))], []⟩ ?_
  refine swp_cd h (fun h => ?_) fun h => ?_
  refine srk tbok ⟨61, [(4, vi (-1))], []⟩ ?_
  refine swp_ret ?_
  obtain rfl := inj h
  exact nx_r (q_br (q_rr (q_rr (q_br (q_rr (q_fr (f1 fv)))))))
  refine swp_skip ?_
  refine nx_n ?_
  refine srk tbok ⟨61, [(0, vl ePlace aA), (1, vi (w64 ((w64 ((w64 ((w64 (s3.2 + 1)) + 1)) + 1)) + 1))), (5, vi s3.1)], []⟩ ?_
  refine sr ?_
  refine SRun.ck tbok 2 ⟨61, [(0, vl ePlace aA), (1, vi (w64 ((w64 ((w64 ((w64 (s3.2 + 1)) + 1)) + 1)) + 1))), (5, vi s3.1), (51, vl ePlace aA), (52, vi s3.1)], []⟩ ?_
  obtain ⟨x12, hx12, h⟩ := bind_some h
  refine SRun.ls (x_index (L := aA) (f := ePlace) (ti := ti24) (tj := ti41) (e := 41) (k := .i64) tbok rfl hx12) ?_
  refine SRun.ck tbok 3 ⟨61, [(0, vl ePlace aA), (5, vi s3.1), (55, vl eName x12.Names), (56, vi (w64 ((w64 ((w64 ((w64 (s3.2 + 1)) + 1)) + 1)) + 1)))], []⟩ ?_
  obtain ⟨x13, hx13, h⟩ := bind_some h
  refine SRun.ls (xc ents49 (laws_heldNameS_run x12.Names (w64 ((w64 ((w64 ((w64 (s3.2 + 1)) + 1)) + 1)) + 1)) _ hx13)) ?_
  refine ckn tbok 1 ⟨61, [(0, vl ePlace aA), (1, vi x13), (5, vi s3.1)], []⟩ ?_
  refine srk tbok ⟨61, [(0, vl ePlace aA), (1, vi x13), (5, vi s3.1), (59, vb (decide (x13 < 0)))], []⟩ ?_
  refine swp_cd h (fun h => ?_) fun h => ?_
  refine srk tbok ⟨61, [(4, vi (-1))], []⟩ ?_
  refine swp_ret ?_
  obtain rfl := inj h
  exact q_br (q_rr (q_rr (q_br (q_rr (q_fr (f1 fv))))))
  refine swp_skip ?_
  obtain rfl := inj h
  exact q_bn (q_l (Le.sub0))
  refine swp_reg ?_
  refine SRun.ck tbok 3 ⟨61, [(0, vl ePlace aA), (1, vi j5), (5, vi (w64 (s3.1 + 1)))], []⟩ ?_
  refine SRun.nil ?_
  obtain rfl := inj h
  exact q_l (Le.sub0)
  refine swp_exit ?_
  obtain rfl := inj h
  exact nx_e (q_re (q_bh (q_l (Le.sub0))))
  refine srk tbok ⟨61, [(4, vi j1)], []⟩ ?_
  refine swp_ret ?_
  obtain rfl := inj h
  exact q_fr (f1 fv)
theorem ents12 : Ents Tryz.prog 12 := ents_of Tryz.func12 (by kernel_rfl) rfl
noncomputable def laws_FnExactEndPlace (aAList : (List Place)) (aACode : ByteArray) (aAYear : Int) : Option (Bool) :=
  (bif (decide ((aACode.size : Int) > 1048576)) then some true else ((laws_szPlaceS aAList 1048576).bind fun x1 => (bif (decide (x1 < 0)) then some true else ((laws_toPlaceS aAList).bind fun x2 => ((spec_EndPlace x2 aACode aAYear).bind fun x3 => ((laws_toPlaceS aAList).bind fun x4 => ((impl_EndPlace x4 aACode aAYear).bind fun x5 => ((((laws_eqPlaceS x5.1 x3.1).bind fun x6 => (bif (!x6) then some true else some (x5.2 != x3.2)))).bind fun (j7 : Bool) => (bif j7 then some false else ((laws_toPlaceS aAList).bind fun x9 => ((laws_eqPlaceS x4 x9).bind fun x10 => (bif (!x10) then some false else ((laws_markPlaceS x4 1).bind fun x11 => (((bif (decide (x11.1 < 0)) then some true else ((laws_eqPlaceS x5.1 x3.1).bind fun x12 => (bif (!x12) then some true else some (x5.2 != x3.2))))).bind fun (j13 : Bool) => (bif j13 then some false else ((laws_markPlaceS x5.1 1).bind fun x15 => ((laws_heldPlaceS x15.2 1).bind fun x16 => (bif (decide (x16 < 0)) then some false else (bif (x16 != x15.1) then some false else ((laws_toPlaceS aAList).bind fun x17 => ((impl_EndPlace x17 aACode aAYear).bind fun x18 => ((((laws_eqPlaceS x18.1 x3.1).bind fun x19 => (bif (!x19) then some true else some (x18.2 != x3.2)))).bind fun (j20 : Bool) => (bif j20 then some false else ((laws_heldPlaceS x15.2 1).bind fun x22 => (bif (decide (x22 < 0)) then some false else (bif (x22 != x15.1) then some false else some true))))))))))))))))))))))))))
theorem laws_FnExactEndPlace_run (aAList : (List Place)) (aACode : ByteArray) (aAYear : Int) (r : Bool) (h : laws_FnExactEndPlace aAList aACode aAYear = some r) : SCall Tryz.prog 3 [.v (vl ePlace aAList), .v (vs aACode), .v (vi aAYear)] ⟨[.v (vb r)], [], false⟩ := by
  refine scall_in Tryz.func3 rfl [(.tmp 6)] rfl (fun r => ⟨[.v (vb r)], [], false⟩) (r := r) ?_
  unfold laws_FnExactEndPlace at h
  refine srk tbok ⟨109, [(0, vl ePlace aAList), (1, vs aACode), (2, vi aAYear)], []⟩ ?_
  refine swp_seq ?_
  refine srk tbok ⟨109, [(0, vl ePlace aAList), (1, vs aACode), (2, vi aAYear), (20, vb (decide ((aACode.size : Int) > 1048576)))], []⟩ ?_
  refine swp_cd h (fun h => ?_) fun h => ?_
  refine srk tbok ⟨109, [(6, vb true)], []⟩ ?_
  refine swp_ret ?_
  obtain rfl := inj h
  exact nx_r (q_fr (f1 fv))
  refine swp_skip ?_
  refine nx_n ?_
  refine srk tbok ⟨109, [(0, vl ePlace aAList), (1, vs aACode), (2, vi aAYear), (7, vi 1048576)], []⟩ ?_
  refine sr ?_
  refine SRun.ck tbok 2 ⟨109, [(0, vl ePlace aAList), (1, vs aACode), (2, vi aAYear), (21, vl ePlace aAList), (22, vi 1048576)], []⟩ ?_
  obtain ⟨x1, hx1, h⟩ := bind_some h
  refine SRun.ls (xc ents6 (laws_szPlaceS_run aAList 1048576 _ hx1)) ?_
  refine ckn tbok 1 ⟨109, [(0, vl ePlace aAList), (1, vs aACode), (2, vi aAYear), (7, vi x1)], []⟩ ?_
  refine swp_seq ?_
  refine srk tbok ⟨109, [(0, vl ePlace aAList), (1, vs aACode), (2, vi aAYear), (25, vb (decide (x1 < 0)))], []⟩ ?_
  refine swp_cd h (fun h => ?_) fun h => ?_
  refine srk tbok ⟨109, [(6, vb true)], []⟩ ?_
  refine swp_ret ?_
  obtain rfl := inj h
  exact nx_r (q_fr (f1 fv))
  refine swp_skip ?_
  refine nx_n ?_
  refine sr ?_
  refine SRun.ck tbok 1 ⟨109, [(0, vl ePlace aAList), (1, vs aACode), (2, vi aAYear), (27, vl ePlace aAList)], []⟩ ?_
  obtain ⟨x2, hx2, h⟩ := bind_some h
  refine SRun.ls (xc ents8 (laws_toPlaceS_run aAList _ hx2)) ?_
  refine SRun.ck tbok 2 ⟨109, [(0, vl ePlace aAList), (1, vs aACode), (2, vi aAYear), (28, .own 28), (29, vs aACode), (30, vi aAYear)], [(28, .deep 41 5 x2.length [.flat, .flat, .flat, .flat, (.sl 95 5 [.flat, .flat, .flat, .flat, .flat])] (x2.map ePlace))]⟩ ?_
  obtain ⟨x3, hx3, h⟩ := bind_some h
  refine SRun.ls (xc ents7 (spec_EndPlace_run x2 aACode aAYear _ hx3)) ?_
  refine ckn tbok 5 ⟨109, [(0, vl ePlace aAList), (1, vs aACode), (2, vi aAYear), (8, .own 31), (9, vi x3.2)], [(31, .deep 41 5 x3.1.length [.flat, .flat, .flat, .flat, (.sl 95 5 [.flat, .flat, .flat, .flat, .flat])] (x3.1.map ePlace))]⟩ ?_
  refine sr ?_
  refine SRun.ck tbok 1 ⟨109, [(0, vl ePlace aAList), (1, vs aACode), (2, vi aAYear), (8, .own 31), (9, vi x3.2), (34, vl ePlace aAList)], [(31, .deep 41 5 x3.1.length [.flat, .flat, .flat, .flat, (.sl 95 5 [.flat, .flat, .flat, .flat, .flat])] (x3.1.map ePlace))]⟩ ?_
  obtain ⟨x4, hx4, h⟩ := bind_some h
  refine SRun.ls (xc ents8 (laws_toPlaceS_run aAList _ hx4)) ?_
  refine ckn tbok 1 ⟨109, [(0, vl ePlace aAList), (1, vs aACode), (2, vi aAYear), (8, .own 31), (9, vi x3.2), (10, .own 35)], [(31, .deep 41 5 x3.1.length [.flat, .flat, .flat, .flat, (.sl 95 5 [.flat, .flat, .flat, .flat, .flat])] (x3.1.map ePlace)), (35, .deep 41 5 x4.length [.flat, .flat, .flat, .flat, (.sl 95 5 [.flat, .flat, .flat, .flat, .flat])] (x4.map ePlace))]⟩ ?_
  refine sr ?_
  refine SRun.ck tbok 3 ⟨109, [(0, vl ePlace aAList), (1, vs aACode), (2, vi aAYear), (8, .own 31), (9, vi x3.2), (10, .own 35), (37, .own 35), (38, vs aACode), (39, vi aAYear)], [(31, .deep 41 5 x3.1.length [.flat, .flat, .flat, .flat, (.sl 95 5 [.flat, .flat, .flat, .flat, .flat])] (x3.1.map ePlace)), (35, .deep 41 5 x4.length [.flat, .flat, .flat, .flat, (.sl 95 5 [.flat, .flat, .flat, .flat, .flat])] (x4.map ePlace))]⟩ ?_
  obtain ⟨x5, hx5, h⟩ := bind_some h
  refine SRun.ls (xc ents9 (impl_EndPlace_run x4 aACode aAYear _ hx5)) ?_
  refine ckn tbok 5 ⟨109, [(0, vl ePlace aAList), (1, vs aACode), (2, vi aAYear), (8, .own 31), (9, vi x3.2), (10, .own 35), (11, .own 40), (12, vi x5.2)], [(31, .deep 41 5 x3.1.length [.flat, .flat, .flat, .flat, (.sl 95 5 [.flat, .flat, .flat, .flat, .flat])] (x3.1.map ePlace)), (35, .deep 41 5 x4.length [.flat, .flat, .flat, .flat, (.sl 95 5 [.flat, .flat, .flat, .flat, .flat])] (x4.map ePlace)), (40, .deep 41 5 x5.1.length [.flat, .flat, .flat, .flat, (.sl 95 5 [.flat, .flat, .flat, .flat, .flat])] (x5.1.map ePlace))]⟩ ?_
  refine swp_seq ?_
  refine swp_seq ?_
  refine swp_regJ h (fun j7 => ⟨109, [(0, vl ePlace aAList), (1, vs aACode), (2, vi aAYear), (8, .own 8), (9, vi x3.2), (10, .own 10), (11, .own 11), (12, vi x5.2), (51, vb j7)], [(8, .deep 41 5 x3.1.length [.flat, .flat, .flat, .flat, (.sl 95 5 [.flat, .flat, .flat, .flat, .flat])] (x3.1.map ePlace)), (10, .deep 41 5 x4.length [.flat, .flat, .flat, .flat, (.sl 95 5 [.flat, .flat, .flat, .flat, .flat])] (x4.map ePlace)), (11, .deep 41 5 x5.1.length [.flat, .flat, .flat, .flat, (.sl 95 5 [.flat, .flat, .flat, .flat, .flat])] (x5.1.map ePlace))]⟩) (fun v8 h => ?_) (fun j7 h => ?_)
  refine SRun.ck tbok 2 ⟨109, [(0, vl ePlace aAList), (1, vs aACode), (2, vi aAYear), (8, .own 31), (9, vi x3.2), (10, .own 35), (11, .own 40), (12, vi x5.2), (43, .own 40), (44, .own 31)], [(31, .deep 41 5 x3.1.length [.flat, .flat, .flat, .flat, (.sl 95 5 [.flat, .flat, .flat, .flat, .flat])] (x3.1.map ePlace)), (35, .deep 41 5 x4.length [.flat, .flat, .flat, .flat, (.sl 95 5 [.flat, .flat, .flat, .flat, .flat])] (x4.map ePlace)), (40, .deep 41 5 x5.1.length [.flat, .flat, .flat, .flat, (.sl 95 5 [.flat, .flat, .flat, .flat, .flat])] (x5.1.map ePlace))]⟩ ?_
  obtain ⟨x6, hx6, h⟩ := bind_some h
  refine SRun.ls (xc ents10 (laws_eqPlaceS_run x5.1 x3.1 _ hx6)) ?_
  refine SRun.ck tbok 2 ⟨109, [(0, vl ePlace aAList), (1, vs aACode), (2, vi aAYear), (8, .own 31), (9, vi x3.2), (10, .own 35), (11, .own 40), (12, vi x5.2), (47, vb (!x6))], [(31, .deep 41 5 x3.1.length [.flat, .flat, .flat, .flat, (.sl 95 5 [.flat, .flat, .flat, .flat, .flat])] (x3.1.map ePlace)), (35, .deep 41 5 x4.length [.flat, .flat, .flat, .flat, (.sl 95 5 [.flat, .flat, .flat, .flat, .flat])] (x4.map ePlace)), (40, .deep 41 5 x5.1.length [.flat, .flat, .flat, .flat, (.sl 95 5 [.flat, .flat, .flat, .flat, .flat])] (x5.1.map ePlace))]⟩ ?_
  refine SRun.cu [(47, fun b => b)] h (fun h => ?_) fun h => ?_
  refine SRun.ck tbok 4 ⟨109, [(0, vl ePlace aAList), (1, vs aACode), (2, vi aAYear), (8, .own 31), (9, vi x3.2), (10, .own 35), (11, .own 40), (12, vi x5.2), (51, vb true)], [(31, .deep 41 5 x3.1.length [.flat, .flat, .flat, .flat, (.sl 95 5 [.flat, .flat, .flat, .flat, .flat])] (x3.1.map ePlace)), (35, .deep 41 5 x4.length [.flat, .flat, .flat, .flat, (.sl 95 5 [.flat, .flat, .flat, .flat, .flat])] (x4.map ePlace)), (40, .deep 41 5 x5.1.length [.flat, .flat, .flat, .flat, (.sl 95 5 [.flat, .flat, .flat, .flat, .flat])] (x5.1.map ePlace))]⟩ ?_
  refine SRun.nil ?_
  obtain rfl := inj h
  exact Le.rr [31, 35, 40] [(31, 8), (35, 10), (40, 11)]
  refine SRun.ck tbok 4 ⟨109, [(0, vl ePlace aAList), (1, vs aACode), (2, vi aAYear), (8, .own 31), (9, vi x3.2), (10, .own 35), (11, .own 40), (12, vi x5.2), (51, vb (x5.2 != x3.2))], [(31, .deep 41 5 x3.1.length [.flat, .flat, .flat, .flat, (.sl 95 5 [.flat, .flat, .flat, .flat, .flat])] (x3.1.map ePlace)), (35, .deep 41 5 x4.length [.flat, .flat, .flat, .flat, (.sl 95 5 [.flat, .flat, .flat, .flat, .flat])] (x4.map ePlace)), (40, .deep 41 5 x5.1.length [.flat, .flat, .flat, .flat, (.sl 95 5 [.flat, .flat, .flat, .flat, .flat])] (x5.1.map ePlace))]⟩ ?_
  refine SRun.nil ?_
  obtain rfl := inj h
  exact Le.rr [31, 35, 40] [(31, 8), (35, 10), (40, 11)]
  refine swp_cd h (fun h => ?_) fun h => ?_
  refine srk tbok ⟨109, [(6, vb false)], []⟩ ?_
  refine swp_ret ?_
  obtain rfl := inj h
  exact nx_r (q_fr (f1 fv))
  refine swp_skip ?_
  refine nx_n ?_
  refine swp_seq ?_
  refine sr ?_
  refine SRun.ck tbok 2 ⟨109, [(0, vl ePlace aAList), (1, vs aACode), (2, vi aAYear), (8, .own 8), (9, vi x3.2), (10, .own 10), (11, .own 11), (12, vi x5.2), (52, .own 10), (53, vl ePlace aAList)], [(8, .deep 41 5 x3.1.length [.flat, .flat, .flat, .flat, (.sl 95 5 [.flat, .flat, .flat, .flat, .flat])] (x3.1.map ePlace)), (10, .deep 41 5 x4.length [.flat, .flat, .flat, .flat, (.sl 95 5 [.flat, .flat, .flat, .flat, .flat])] (x4.map ePlace)), (11, .deep 41 5 x5.1.length [.flat, .flat, .flat, .flat, (.sl 95 5 [.flat, .flat, .flat, .flat, .flat])] (x5.1.map ePlace))]⟩ ?_
  obtain ⟨x9, hx9, h⟩ := bind_some h
  refine SRun.ls (xc ents8 (laws_toPlaceS_run aAList _ hx9)) ?_
  obtain ⟨x10, hx10, h⟩ := bind_some h
  refine SRun.ls (xc ents10 (laws_eqPlaceS_run x4 x9 _ hx10)) ?_
  refine ckn tbok 1 ⟨109, [(0, vl ePlace aAList), (1, vs aACode), (2, vi aAYear), (8, .own 8), (9, vi x3.2), (10, .own 10), (11, .own 11), (12, vi x5.2), (56, vb (!x10))], [(8, .deep 41 5 x3.1.length [.flat, .flat, .flat, .flat, (.sl 95 5 [.flat, .flat, .flat, .flat, .flat])] (x3.1.map ePlace)), (10, .deep 41 5 x4.length [.flat, .flat, .flat, .flat, (.sl 95 5 [.flat, .flat, .flat, .flat, .flat])] (x4.map ePlace)), (11, .deep 41 5 x5.1.length [.flat, .flat, .flat, .flat, (.sl 95 5 [.flat, .flat, .flat, .flat, .flat])] (x5.1.map ePlace))]⟩ ?_
  refine swp_cd h (fun h => ?_) fun h => ?_
  refine srk tbok ⟨109, [(6, vb false)], []⟩ ?_
  refine swp_ret ?_
  obtain rfl := inj h
  exact nx_r (q_fr (f1 fv))
  refine swp_skip ?_
  refine nx_n ?_
  refine srk tbok ⟨109, [(0, vl ePlace aAList), (1, vs aACode), (2, vi aAYear), (8, .own 8), (9, vi x3.2), (10, .own 10), (11, .own 11), (12, vi x5.2), (13, vi 1)], [(8, .deep 41 5 x3.1.length [.flat, .flat, .flat, .flat, (.sl 95 5 [.flat, .flat, .flat, .flat, .flat])] (x3.1.map ePlace)), (10, .deep 41 5 x4.length [.flat, .flat, .flat, .flat, (.sl 95 5 [.flat, .flat, .flat, .flat, .flat])] (x4.map ePlace)), (11, .deep 41 5 x5.1.length [.flat, .flat, .flat, .flat, (.sl 95 5 [.flat, .flat, .flat, .flat, .flat])] (x5.1.map ePlace))]⟩ ?_
  refine sr ?_
  refine SRun.ck tbok 2 ⟨109, [(0, vl ePlace aAList), (1, vs aACode), (2, vi aAYear), (8, .own 8), (9, vi x3.2), (11, .own 11), (12, vi x5.2), (57, .own 10), (58, vi 1)], [(8, .deep 41 5 x3.1.length [.flat, .flat, .flat, .flat, (.sl 95 5 [.flat, .flat, .flat, .flat, .flat])] (x3.1.map ePlace)), (10, .deep 41 5 x4.length [.flat, .flat, .flat, .flat, (.sl 95 5 [.flat, .flat, .flat, .flat, .flat])] (x4.map ePlace)), (11, .deep 41 5 x5.1.length [.flat, .flat, .flat, .flat, (.sl 95 5 [.flat, .flat, .flat, .flat, .flat])] (x5.1.map ePlace))]⟩ ?_
  obtain ⟨x11, hx11, h⟩ := bind_some h
  refine SRun.estep (xe ents11 (laws_markPlaceS_run x4 1 _ hx11)) ?_
  refine ckn tbok 1 ⟨109, [(0, vl ePlace aAList), (1, vs aACode), (2, vi aAYear), (8, .own 8), (9, vi x3.2), (11, .own 11), (12, vi x5.2), (13, vi x11.1)], [(8, .deep 41 5 x3.1.length [.flat, .flat, .flat, .flat, (.sl 95 5 [.flat, .flat, .flat, .flat, .flat])] (x3.1.map ePlace)), (11, .deep 41 5 x5.1.length [.flat, .flat, .flat, .flat, (.sl 95 5 [.flat, .flat, .flat, .flat, .flat])] (x5.1.map ePlace))]⟩ ?_
  refine swp_seq ?_
  refine swp_seq ?_
  refine swp_regJ h (fun j13 => ⟨109, [(0, vl ePlace aAList), (1, vs aACode), (2, vi aAYear), (8, .own 8), (9, vi x3.2), (11, .own 11), (72, vb j13)], [(8, .deep 41 5 x3.1.length [.flat, .flat, .flat, .flat, (.sl 95 5 [.flat, .flat, .flat, .flat, .flat])] (x3.1.map ePlace)), (11, .deep 41 5 x5.1.length [.flat, .flat, .flat, .flat, (.sl 95 5 [.flat, .flat, .flat, .flat, .flat])] (x5.1.map ePlace))]⟩) (fun v14 h => ?_) (fun j13 h => ?_)
  refine SRun.ck tbok 3 ⟨109, [(0, vl ePlace aAList), (1, vs aACode), (2, vi aAYear), (8, .own 8), (9, vi x3.2), (11, .own 11), (12, vi x5.2), (62, vb (decide (x11.1 < 0)))], [(8, .deep 41 5 x3.1.length [.flat, .flat, .flat, .flat, (.sl 95 5 [.flat, .flat, .flat, .flat, .flat])] (x3.1.map ePlace)), (11, .deep 41 5 x5.1.length [.flat, .flat, .flat, .flat, (.sl 95 5 [.flat, .flat, .flat, .flat, .flat])] (x5.1.map ePlace))]⟩ ?_
  refine SRun.cu [(62, fun b => b)] h (fun h => ?_) fun h => ?_
  refine SRun.ck tbok 10 ⟨109, [(0, vl ePlace aAList), (1, vs aACode), (2, vi aAYear), (8, .own 8), (9, vi x3.2), (11, .own 11), (72, vb true)], [(8, .deep 41 5 x3.1.length [.flat, .flat, .flat, .flat, (.sl 95 5 [.flat, .flat, .flat, .flat, .flat])] (x3.1.map ePlace)), (11, .deep 41 5 x5.1.length [.flat, .flat, .flat, .flat, (.sl 95 5 [.flat, .flat, .flat, .flat, .flat])] (x5.1.map ePlace))]⟩ ?_
  refine SRun.nil ?_
  obtain rfl := inj h
  exact Le.sub0
  refine SRun.ck tbok 2 ⟨109, [(0, vl ePlace aAList), (1, vs aACode), (2, vi aAYear), (8, .own 8), (9, vi x3.2), (11, .own 11), (12, vi x5.2), (62, vb false), (63, .own 11), (64, .own 8)], [(8, .deep 41 5 x3.1.length [.flat, .flat, .flat, .flat, (.sl 95 5 [.flat, .flat, .flat, .flat, .flat])] (x3.1.map ePlace)), (11, .deep 41 5 x5.1.length [.flat, .flat, .flat, .flat, (.sl 95 5 [.flat, .flat, .flat, .flat, .flat])] (x5.1.map ePlace))]⟩ ?_
  obtain ⟨x12, hx12, h⟩ := bind_some h
  refine SRun.ls (xc ents10 (laws_eqPlaceS_run x5.1 x3.1 _ hx12)) ?_
  refine SRun.ck tbok 3 ⟨109, [(0, vl ePlace aAList), (1, vs aACode), (2, vi aAYear), (8, .own 8), (9, vi x3.2), (11, .own 11), (12, vi x5.2), (68, vb (!x12))], [(8, .deep 41 5 x3.1.length [.flat, .flat, .flat, .flat, (.sl 95 5 [.flat, .flat, .flat, .flat, .flat])] (x3.1.map ePlace)), (11, .deep 41 5 x5.1.length [.flat, .flat, .flat, .flat, (.sl 95 5 [.flat, .flat, .flat, .flat, .flat])] (x5.1.map ePlace))]⟩ ?_
  refine SRun.cu [(68, fun b => b)] h (fun h => ?_) fun h => ?_
  refine SRun.ck tbok 4 ⟨109, [(0, vl ePlace aAList), (1, vs aACode), (2, vi aAYear), (8, .own 8), (9, vi x3.2), (11, .own 11), (72, vb true)], [(8, .deep 41 5 x3.1.length [.flat, .flat, .flat, .flat, (.sl 95 5 [.flat, .flat, .flat, .flat, .flat])] (x3.1.map ePlace)), (11, .deep 41 5 x5.1.length [.flat, .flat, .flat, .flat, (.sl 95 5 [.flat, .flat, .flat, .flat, .flat])] (x5.1.map ePlace))]⟩ ?_
  refine SRun.nil ?_
  obtain rfl := inj h
  exact Le.sub0
  refine SRun.ck tbok 4 ⟨109, [(0, vl ePlace aAList), (1, vs aACode), (2, vi aAYear), (8, .own 8), (9, vi x3.2), (11, .own 11), (72, vb (x5.2 != x3.2))], [(8, .deep 41 5 x3.1.length [.flat, .flat, .flat, .flat, (.sl 95 5 [.flat, .flat, .flat, .flat, .flat])] (x3.1.map ePlace)), (11, .deep 41 5 x5.1.length [.flat, .flat, .flat, .flat, (.sl 95 5 [.flat, .flat, .flat, .flat, .flat])] (x5.1.map ePlace))]⟩ ?_
  refine SRun.nil ?_
  obtain rfl := inj h
  exact Le.sub0
  refine swp_cd h (fun h => ?_) fun h => ?_
  refine srk tbok ⟨109, [(6, vb false)], []⟩ ?_
  refine swp_ret ?_
  obtain rfl := inj h
  exact nx_r (q_fr (f1 fv))
  refine swp_skip ?_
  refine nx_n ?_
  refine srk tbok ⟨109, [(0, vl ePlace aAList), (1, vs aACode), (2, vi aAYear), (8, .own 8), (9, vi x3.2), (11, .own 11), (14, vi 1)], [(8, .deep 41 5 x3.1.length [.flat, .flat, .flat, .flat, (.sl 95 5 [.flat, .flat, .flat, .flat, .flat])] (x3.1.map ePlace)), (11, .deep 41 5 x5.1.length [.flat, .flat, .flat, .flat, (.sl 95 5 [.flat, .flat, .flat, .flat, .flat])] (x5.1.map ePlace))]⟩ ?_
  refine sr ?_
  refine SRun.ck tbok 2 ⟨109, [(0, vl ePlace aAList), (1, vs aACode), (2, vi aAYear), (8, .own 8), (9, vi x3.2), (11, .own 11), (73, .own 11), (74, vi 1)], [(8, .deep 41 5 x3.1.length [.flat, .flat, .flat, .flat, (.sl 95 5 [.flat, .flat, .flat, .flat, .flat])] (x3.1.map ePlace)), (11, .deep 41 5 x5.1.length [.flat, .flat, .flat, .flat, (.sl 95 5 [.flat, .flat, .flat, .flat, .flat])] (x5.1.map ePlace))]⟩ ?_
  obtain ⟨x15, hx15, h⟩ := bind_some h
  refine SRun.estep (xe ents11 (laws_markPlaceS_run x5.1 1 _ hx15)) ?_
  refine ckn tbok 1 ⟨109, [(0, vl ePlace aAList), (1, vs aACode), (2, vi aAYear), (8, .own 8), (9, vi x3.2), (11, .own 11), (14, vi x15.1)], [(8, .deep 41 5 x3.1.length [.flat, .flat, .flat, .flat, (.sl 95 5 [.flat, .flat, .flat, .flat, .flat])] (x3.1.map ePlace)), (11, .deep 41 5 x15.2.length [.flat, .flat, .flat, .flat, (.sl 95 5 [.flat, .flat, .flat, .flat, .flat])] (x15.2.map ePlace))]⟩ ?_
  refine srk tbok ⟨109, [(0, vl ePlace aAList), (1, vs aACode), (2, vi aAYear), (8, .own 8), (9, vi x3.2), (11, .own 11), (14, vi x15.1), (15, vi 1)], [(8, .deep 41 5 x3.1.length [.flat, .flat, .flat, .flat, (.sl 95 5 [.flat, .flat, .flat, .flat, .flat])] (x3.1.map ePlace)), (11, .deep 41 5 x15.2.length [.flat, .flat, .flat, .flat, (.sl 95 5 [.flat, .flat, .flat, .flat, .flat])] (x15.2.map ePlace))]⟩ ?_
  refine sr ?_
  refine SRun.ck tbok 2 ⟨109, [(0, vl ePlace aAList), (1, vs aACode), (2, vi aAYear), (8, .own 8), (9, vi x3.2), (11, .own 11), (14, vi x15.1), (76, .own 11), (77, vi 1)], [(8, .deep 41 5 x3.1.length [.flat, .flat, .flat, .flat, (.sl 95 5 [.flat, .flat, .flat, .flat, .flat])] (x3.1.map ePlace)), (11, .deep 41 5 x15.2.length [.flat, .flat, .flat, .flat, (.sl 95 5 [.flat, .flat, .flat, .flat, .flat])] (x15.2.map ePlace))]⟩ ?_
  obtain ⟨x16, hx16, h⟩ := bind_some h
  refine SRun.ls (xc ents12 (laws_heldPlaceS_run x15.2 1 _ hx16)) ?_
  refine ckn tbok 1 ⟨109, [(0, vl ePlace aAList), (1, vs aACode), (2, vi aAYear), (8, .own 8), (9, vi x3.2), (11, .own 11), (14, vi x15.1), (15, vi x16)], [(8, .deep 41 5 x3.1.length [.flat, .flat, .flat, .flat, (.sl 95 5 [.flat, .flat, .flat, .flat, .flat])] (x3.1.map ePlace)), (11, .deep 41 5 x15.2.length [.flat, .flat, .flat, .flat, (.sl 95 5 [.flat, .flat, .flat, .flat, .flat])] (x15.2.map ePlace))]⟩ ?_
  refine swp_seq ?_
  refine srk tbok ⟨109, [(0, vl ePlace aAList), (1, vs aACode), (2, vi aAYear), (8, .own 8), (9, vi x3.2), (11, .own 11), (14, vi x15.1), (15, vi x16), (80, vb (decide (x16 < 0)))], [(8, .deep 41 5 x3.1.length [.flat, .flat, .flat, .flat, (.sl 95 5 [.flat, .flat, .flat, .flat, .flat])] (x3.1.map ePlace)), (11, .deep 41 5 x15.2.length [.flat, .flat, .flat, .flat, (.sl 95 5 [.flat, .flat, .flat, .flat, .flat])] (x15.2.map ePlace))]⟩ ?_
  refine swp_cd h (fun h => ?_) fun h => ?_
  refine srk tbok ⟨109, [(6, vb false)], []⟩ ?_
  refine swp_ret ?_
  obtain rfl := inj h
  exact nx_r (q_fr (f1 fv))
  refine swp_skip ?_
  refine nx_n ?_
  refine swp_seq ?_
  refine srk tbok ⟨109, [(0, vl ePlace aAList), (1, vs aACode), (2, vi aAYear), (8, .own 8), (9, vi x3.2), (11, .own 11), (14, vi x15.1), (83, vb (x16 != x15.1))], [(8, .deep 41 5 x3.1.length [.flat, .flat, .flat, .flat, (.sl 95 5 [.flat, .flat, .flat, .flat, .flat])] (x3.1.map ePlace)), (11, .deep 41 5 x15.2.length [.flat, .flat, .flat, .flat, (.sl 95 5 [.flat, .flat, .flat, .flat, .flat])] (x15.2.map ePlace))]⟩ ?_
  refine swp_cd h (fun h => ?_) fun h => ?_
  refine srk tbok ⟨109, [(6, vb false)], []⟩ ?_
  refine swp_ret ?_
  obtain rfl := inj h
  exact nx_r (q_fr (f1 fv))
  refine swp_skip ?_
  refine nx_n ?_
  refine sr ?_
  refine SRun.ck tbok 1 ⟨109, [(1, vs aACode), (2, vi aAYear), (8, .own 8), (9, vi x3.2), (11, .own 11), (14, vi x15.1), (85, vl ePlace aAList)], [(8, .deep 41 5 x3.1.length [.flat, .flat, .flat, .flat, (.sl 95 5 [.flat, .flat, .flat, .flat, .flat])] (x3.1.map ePlace)), (11, .deep 41 5 x15.2.length [.flat, .flat, .flat, .flat, (.sl 95 5 [.flat, .flat, .flat, .flat, .flat])] (x15.2.map ePlace))]⟩ ?_
  obtain ⟨x17, hx17, h⟩ := bind_some h
  refine SRun.ls (xc ents8 (laws_toPlaceS_run aAList _ hx17)) ?_
  refine SRun.ck tbok 2 ⟨109, [(8, .own 8), (9, vi x3.2), (11, .own 11), (14, vi x15.1), (86, .own 86), (87, vs aACode), (88, vi aAYear)], [(8, .deep 41 5 x3.1.length [.flat, .flat, .flat, .flat, (.sl 95 5 [.flat, .flat, .flat, .flat, .flat])] (x3.1.map ePlace)), (11, .deep 41 5 x15.2.length [.flat, .flat, .flat, .flat, (.sl 95 5 [.flat, .flat, .flat, .flat, .flat])] (x15.2.map ePlace)), (86, .deep 41 5 x17.length [.flat, .flat, .flat, .flat, (.sl 95 5 [.flat, .flat, .flat, .flat, .flat])] (x17.map ePlace))]⟩ ?_
  obtain ⟨x18, hx18, h⟩ := bind_some h
  refine SRun.ls (xc ents9 (impl_EndPlace_run x17 aACode aAYear _ hx18)) ?_
  refine ckn tbok 5 ⟨109, [(8, .own 8), (9, vi x3.2), (11, .own 11), (14, vi x15.1), (16, .own 89), (17, vi x18.2)], [(8, .deep 41 5 x3.1.length [.flat, .flat, .flat, .flat, (.sl 95 5 [.flat, .flat, .flat, .flat, .flat])] (x3.1.map ePlace)), (11, .deep 41 5 x15.2.length [.flat, .flat, .flat, .flat, (.sl 95 5 [.flat, .flat, .flat, .flat, .flat])] (x15.2.map ePlace)), (89, .deep 41 5 x18.1.length [.flat, .flat, .flat, .flat, (.sl 95 5 [.flat, .flat, .flat, .flat, .flat])] (x18.1.map ePlace))]⟩ ?_
  refine swp_seq ?_
  refine swp_seq ?_
  refine swp_regJ h (fun j20 => ⟨109, [(11, .own 11), (14, vi x15.1), (100, vb j20)], [(11, .deep 41 5 x15.2.length [.flat, .flat, .flat, .flat, (.sl 95 5 [.flat, .flat, .flat, .flat, .flat])] (x15.2.map ePlace))]⟩) (fun v21 h => ?_) (fun j20 h => ?_)
  refine SRun.ck tbok 2 ⟨109, [(9, vi x3.2), (11, .own 11), (14, vi x15.1), (17, vi x18.2), (92, .own 89), (93, .own 8)], [(8, .deep 41 5 x3.1.length [.flat, .flat, .flat, .flat, (.sl 95 5 [.flat, .flat, .flat, .flat, .flat])] (x3.1.map ePlace)), (11, .deep 41 5 x15.2.length [.flat, .flat, .flat, .flat, (.sl 95 5 [.flat, .flat, .flat, .flat, .flat])] (x15.2.map ePlace)), (89, .deep 41 5 x18.1.length [.flat, .flat, .flat, .flat, (.sl 95 5 [.flat, .flat, .flat, .flat, .flat])] (x18.1.map ePlace))]⟩ ?_
  obtain ⟨x19, hx19, h⟩ := bind_some h
  refine SRun.ls (xc ents10 (laws_eqPlaceS_run x18.1 x3.1 _ hx19)) ?_
  refine SRun.ck tbok 2 ⟨109, [(9, vi x3.2), (11, .own 11), (14, vi x15.1), (17, vi x18.2), (96, vb (!x19))], [(11, .deep 41 5 x15.2.length [.flat, .flat, .flat, .flat, (.sl 95 5 [.flat, .flat, .flat, .flat, .flat])] (x15.2.map ePlace))]⟩ ?_
  refine SRun.cu [(96, fun b => b)] h (fun h => ?_) fun h => ?_
  refine SRun.ck tbok 4 ⟨109, [(11, .own 11), (14, vi x15.1), (100, vb true)], [(11, .deep 41 5 x15.2.length [.flat, .flat, .flat, .flat, (.sl 95 5 [.flat, .flat, .flat, .flat, .flat])] (x15.2.map ePlace))]⟩ ?_
  refine SRun.nil ?_
  obtain rfl := inj h
  exact Le.sub0
  refine SRun.ck tbok 4 ⟨109, [(11, .own 11), (14, vi x15.1), (100, vb (x18.2 != x3.2))], [(11, .deep 41 5 x15.2.length [.flat, .flat, .flat, .flat, (.sl 95 5 [.flat, .flat, .flat, .flat, .flat])] (x15.2.map ePlace))]⟩ ?_
  refine SRun.nil ?_
  obtain rfl := inj h
  exact Le.sub0
  refine swp_cd h (fun h => ?_) fun h => ?_
  refine srk tbok ⟨109, [(6, vb false)], []⟩ ?_
  refine swp_ret ?_
  obtain rfl := inj h
  exact nx_r (q_fr (f1 fv))
  refine swp_skip ?_
  refine nx_n ?_
  refine srk tbok ⟨109, [(11, .own 11), (14, vi x15.1), (15, vi 1)], [(11, .deep 41 5 x15.2.length [.flat, .flat, .flat, .flat, (.sl 95 5 [.flat, .flat, .flat, .flat, .flat])] (x15.2.map ePlace))]⟩ ?_
  refine sr ?_
  refine SRun.ck tbok 2 ⟨109, [(14, vi x15.1), (101, .own 11), (102, vi 1)], [(11, .deep 41 5 x15.2.length [.flat, .flat, .flat, .flat, (.sl 95 5 [.flat, .flat, .flat, .flat, .flat])] (x15.2.map ePlace))]⟩ ?_
  obtain ⟨x22, hx22, h⟩ := bind_some h
  refine SRun.ls (xc ents12 (laws_heldPlaceS_run x15.2 1 _ hx22)) ?_
  refine ckn tbok 1 ⟨109, [(14, vi x15.1), (15, vi x22)], []⟩ ?_
  refine swp_seq ?_
  refine srk tbok ⟨109, [(14, vi x15.1), (15, vi x22), (105, vb (decide (x22 < 0)))], []⟩ ?_
  refine swp_cd h (fun h => ?_) fun h => ?_
  refine srk tbok ⟨109, [(6, vb false)], []⟩ ?_
  refine swp_ret ?_
  obtain rfl := inj h
  exact nx_r (q_fr (f1 fv))
  refine swp_skip ?_
  refine nx_n ?_
  refine swp_seq ?_
  refine srk tbok ⟨109, [(108, vb (x22 != x15.1))], []⟩ ?_
  refine swp_cd h (fun h => ?_) fun h => ?_
  refine srk tbok ⟨109, [(6, vb false)], []⟩ ?_
  refine swp_ret ?_
  obtain rfl := inj h
  exact nx_r (q_fr (f1 fv))
  refine swp_skip ?_
  refine nx_n ?_
  refine srk tbok ⟨109, [(6, vb true)], []⟩ ?_
  refine swp_ret ?_
  obtain rfl := inj h
  exact q_fr (f1 fv)
end Go.Proofs.YtpohkmbkohjahaaGreatDoor.Sh
