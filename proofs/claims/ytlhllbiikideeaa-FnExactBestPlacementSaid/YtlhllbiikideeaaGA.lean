/- Typed functions and the calls that do what they say. -/
import Derived.Test.YtlhllbiikideeaaSB
import Derived.Test.YtlhllbiikideeaaKA
import Derived.Test.YtlhllbiikideeaaKR
import Derived.Test.YtlhllbiikideeaaH1
namespace Go.Proofs.Ytlhllbiikideeaa.Sh
open Go.RowKit
set_option maxRecDepth 100000
set_option maxHeartbeats 4000000
structure Point where
  X : Int
  Y : Int
def ePoint (x : Point) : List Tr := [.int .i64 x.X, .int .i64 x.Y]
theorem ePoint_flat (x : Point) : ∀ t ∈ ePoint x, t.flat = true := by simp [ePoint, Tr.flat]
structure Label where
  At : Point
  Length : Int
  Priority : Int
def eLabel (x : Label) : List Tr := [.int .i64 x.At.X, .int .i64 x.At.Y, .int .i64 x.Length, .int .i64 x.Priority]
theorem eLabel_flat (x : Label) : ∀ t ∈ eLabel x, t.flat = true := by simp [eLabel, Tr.flat]
def ti2 : TI := ⟨1, 8, .int .i64, [.int .i64 0]⟩
def ti3 : TI := ⟨1, 8, .int .i64, [.int .i64 0]⟩
def ti4 : TI := ⟨1, 1, .bool, [.bool false]⟩
def ti22 : TI := ⟨1, 24, .slice 56, [.sl ([] : List Label).length (([] : List Label).map eLabel)]⟩
def ti24 : TI := ⟨1, 24, .slice 2, [.sl ([] : List Int).length (([] : List Int).map (eI .i64))]⟩
def ti27 : TI := ⟨1, 24, .slice 52, [.sl ([] : List Label).length (([] : List Label).map eLabel)]⟩
def ti43 : TI := ⟨1, 24, .slice 24, [.sl ([] : List (List Int)).length (([] : List (List Int)).map (eL (eI .i64)))]⟩
def ti50 : TI := ⟨2, 16, .struct [(0, 2), (1, 2)], [.int .i64 0, .int .i64 0]⟩
def ti52 : TI := ⟨4, 32, .struct [(0, 50), (2, 2), (3, 2)], [.int .i64 0, .int .i64 0, .int .i64 0, .int .i64 0]⟩
def ti54 : TI := ⟨2, 16, .struct [(0, 2), (1, 2)], [.int .i64 0, .int .i64 0]⟩
def ti56 : TI := ⟨4, 32, .struct [(0, 54), (2, 2), (3, 2)], [.int .i64 0, .int .i64 0, .int .i64 0, .int .i64 0]⟩
def ti64 : TI := ⟨1, 24, .slice 3, [.sl ([] : List Int).length (([] : List Int).map (eI .i64))]⟩
def ti91 : TI := ⟨1, 24, .slice 50, [.sl ([] : List Point).length (([] : List Point).map ePoint)]⟩
def tbl : Tb := [(2, ti2), (3, ti3), (4, ti4), (22, ti22), (24, ti24), (27, ti27), (43, ti43), (50, ti50), (52, ti52), (54, ti54), (56, ti56), (64, ti64), (91, ti91)]
theorem tbok : TbOk Try.prog tbl := TbOk.cons ⟨by kernel_rfl, show Try.prog.underlying 2 = some (.int .i64) from by kernel_rfl⟩ (TbOk.cons ⟨by kernel_rfl, show Try.prog.underlying 3 = some (.int .i64) from by kernel_rfl⟩ (TbOk.cons ⟨by kernel_rfl, show Try.prog.underlying 4 = some (.bool) from by kernel_rfl⟩ (TbOk.cons ⟨by kernel_rfl, show Try.prog.underlying 22 = some (.slice 56) from by kernel_rfl⟩ (TbOk.cons ⟨by kernel_rfl, show Try.prog.underlying 24 = some (.slice 2) from by kernel_rfl⟩ (TbOk.cons ⟨by kernel_rfl, show Try.prog.underlying 27 = some (.slice 52) from by kernel_rfl⟩ (TbOk.cons ⟨by kernel_rfl, show Try.prog.underlying 43 = some (.slice 24) from by kernel_rfl⟩ (TbOk.cons ⟨by kernel_rfl, show structOf Try.prog 50 = some [(0, 2), (1, 2)] from by kernel_rfl⟩ (TbOk.cons ⟨by kernel_rfl, show structOf Try.prog 52 = some [(0, 50), (2, 2), (3, 2)] from by kernel_rfl⟩ (TbOk.cons ⟨by kernel_rfl, show structOf Try.prog 54 = some [(0, 2), (1, 2)] from by kernel_rfl⟩ (TbOk.cons ⟨by kernel_rfl, show structOf Try.prog 56 = some [(0, 54), (2, 2), (3, 2)] from by kernel_rfl⟩ (TbOk.cons ⟨by kernel_rfl, show Try.prog.underlying 64 = some (.slice 3) from by kernel_rfl⟩ (TbOk.cons ⟨by kernel_rfl, show Try.prog.underlying 91 = some (.slice 50) from by kernel_rfl⟩ (TbOk.nil _)))))))))))))
theorem mixed : Try.prog.follows .mixedOrders = true := by kernel_rfl
theorem ents59 : Ents Try.prog 59 := ents_of Try.func59 (by kernel_rfl) rfl
noncomputable def impl_score (aList : (List Label)) (aPlacement : (List Int)) : Option (Int) :=
  (((forS (aList.length : Int) (fun (i3 : Int) (s3 : Int) => ((at' aList i3).bind fun x7 => ((at' aPlacement i3).bind fun x8 => (bif (x8 != 4) then some (w64 (s3 + x7.Priority)) else some s3)))) (fun (s3 : Int) => s3) 0 0)).bind fun (j1 : Int) => some j1)
theorem impl_score_run (aList : (List Label)) (aPlacement : (List Int)) (r : Int) (h : impl_score aList aPlacement = some r) : SCall Try.prog 34 [.v (vl eLabel aList), .v (vl (eI .i64) aPlacement)] ⟨[.v (vi r)], [], false⟩ := by
  refine scall_in Try.func34 rfl [(.tmp 4)] rfl (fun r => ⟨[.v (vi r)], [], false⟩) (r := r) ?_
  unfold impl_score at h
  refine srk tbok ⟨26, [(0, vl eLabel aList), (1, vl (eI .i64) aPlacement)], []⟩ ?_
  refine srk tbok ⟨26, [(0, vl eLabel aList), (1, vl (eI .i64) aPlacement), (5, vi 0)], []⟩ ?_
  refine swp_seq ?_
  refine srk tbok ⟨26, [(1, vl (eI .i64) aPlacement), (5, vi 0), (8, vl eLabel aList), (9, vi (aList.length : Int)), (10, vi 0)], []⟩ ?_
  refine swp_seqJ h (fun j1 => ⟨26, [(5, vi j1)], []⟩) (fun v2 h => ?_) (fun j1 h => ?_)
  refine swp_blk (a := v2) ?_
  refine swp_lpL (r := v2) (s := (0, 0)) _ (fun s3 => ⟨26, [(1, vl (eI .i64) aPlacement), (5, vi s3.2), (8, vl eLabel aList), (9, vi (aList.length : Int)), (10, vi s3.1)], []⟩) _ (Le.sub0) h (fun s3 v4 h => ?_)
  refine srk tbok ⟨26, [(1, vl (eI .i64) aPlacement), (5, vi s3.2), (8, vl eLabel aList), (9, vi (aList.length : Int)), (10, vi s3.1), (11, vb (decide (s3.1 < (aList.length : Int))))], []⟩ ?_
  refine swp_seq ?_
  refine swp_cd h (fun h => ?_) fun h => ?_
  refine swp_skip ?_
  refine nx_n ?_
  refine swp_seq ?_
  refine swp_seqJ h (fun j5 => ⟨26, [(1, vl (eI .i64) aPlacement), (5, vi j5), (8, vl eLabel aList), (9, vi (aList.length : Int)), (10, vi s3.1)], []⟩) (fun v6 h => ?_) (fun j5 h => ?_)
  refine swp_blk (a := v6) ?_
  refine sr ?_
  refine SRun.ck tbok 1 ⟨26, [(1, vl (eI .i64) aPlacement), (5, vi s3.2), (8, vl eLabel aList), (9, vi (aList.length : Int)), (10, vi s3.1), (12, vi s3.1)], []⟩ ?_
  obtain ⟨x7, hx7, h⟩ := bind_some h
  refine SRun.ls (x_index (L := aList) (f := eLabel) (ti := ti27) (tj := ti52) (e := 52) (k := .i64) tbok rfl hx7) ?_
  refine ckn tbok 4 ⟨26, [(1, vl (eI .i64) aPlacement), (5, vi s3.2), (6, vi s3.1), (7, .ref 7 0), (8, vl eLabel aList), (9, vi (aList.length : Int)), (10, vi s3.1)], [(7, .box (tc eLabel x7))]⟩ ?_
  refine sr ?_
  refine SRun.ck tbok 2 ⟨26, [(1, vl (eI .i64) aPlacement), (5, vi s3.2), (7, .ref 7 0), (8, vl eLabel aList), (9, vi (aList.length : Int)), (10, vi s3.1), (15, vl (eI .i64) aPlacement), (16, vi s3.1)], [(7, .box (tc eLabel x7))]⟩ ?_
  obtain ⟨x8, hx8, h⟩ := bind_some h
  refine SRun.ls (x_index (L := aPlacement) (f := (eI .i64)) (ti := ti24) (tj := ti2) (e := 2) (k := .i64) tbok rfl hx8) ?_
  refine ckn tbok 2 ⟨26, [(1, vl (eI .i64) aPlacement), (5, vi s3.2), (7, .ref 7 0), (8, vl eLabel aList), (9, vi (aList.length : Int)), (10, vi s3.1), (19, vb (x8 != 4))], [(7, .box (tc eLabel x7))]⟩ ?_
  refine swp_cd h (fun h => ?_) fun h => ?_
  refine swp_reg ?_
  refine SRun.ck tbok 5 ⟨26, [(1, vl (eI .i64) aPlacement), (5, vi (w64 (s3.2 + x7.Priority))), (8, vl eLabel aList), (9, vi (aList.length : Int)), (10, vi s3.1)], []⟩ ?_
  refine SRun.nil ?_
  obtain rfl := inj h
  exact q_bn (q_j (Le.sub0))
  refine swp_skip ?_
  obtain rfl := inj h
  exact q_bn (q_j (Le.sub0))
  refine swp_reg ?_
  refine SRun.ck tbok 2 ⟨26, [(1, vl (eI .i64) aPlacement), (5, vi j5), (8, vl eLabel aList), (9, vi (aList.length : Int)), (10, vi (w64 (s3.1 + 1)))], []⟩ ?_
  refine SRun.nil ?_
  obtain rfl := inj h
  exact q_l (Le.sub0)
  refine swp_exit ?_
  obtain rfl := inj h
  exact nx_e (q_re (q_bh (q_j (Le.sub0))))
  refine srk tbok ⟨26, [(4, vi j1)], []⟩ ?_
  refine swp_ret ?_
  obtain rfl := inj h
  exact q_fr (f1 fv)
theorem ents34 : Ents Try.prog 34 := ents_of Try.func34 (by kernel_rfl) rfl
noncomputable def impl_Label_covered (aL : Label) (aPosition : Int) : Option ((List Point)) :=
  (((bif (aPosition == 1) then some (.inl ((w64 (aL.At.X - aL.Length)), (w64 (aL.At.Y + 1)))) else (bif (aPosition == 2) then some (.inl ((w64 (aL.At.X - aL.Length)), (w64 (aL.At.Y - 1)))) else (bif (aPosition == 3) then some (.inl ((w64 (aL.At.X + 1)), (w64 (aL.At.Y - 1)))) else (bif (aPosition == 4) then some (.inr ([] : List Point)) else some (.inl ((w64 (aL.At.X + 1)), (w64 (aL.At.Y + 1))))))))).bind (Sum.elim (fun (j1 : Int × Int) => (((forS (w64 (j1.1 + aL.Length)) (fun (i5 : Int) (s5 : (List Point)) => ((app' s5 ([(Point.mk i5 j1.2)] : List Point)).bind fun x9 => some x9)) (fun (s5 : (List Point)) => s5) j1.1 ([] : List Point))).bind fun (j3 : (List Point)) => some j3)) some))
theorem impl_Label_covered_run (aL : Label) (aPosition : Int) (r : (List Point)) (h : impl_Label_covered aL aPosition = some r) : SCall Try.prog 68 [.v (.agg (tc eLabel aL)), .v (vi aPosition)] ⟨[.own 50 2 r.length (r.map ePoint)], [], false⟩ := by
  refine scall_in Try.func68 rfl [(.tmp 4)] rfl (fun r => ⟨[.own 50 2 r.length (r.map ePoint)], [], false⟩) (r := r) ?_
  unfold impl_Label_covered at h
  refine srk tbok ⟨62, [(1, vi aPosition), (2, .ref 2 0)], [(2, .box (tc eLabel aL))]⟩ ?_
  refine swp_seq ?_
  refine swp_dr mixed ?_
  refine DGo.ck tbok false 10 ⟨62, [(1, vi aPosition), (2, .ref 2 0), (5, vi (w64 (aL.At.X + 1))), (6, vi (w64 (aL.At.Y + 1)))], [(2, .box (tc eLabel aL))]⟩ ?_
  refine DGo.nx ?_
  refine swp_seq ?_
  refine srk tbok ⟨62, [(2, .ref 2 0), (5, vi (w64 (aL.At.X + 1))), (6, vi (w64 (aL.At.Y + 1))), (17, vi aPosition)], [(2, .box (tc eLabel aL))]⟩ ?_
  refine swp_seqE (r := r) h (fun j1 => ⟨62, [(2, .ref 2 0), (5, vi j1.1), (6, vi j1.2)], [(2, .box (tc eLabel aL))]⟩) (fun v2 h => ?_) (fun j1 h => ?_)
  refine swp_blk (a := v2) ?_
  refine srk tbok ⟨62, [(2, .ref 2 0), (5, vi (w64 (aL.At.X + 1))), (6, vi (w64 (aL.At.Y + 1))), (17, vi aPosition), (18, vb (aPosition == 1))], [(2, .box (tc eLabel aL))]⟩ ?_
  refine swp_cd h (fun h => ?_) fun h => ?_
  refine swp_reg ?_
  refine SRun.ck tbok 7 ⟨62, [(2, .ref 2 0), (5, vi (w64 (aL.At.X - aL.Length))), (6, vi (w64 (aL.At.Y + 1)))], [(2, .box (tc eLabel aL))]⟩ ?_
  refine SRun.nil ?_
  obtain rfl := inj h
  exact q_bn (q_l (Le.sub0))
  refine srk tbok ⟨62, [(2, .ref 2 0), (5, vi (w64 (aL.At.X + 1))), (6, vi (w64 (aL.At.Y + 1))), (17, vi aPosition), (26, vb (aPosition == 2))], [(2, .box (tc eLabel aL))]⟩ ?_
  refine swp_cd h (fun h => ?_) fun h => ?_
  refine swp_dr mixed ?_
  refine DGo.ck tbok false 12 ⟨62, [(2, .ref 2 0), (5, vi (w64 (aL.At.X - aL.Length))), (6, vi (w64 (aL.At.Y - 1)))], [(2, .box (tc eLabel aL))]⟩ ?_
  refine DGo.nil (by kernel_rfl) ?_
  obtain rfl := inj h
  exact q_bn (q_l (Le.sub0))
  refine srk tbok ⟨62, [(2, .ref 2 0), (5, vi (w64 (aL.At.X + 1))), (6, vi (w64 (aL.At.Y + 1))), (17, vi aPosition), (38, vb (aPosition == 3))], [(2, .box (tc eLabel aL))]⟩ ?_
  refine swp_cd h (fun h => ?_) fun h => ?_
  refine swp_reg ?_
  refine SRun.ck tbok 5 ⟨62, [(2, .ref 2 0), (5, vi (w64 (aL.At.X + 1))), (6, vi (w64 (aL.At.Y - 1)))], [(2, .box (tc eLabel aL))]⟩ ?_
  refine SRun.nil ?_
  obtain rfl := inj h
  exact q_bn (q_l (Le.sub0))
  refine srk tbok ⟨62, [(2, .ref 2 0), (5, vi (w64 (aL.At.X + 1))), (6, vi (w64 (aL.At.Y + 1))), (44, vb (aPosition == 4))], [(2, .box (tc eLabel aL))]⟩ ?_
  refine swp_cd h (fun h => ?_) fun h => ?_
  refine srk tbok ⟨62, [(4, .own 4)], [(4, oa 50 2 ePoint ([] : List Point))]⟩ ?_
  refine swp_ret ?_
  obtain rfl := inj h
  exact q_br (q_rr (q_fr (f1 (fo ePoint_flat))))
  refine swp_skip ?_
  obtain rfl := inj h
  exact q_bn (q_l (Le.sub0))
  refine srk tbok ⟨62, [(2, .ref 2 0), (5, vi j1.1), (6, vi j1.2), (7, .own 7)], [(2, .box (tc eLabel aL)), (7, oa 50 2 ePoint ([] : List Point))]⟩ ?_
  refine swp_seq ?_
  refine srk tbok ⟨62, [(2, .ref 2 0), (5, vi j1.1), (6, vi j1.2), (7, .own 7), (8, vi j1.1)], [(2, .box (tc eLabel aL)), (7, oa 50 2 ePoint ([] : List Point))]⟩ ?_
  refine swp_seqJ h (fun j3 => ⟨62, [(7, .own 7)], [(7, oa 50 2 ePoint j3)]⟩) (fun v4 h => ?_) (fun j3 h => ?_)
  refine swp_blk (a := v4) ?_
  refine swp_lpL (r := v4) (s := (j1.1, ([] : List Point))) _ (fun s5 => ⟨62, [(2, .ref 2 0), (5, vi j1.1), (6, vi j1.2), (7, .own 7), (8, vi s5.1)], [(2, .box (tc eLabel aL)), (7, oa 50 2 ePoint s5.2)]⟩) _ (Le.sub0) h (fun s5 v6 h => ?_)
  refine swp_seq ?_
  refine srk tbok ⟨62, [(2, .ref 2 0), (5, vi j1.1), (6, vi j1.2), (7, .own 7), (8, vi s5.1), (52, vb (decide (s5.1 < (w64 (j1.1 + aL.Length)))))], [(2, .box (tc eLabel aL)), (7, oa 50 2 ePoint s5.2)]⟩ ?_
  refine swp_cd h (fun h => ?_) fun h => ?_
  refine swp_skip ?_
  refine nx_n ?_
  refine swp_seq ?_
  refine swp_seqJ h (fun j7 => ⟨62, [(2, .ref 2 0), (5, vi j1.1), (6, vi j1.2), (7, .own 7), (8, vi s5.1)], [(2, .box (tc eLabel aL)), (7, oa 50 2 ePoint j7)]⟩) (fun v8 h => ?_) (fun j7 h => ?_)
  refine swp_blk (a := v8) ?_
  refine swp_reg ?_
  refine SRun.ck tbok 3 ⟨62, [(2, .ref 2 0), (5, vi j1.1), (6, vi j1.2), (8, vi s5.1), (55, .own 7), (56, vi s5.1), (57, vi j1.2)], [(2, .box (tc eLabel aL)), (7, oa 50 2 ePoint s5.2)]⟩ ?_
  refine SRun.ls (x_lstep_build (v := .agg [vi s5.1, vi j1.2]) tbok rfl) ?_
  refine SRun.ck tbok 1 ⟨62, [(2, .ref 2 0), (5, vi j1.1), (6, vi j1.2), (8, vi s5.1), (55, .own 7), (59, .own 59)], [(2, .box (tc eLabel aL)), (7, oa 50 2 ePoint s5.2), (59, oa 50 2 ePoint ([(Point.mk s5.1 j1.2)] : List Point))]⟩ ?_
  obtain ⟨x9, hx9, h⟩ := bind_some h
  refine SRun.estep (x_append (f := ePoint) (t := 91) (ti := ti91) (tj := ti50) (zs := [.int .i64 0, .int .i64 0]) (e := 50) (m := 2) (d := 7) (xv := .own 59) hx9 tbok rfl rfl rfl rfl (x_src_o (e := 50))) ?_
  refine SRun.ck tbok 1 ⟨62, [(2, .ref 2 0), (5, vi j1.1), (6, vi j1.2), (7, .own 60), (8, vi s5.1)], [(2, .box (tc eLabel aL)), (60, oa 50 2 ePoint x9)]⟩ ?_
  refine SRun.nil ?_
  obtain rfl := inj h
  exact q_bn (q_j (Le.rr [2, 60] [(60, 7)]))
  refine swp_reg ?_
  refine SRun.ck tbok 3 ⟨62, [(2, .ref 2 0), (5, vi j1.1), (6, vi j1.2), (7, .own 7), (8, vi (w64 (s5.1 + 1)))], [(2, .box (tc eLabel aL)), (7, oa 50 2 ePoint j7)]⟩ ?_
  refine SRun.nil ?_
  obtain rfl := inj h
  exact q_l (Le.sub0)
  refine swp_exit ?_
  obtain rfl := inj h
  exact nx_e (q_re (q_bh (q_j (Le.sub0))))
  refine srk tbok ⟨62, [(4, .own 7)], [(7, oa 50 2 ePoint j3)]⟩ ?_
  refine swp_ret ?_
  obtain rfl := inj h
  exact q_fr (f1 (fo ePoint_flat))
theorem ents68 : Ents Try.prog 68 := ents_of Try.func68 (by kernel_rfl) rfl
noncomputable def impl_isAt_1 (aL : Label) (c0 : Point) : Option (Bool) :=
  some ((aL.At.X == c0.X) && (aL.At.Y == c0.Y))
theorem impl_isAt_1_run (aL : Label) (c0 : Point) (r : Bool) (h : impl_isAt_1 aL c0 = some r) : SCall Try.prog 75 [.v (.agg (tc eLabel aL)), .v (.ptr [vi c0.X, vi c0.Y] 0)] ⟨[.v (vb r)], [], false⟩ := by
  refine scall_in Try.func75 rfl [(.tmp 3)] rfl (fun r => ⟨[.v (vb r)], [], false⟩) (r := r) ?_
  unfold impl_isAt_1 at h
  refine srk tbok ⟨8, [(1, .ptr [vi c0.X, vi c0.Y] 0), (2, .ref 2 0)], [(2, .box (tc eLabel aL))]⟩ ?_
  refine sr ?_
  refine SRun.ck tbok 3 ⟨8, [(5, .agg (tc ePoint aL.At)), (6, .agg (tc ePoint c0))], []⟩ ?_
  refine SRun.ls (x_lstep_eq tbok false (xs := [vi aL.At.X, vi aL.At.Y]) (ys := [vi c0.X, vi c0.Y]) (b := ((aL.At.X == c0.X) && (aL.At.Y == c0.Y))) rfl) ?_
  refine ckn tbok 1 ⟨8, [(3, vb ((aL.At.X == c0.X) && (aL.At.Y == c0.Y)))], []⟩ ?_
  refine swp_ret ?_
  obtain rfl := inj h
  exact q_fr (f1 fv)
theorem ents75 : Ents Try.prog 75 := ents_of Try.func75 (by kernel_rfl) rfl
noncomputable def slices_IndexFunc_Label_impl_isAt_1 (aS : (List Label)) (aF0 : Point) : Option (Int) :=
  (((forN (aS.length : Int) (fun (i3 : Int) (_ : Unit) => ((at' aS i3).bind fun x7 => ((impl_isAt_1 x7 aF0).bind fun x8 => (bif x8 then some (.inr (.inr i3)) else some (.inl ()))))) (fun (_ : Unit) => .inl ()) 0 ())).bind (Sum.elim (fun (_ : Unit) => some (-1)) some))
theorem slices_IndexFunc_Label_impl_isAt_1_run (aS : (List Label)) (aF0 : Point) (r : Int) (h : slices_IndexFunc_Label_impl_isAt_1 aS aF0 = some r) : SCall Try.prog 83 [.v (vl eLabel aS), .v (.clo 75 [.ptr [vi aF0.X, vi aF0.Y] 0])] ⟨[.v (vi r)], [], false⟩ := by
  refine scall_in Try.func83 rfl [(.tmp 4)] rfl (fun r => ⟨[.v (vi r)], [], false⟩) (r := r) ?_
  unfold slices_IndexFunc_Label_impl_isAt_1 at h
  refine srk tbok ⟨19, [(0, vl eLabel aS), (1, .clo 75 [.ptr [vi aF0.X, vi aF0.Y] 0])], []⟩ ?_
  refine swp_seq ?_
  refine srk tbok ⟨19, [(0, vl eLabel aS), (1, .clo 75 [.ptr [vi aF0.X, vi aF0.Y] 0]), (7, vi (aS.length : Int)), (8, vi 0)], []⟩ ?_
  refine swp_seqE (r := r) h (fun j1 => ⟨19, [], []⟩) (fun v2 h => ?_) (fun j1 h => ?_)
  refine swp_blk (a := v2) ?_
  refine swp_lpL (r := v2) (s := (0, ())) _ (fun s3 => ⟨19, [(0, vl eLabel aS), (1, .clo 75 [.ptr [vi aF0.X, vi aF0.Y] 0]), (7, vi (aS.length : Int)), (8, vi s3.1)], []⟩) _ (Le.sub0) h (fun s3 v4 h => ?_)
  refine srk tbok ⟨19, [(0, vl eLabel aS), (1, .clo 75 [.ptr [vi aF0.X, vi aF0.Y] 0]), (7, vi (aS.length : Int)), (8, vi s3.1), (9, vb (decide (s3.1 < (aS.length : Int))))], []⟩ ?_
  refine swp_seq ?_
  refine swp_cd h (fun h => ?_) fun h => ?_
  refine swp_skip ?_
  refine nx_n ?_
  refine swp_seq ?_
  refine swp_seqL (r := v4) h (fun j5 => ⟨19, [(0, vl eLabel aS), (1, .clo 75 [.ptr [vi aF0.X, vi aF0.Y] 0]), (7, vi (aS.length : Int)), (8, vi s3.1)], []⟩) (fun v6 h => ?_) (fun j5 h => ?_)
  refine swp_blk (a := v6) ?_
  refine srk tbok ⟨19, [(0, vl eLabel aS), (1, .clo 75 [.ptr [vi aF0.X, vi aF0.Y] 0]), (5, vi s3.1), (7, vi (aS.length : Int)), (8, vi s3.1)], []⟩ ?_
  refine sr ?_
  refine SRun.ck tbok 3 ⟨19, [(0, vl eLabel aS), (1, .clo 75 [.ptr [vi aF0.X, vi aF0.Y] 0]), (5, vi s3.1), (7, vi (aS.length : Int)), (8, vi s3.1), (11, .clo 75 [.ptr [vi aF0.X, vi aF0.Y] 0]), (12, vl eLabel aS), (13, vi s3.1)], []⟩ ?_
  obtain ⟨x7, hx7, h⟩ := bind_some h
  refine SRun.ls (x_index (L := aS) (f := eLabel) (ti := ti27) (tj := ti52) (e := 52) (k := .i64) tbok rfl hx7) ?_
  refine SRun.ck tbok 1 ⟨19, [(0, vl eLabel aS), (1, .clo 75 [.ptr [vi aF0.X, vi aF0.Y] 0]), (5, vi s3.1), (7, vi (aS.length : Int)), (8, vi s3.1), (11, .clo 75 [.ptr [vi aF0.X, vi aF0.Y] 0]), (15, .agg (tc eLabel x7))], []⟩ ?_
  obtain ⟨x8, hx8, h⟩ := bind_some h
  refine SRun.ls (xc ents75 (impl_isAt_1_run x7 aF0 _ hx8)) ?_
  refine SRun.nx ?_
  refine swp_cd h (fun h => ?_) fun h => ?_
  refine srk tbok ⟨19, [(4, vi s3.1)], []⟩ ?_
  refine swp_ret ?_
  obtain rfl := inj h
  exact q_br (q_rr (q_rr (q_br (q_rr (q_fr (f1 fv))))))
  refine swp_skip ?_
  obtain rfl := inj h
  exact q_bn (q_l (Le.sub0))
  refine swp_reg ?_
  refine SRun.ck tbok 2 ⟨19, [(0, vl eLabel aS), (1, .clo 75 [.ptr [vi aF0.X, vi aF0.Y] 0]), (7, vi (aS.length : Int)), (8, vi (w64 (s3.1 + 1)))], []⟩ ?_
  refine SRun.nil ?_
  obtain rfl := inj h
  exact q_l (Le.sub0)
  refine swp_exit ?_
  obtain rfl := inj h
  exact nx_e (q_re (q_bh (q_l (Le.sub0))))
  refine srk tbok ⟨19, [(4, vi (-1))], []⟩ ?_
  refine swp_ret ?_
  obtain rfl := inj h
  exact q_fr (f1 fv)
theorem ents83 : Ents Try.prog 83 := ents_of Try.func83 (by kernel_rfl) rfl
noncomputable def slices_ContainsFunc_Label_impl_isAt_1 (aS : (List Label)) (aF0 : Point) : Option (Bool) :=
  ((slices_IndexFunc_Label_impl_isAt_1 aS aF0).bind fun x1 => some (decide (x1 ≥ 0)))
theorem slices_ContainsFunc_Label_impl_isAt_1_run (aS : (List Label)) (aF0 : Point) (r : Bool) (h : slices_ContainsFunc_Label_impl_isAt_1 aS aF0 = some r) : SCall Try.prog 74 [.v (vl eLabel aS), .v (.clo 75 [.ptr [vi aF0.X, vi aF0.Y] 0])] ⟨[.v (vb r)], [], false⟩ := by
  refine scall_in Try.func74 rfl [(.tmp 4)] rfl (fun r => ⟨[.v (vb r)], [], false⟩) (r := r) ?_
  unfold slices_ContainsFunc_Label_impl_isAt_1 at h
  refine srk tbok ⟨9, [(0, vl eLabel aS), (1, .clo 75 [.ptr [vi aF0.X, vi aF0.Y] 0])], []⟩ ?_
  refine sr ?_
  refine SRun.ck tbok 2 ⟨9, [(5, vl eLabel aS), (6, .clo 75 [.ptr [vi aF0.X, vi aF0.Y] 0])], []⟩ ?_
  obtain ⟨x1, hx1, h⟩ := bind_some h
  refine SRun.ls (xc ents83 (slices_IndexFunc_Label_impl_isAt_1_run aS aF0 _ hx1)) ?_
  refine ckn tbok 2 ⟨9, [(4, vb (decide (x1 ≥ 0)))], []⟩ ?_
  refine swp_ret ?_
  obtain rfl := inj h
  exact q_fr (f1 fv)
theorem ents74 : Ents Try.prog 74 := ents_of Try.func74 (by kernel_rfl) rfl
noncomputable def impl_isAt (aList : (List Label)) (aP : Point) : Option (Bool) :=
  ((slices_ContainsFunc_Label_impl_isAt_1 aList aP).bind fun x1 => some x1)
theorem impl_isAt_run (aList : (List Label)) (aP : Point) (r : Bool) (h : impl_isAt aList aP = some r) : SCall Try.prog 53 [.v (vl eLabel aList), .v (.agg (tc ePoint aP))] ⟨[.v (vb r)], [], false⟩ := by
  refine scall_in Try.func53 rfl [(.tmp 4)] rfl (fun r => ⟨[.v (vb r)], [], false⟩) (r := r) ?_
  unfold impl_isAt at h
  refine srk tbok ⟨8, [(0, vl eLabel aList), (3, .ref 3 0)], [(3, .box (tc ePoint aP))]⟩ ?_
  refine sr ?_
  refine SRun.ck tbok 2 ⟨8, [(5, vl eLabel aList), (6, .clo 75 [.ref 3 0])], [(3, .box (tc ePoint aP))]⟩ ?_
  obtain ⟨x1, hx1, h⟩ := bind_some h
  refine SRun.ls (xc ents74 (slices_ContainsFunc_Label_impl_isAt_1_run aList aP _ hx1)) ?_
  refine ckn tbok 1 ⟨8, [(4, vb x1)], []⟩ ?_
  refine swp_ret ?_
  obtain rfl := inj h
  exact q_fr (f1 fv)
theorem ents53 : Ents Try.prog 53 := ents_of Try.func53 (by kernel_rfl) rfl
noncomputable def impl_isAllowed_1 (aP : Point) (c0 : (List Label)) : Option (Bool) :=
  ((impl_isAt c0 aP).bind fun x1 => some x1)
theorem impl_isAllowed_1_run (aP : Point) (c0 : (List Label)) (r : Bool) (h : impl_isAllowed_1 aP c0 = some r) : SCall Try.prog 78 [.v (.agg (tc ePoint aP)), .v (.ptr [vl eLabel c0] 0)] ⟨[.v (vb r)], [], false⟩ := by
  refine scall_in Try.func78 rfl [(.tmp 3)] rfl (fun r => ⟨[.v (vb r)], [], false⟩) (r := r) ?_
  unfold impl_isAllowed_1 at h
  refine srk tbok ⟨7, [(1, .ptr [vl eLabel c0] 0), (2, .ref 2 0)], [(2, .box (tc ePoint aP))]⟩ ?_
  refine sr ?_
  refine SRun.ck tbok 2 ⟨7, [(4, vl eLabel c0), (5, .agg (tc ePoint aP))], []⟩ ?_
  obtain ⟨x1, hx1, h⟩ := bind_some h
  refine SRun.ls (xc ents53 (impl_isAt_run c0 aP _ hx1)) ?_
  refine ckn tbok 1 ⟨7, [(3, vb x1)], []⟩ ?_
  refine swp_ret ?_
  obtain rfl := inj h
  exact q_fr (f1 fv)
theorem ents78 : Ents Try.prog 78 := ents_of Try.func78 (by kernel_rfl) rfl
noncomputable def slices_IndexFunc_Point_impl_isAllowed_1 (aS : (List Point)) (aF0 : (List Label)) : Option (Int) :=
  (((forN (aS.length : Int) (fun (i3 : Int) (_ : Unit) => ((at' aS i3).bind fun x7 => ((impl_isAllowed_1 x7 aF0).bind fun x8 => (bif x8 then some (.inr (.inr i3)) else some (.inl ()))))) (fun (_ : Unit) => .inl ()) 0 ())).bind (Sum.elim (fun (_ : Unit) => some (-1)) some))
theorem slices_IndexFunc_Point_impl_isAllowed_1_run (aS : (List Point)) (aF0 : (List Label)) (r : Int) (h : slices_IndexFunc_Point_impl_isAllowed_1 aS aF0 = some r) : SCall Try.prog 81 [.v (vl ePoint aS), .v (.clo 78 [.ptr [vl eLabel aF0] 0])] ⟨[.v (vi r)], [], false⟩ := by
  refine scall_in Try.func81 rfl [(.tmp 4)] rfl (fun r => ⟨[.v (vi r)], [], false⟩) (r := r) ?_
  unfold slices_IndexFunc_Point_impl_isAllowed_1 at h
  refine srk tbok ⟨19, [(0, vl ePoint aS), (1, .clo 78 [.ptr [vl eLabel aF0] 0])], []⟩ ?_
  refine swp_seq ?_
  refine srk tbok ⟨19, [(0, vl ePoint aS), (1, .clo 78 [.ptr [vl eLabel aF0] 0]), (7, vi (aS.length : Int)), (8, vi 0)], []⟩ ?_
  refine swp_seqE (r := r) h (fun j1 => ⟨19, [], []⟩) (fun v2 h => ?_) (fun j1 h => ?_)
  refine swp_blk (a := v2) ?_
  refine swp_lpL (r := v2) (s := (0, ())) _ (fun s3 => ⟨19, [(0, vl ePoint aS), (1, .clo 78 [.ptr [vl eLabel aF0] 0]), (7, vi (aS.length : Int)), (8, vi s3.1)], []⟩) _ (Le.sub0) h (fun s3 v4 h => ?_)
  refine srk tbok ⟨19, [(0, vl ePoint aS), (1, .clo 78 [.ptr [vl eLabel aF0] 0]), (7, vi (aS.length : Int)), (8, vi s3.1), (9, vb (decide (s3.1 < (aS.length : Int))))], []⟩ ?_
  refine swp_seq ?_
  refine swp_cd h (fun h => ?_) fun h => ?_
  refine swp_skip ?_
  refine nx_n ?_
  refine swp_seq ?_
  refine swp_seqL (r := v4) h (fun j5 => ⟨19, [(0, vl ePoint aS), (1, .clo 78 [.ptr [vl eLabel aF0] 0]), (7, vi (aS.length : Int)), (8, vi s3.1)], []⟩) (fun v6 h => ?_) (fun j5 h => ?_)
  refine swp_blk (a := v6) ?_
  refine srk tbok ⟨19, [(0, vl ePoint aS), (1, .clo 78 [.ptr [vl eLabel aF0] 0]), (5, vi s3.1), (7, vi (aS.length : Int)), (8, vi s3.1)], []⟩ ?_
  refine sr ?_
  refine SRun.ck tbok 3 ⟨19, [(0, vl ePoint aS), (1, .clo 78 [.ptr [vl eLabel aF0] 0]), (5, vi s3.1), (7, vi (aS.length : Int)), (8, vi s3.1), (11, .clo 78 [.ptr [vl eLabel aF0] 0]), (12, vl ePoint aS), (13, vi s3.1)], []⟩ ?_
  obtain ⟨x7, hx7, h⟩ := bind_some h
  refine SRun.ls (x_index (L := aS) (f := ePoint) (ti := ti91) (tj := ti50) (e := 50) (k := .i64) tbok rfl hx7) ?_
  refine SRun.ck tbok 1 ⟨19, [(0, vl ePoint aS), (1, .clo 78 [.ptr [vl eLabel aF0] 0]), (5, vi s3.1), (7, vi (aS.length : Int)), (8, vi s3.1), (11, .clo 78 [.ptr [vl eLabel aF0] 0]), (15, .agg (tc ePoint x7))], []⟩ ?_
  obtain ⟨x8, hx8, h⟩ := bind_some h
  refine SRun.ls (xc ents78 (impl_isAllowed_1_run x7 aF0 _ hx8)) ?_
  refine SRun.nx ?_
  refine swp_cd h (fun h => ?_) fun h => ?_
  refine srk tbok ⟨19, [(4, vi s3.1)], []⟩ ?_
  refine swp_ret ?_
  obtain rfl := inj h
  exact q_br (q_rr (q_rr (q_br (q_rr (q_fr (f1 fv))))))
  refine swp_skip ?_
  obtain rfl := inj h
  exact q_bn (q_l (Le.sub0))
  refine swp_reg ?_
  refine SRun.ck tbok 2 ⟨19, [(0, vl ePoint aS), (1, .clo 78 [.ptr [vl eLabel aF0] 0]), (7, vi (aS.length : Int)), (8, vi (w64 (s3.1 + 1)))], []⟩ ?_
  refine SRun.nil ?_
  obtain rfl := inj h
  exact q_l (Le.sub0)
  refine swp_exit ?_
  obtain rfl := inj h
  exact nx_e (q_re (q_bh (q_l (Le.sub0))))
  refine srk tbok ⟨19, [(4, vi (-1))], []⟩ ?_
  refine swp_ret ?_
  obtain rfl := inj h
  exact q_fr (f1 fv)
theorem ents81 : Ents Try.prog 81 := ents_of Try.func81 (by kernel_rfl) rfl
noncomputable def slices_ContainsFunc_Point_impl_isAllowed_1 (aS : (List Point)) (aF0 : (List Label)) : Option (Bool) :=
  ((slices_IndexFunc_Point_impl_isAllowed_1 aS aF0).bind fun x1 => some (decide (x1 ≥ 0)))
theorem slices_ContainsFunc_Point_impl_isAllowed_1_run (aS : (List Point)) (aF0 : (List Label)) (r : Bool) (h : slices_ContainsFunc_Point_impl_isAllowed_1 aS aF0 = some r) : SCall Try.prog 69 [.v (vl ePoint aS), .v (.clo 78 [.ptr [vl eLabel aF0] 0])] ⟨[.v (vb r)], [], false⟩ := by
  refine scall_in Try.func69 rfl [(.tmp 4)] rfl (fun r => ⟨[.v (vb r)], [], false⟩) (r := r) ?_
  unfold slices_ContainsFunc_Point_impl_isAllowed_1 at h
  refine srk tbok ⟨9, [(0, vl ePoint aS), (1, .clo 78 [.ptr [vl eLabel aF0] 0])], []⟩ ?_
  refine sr ?_
  refine SRun.ck tbok 2 ⟨9, [(5, vl ePoint aS), (6, .clo 78 [.ptr [vl eLabel aF0] 0])], []⟩ ?_
  obtain ⟨x1, hx1, h⟩ := bind_some h
  refine SRun.ls (xc ents81 (slices_IndexFunc_Point_impl_isAllowed_1_run aS aF0 _ hx1)) ?_
  refine ckn tbok 2 ⟨9, [(4, vb (decide (x1 ≥ 0)))], []⟩ ?_
  refine swp_ret ?_
  obtain rfl := inj h
  exact q_fr (f1 fv)
theorem ents69 : Ents Try.prog 69 := ents_of Try.func69 (by kernel_rfl) rfl
noncomputable def impl_isAllowed (aList : (List Label)) (aL : Label) (aPosition : Int) : Option (Bool) :=
  ((impl_Label_covered aL aPosition).bind fun x1 => ((slices_ContainsFunc_Point_impl_isAllowed_1 x1 aList).bind fun x2 => some (!x2)))
theorem impl_isAllowed_run (aList : (List Label)) (aL : Label) (aPosition : Int) (r : Bool) (h : impl_isAllowed aList aL aPosition = some r) : SCall Try.prog 60 [.v (vl eLabel aList), .v (.agg (tc eLabel aL)), .v (vi aPosition)] ⟨[.v (vb r)], [], false⟩ := by
  refine scall_in Try.func60 rfl [(.tmp 6)] rfl (fun r => ⟨[.v (vb r)], [], false⟩) (r := r) ?_
  unfold impl_isAllowed at h
  refine srk tbok ⟨13, [(2, vi aPosition), (3, .ref 3 0), (4, .ref 4 0)], [(3, .box [vl eLabel aList]), (4, .box (tc eLabel aL))]⟩ ?_
  refine sr ?_
  refine SRun.ck tbok 2 ⟨13, [(3, .ref 3 0), (7, .agg (tc eLabel aL)), (8, vi aPosition)], [(3, .box [vl eLabel aList])]⟩ ?_
  obtain ⟨x1, hx1, h⟩ := bind_some h
  refine SRun.ls (xc ents68 (impl_Label_covered_run aL aPosition _ hx1)) ?_
  refine SRun.ck tbok 1 ⟨13, [(9, .own 9), (10, .clo 78 [.ref 3 0])], [(3, .box [vl eLabel aList]), (9, oa 50 2 ePoint x1)]⟩ ?_
  obtain ⟨x2, hx2, h⟩ := bind_some h
  refine SRun.ls (xc ents69 (slices_ContainsFunc_Point_impl_isAllowed_1_run x1 aList _ hx2)) ?_
  refine ckn tbok 2 ⟨13, [(6, vb (!x2))], []⟩ ?_
  refine swp_ret ?_
  obtain rfl := inj h
  exact q_fr (f1 fv)
theorem ents60 : Ents Try.prog 60 := ents_of Try.func60 (by kernel_rfl) rfl
noncomputable def slices_Index_Point (aS : (List Point)) (aV : Point) : Option (Int) :=
  (((forN (aS.length : Int) (fun (i3 : Int) (_ : Unit) => ((at' aS i3).bind fun x7 => (bif ((aV.X == x7.X) && (aV.Y == x7.Y)) then some (.inr (.inr i3)) else some (.inl ())))) (fun (_ : Unit) => .inl ()) 0 ())).bind (Sum.elim (fun (_ : Unit) => some (-1)) some))
theorem slices_Index_Point_run (aS : (List Point)) (aV : Point) (r : Int) (h : slices_Index_Point aS aV = some r) : SCall Try.prog 82 [.v (vl ePoint aS), .v (.agg (tc ePoint aV))] ⟨[.v (vi r)], [], false⟩ := by
  refine scall_in Try.func82 rfl [(.tmp 4)] rfl (fun r => ⟨[.v (vi r)], [], false⟩) (r := r) ?_
  unfold slices_Index_Point at h
  refine srk tbok ⟨19, [(0, vl ePoint aS), (3, .ref 3 0)], [(3, .box (tc ePoint aV))]⟩ ?_
  refine swp_seq ?_
  refine srk tbok ⟨19, [(0, vl ePoint aS), (3, .ref 3 0), (7, vi (aS.length : Int)), (8, vi 0)], [(3, .box (tc ePoint aV))]⟩ ?_
  refine swp_seqE (r := r) h (fun j1 => ⟨19, [], []⟩) (fun v2 h => ?_) (fun j1 h => ?_)
  refine swp_blk (a := v2) ?_
  refine swp_lpL (r := v2) (s := (0, ())) _ (fun s3 => ⟨19, [(0, vl ePoint aS), (3, .ref 3 0), (7, vi (aS.length : Int)), (8, vi s3.1)], [(3, .box (tc ePoint aV))]⟩) _ (Le.sub0) h (fun s3 v4 h => ?_)
  refine srk tbok ⟨19, [(0, vl ePoint aS), (3, .ref 3 0), (7, vi (aS.length : Int)), (8, vi s3.1), (9, vb (decide (s3.1 < (aS.length : Int))))], [(3, .box (tc ePoint aV))]⟩ ?_
  refine swp_seq ?_
  refine swp_cd h (fun h => ?_) fun h => ?_
  refine swp_skip ?_
  refine nx_n ?_
  refine swp_seq ?_
  refine swp_seqL (r := v4) h (fun j5 => ⟨19, [(0, vl ePoint aS), (3, .ref 3 0), (7, vi (aS.length : Int)), (8, vi s3.1)], [(3, .box (tc ePoint aV))]⟩) (fun v6 h => ?_) (fun j5 h => ?_)
  refine swp_blk (a := v6) ?_
  refine srk tbok ⟨19, [(0, vl ePoint aS), (3, .ref 3 0), (5, vi s3.1), (7, vi (aS.length : Int)), (8, vi s3.1)], [(3, .box (tc ePoint aV))]⟩ ?_
  refine swp_seq ?_
  refine swp_dr mixed ?_
  refine DGo.ck tbok false 3 ⟨19, [(0, vl ePoint aS), (3, .ref 3 0), (5, vi s3.1), (7, vi (aS.length : Int)), (8, vi s3.1), (11, .agg (tc ePoint aV)), (12, vl ePoint aS), (13, vi s3.1)], [(3, .box (tc ePoint aV))]⟩ ?_
  obtain ⟨x7, hx7, h⟩ := bind_some h
  refine DGo.step (x_index (L := aS) (f := ePoint) (ti := ti91) (tj := ti50) (e := 50) (k := .i64) tbok rfl hx7) ?_
  refine DGo.ck tbok false 1 ⟨19, [(0, vl ePoint aS), (3, .ref 3 0), (5, vi s3.1), (7, vi (aS.length : Int)), (8, vi s3.1), (11, .agg (tc ePoint aV)), (15, .agg (tc ePoint x7))], [(3, .box (tc ePoint aV))]⟩ ?_
  refine DGo.step (x_lstep_eq tbok false (xs := [vi aV.X, vi aV.Y]) (ys := [vi x7.X, vi x7.Y]) (b := ((aV.X == x7.X) && (aV.Y == x7.Y))) rfl) ?_
  refine DGo.nx ?_
  refine swp_cd h (fun h => ?_) fun h => ?_
  refine srk tbok ⟨19, [(4, vi s3.1)], []⟩ ?_
  refine swp_ret ?_
  obtain rfl := inj h
  exact q_br (q_rr (q_rr (q_br (q_rr (q_fr (f1 fv))))))
  refine swp_skip ?_
  obtain rfl := inj h
  exact q_bn (q_l (Le.sub0))
  refine swp_reg ?_
  refine SRun.ck tbok 2 ⟨19, [(0, vl ePoint aS), (3, .ref 3 0), (7, vi (aS.length : Int)), (8, vi (w64 (s3.1 + 1)))], [(3, .box (tc ePoint aV))]⟩ ?_
  refine SRun.nil ?_
  obtain rfl := inj h
  exact q_l (Le.sub0)
  refine swp_exit ?_
  obtain rfl := inj h
  exact nx_e (q_re (q_bh (q_l (Le.sub0))))
  refine srk tbok ⟨19, [(4, vi (-1))], []⟩ ?_
  refine swp_ret ?_
  obtain rfl := inj h
  exact q_fr (f1 fv)
theorem ents82 : Ents Try.prog 82 := ents_of Try.func82 (by kernel_rfl) rfl
noncomputable def slices_Contains_Point (aS : (List Point)) (aV : Point) : Option (Bool) :=
  ((slices_Index_Point aS aV).bind fun x1 => some (decide (x1 ≥ 0)))
theorem slices_Contains_Point_run (aS : (List Point)) (aV : Point) (r : Bool) (h : slices_Contains_Point aS aV = some r) : SCall Try.prog 71 [.v (vl ePoint aS), .v (.agg (tc ePoint aV))] ⟨[.v (vb r)], [], false⟩ := by
  refine scall_in Try.func71 rfl [(.tmp 4)] rfl (fun r => ⟨[.v (vb r)], [], false⟩) (r := r) ?_
  unfold slices_Contains_Point at h
  refine srk tbok ⟨9, [(0, vl ePoint aS), (3, .ref 3 0)], [(3, .box (tc ePoint aV))]⟩ ?_
  refine sr ?_
  refine SRun.ck tbok 2 ⟨9, [(5, vl ePoint aS), (6, .agg (tc ePoint aV))], []⟩ ?_
  obtain ⟨x1, hx1, h⟩ := bind_some h
  refine SRun.ls (xc ents82 (slices_Index_Point_run aS aV _ hx1)) ?_
  refine ckn tbok 2 ⟨9, [(4, vb (decide (x1 ≥ 0)))], []⟩ ?_
  refine swp_ret ?_
  obtain rfl := inj h
  exact q_fr (f1 fv)
theorem ents71 : Ents Try.prog 71 := ents_of Try.func71 (by kernel_rfl) rfl
noncomputable def impl_clash_1 (aP : Point) (c0 : (List Point)) : Option (Bool) :=
  ((slices_Contains_Point c0 aP).bind fun x1 => some x1)
theorem impl_clash_1_run (aP : Point) (c0 : (List Point)) (r : Bool) (h : impl_clash_1 aP c0 = some r) : SCall Try.prog 70 [.v (.agg (tc ePoint aP)), .v (.ptr [vl ePoint c0] 0)] ⟨[.v (vb r)], [], false⟩ := by
  refine scall_in Try.func70 rfl [(.tmp 3)] rfl (fun r => ⟨[.v (vb r)], [], false⟩) (r := r) ?_
  unfold impl_clash_1 at h
  refine srk tbok ⟨7, [(1, .ptr [vl ePoint c0] 0), (2, .ref 2 0)], [(2, .box (tc ePoint aP))]⟩ ?_
  refine sr ?_
  refine SRun.ck tbok 2 ⟨7, [(4, vl ePoint c0), (5, .agg (tc ePoint aP))], []⟩ ?_
  obtain ⟨x1, hx1, h⟩ := bind_some h
  refine SRun.ls (xc ents71 (slices_Contains_Point_run c0 aP _ hx1)) ?_
  refine ckn tbok 1 ⟨7, [(3, vb x1)], []⟩ ?_
  refine swp_ret ?_
  obtain rfl := inj h
  exact q_fr (f1 fv)
theorem ents70 : Ents Try.prog 70 := ents_of Try.func70 (by kernel_rfl) rfl
noncomputable def slices_IndexFunc_Point_impl_clash_1 (aS : (List Point)) (aF0 : (List Point)) : Option (Int) :=
  (((forN (aS.length : Int) (fun (i3 : Int) (_ : Unit) => ((at' aS i3).bind fun x7 => ((impl_clash_1 x7 aF0).bind fun x8 => (bif x8 then some (.inr (.inr i3)) else some (.inl ()))))) (fun (_ : Unit) => .inl ()) 0 ())).bind (Sum.elim (fun (_ : Unit) => some (-1)) some))
theorem slices_IndexFunc_Point_impl_clash_1_run (aS : (List Point)) (aF0 : (List Point)) (r : Int) (h : slices_IndexFunc_Point_impl_clash_1 aS aF0 = some r) : SCall Try.prog 81 [.v (vl ePoint aS), .v (.clo 70 [.ptr [vl ePoint aF0] 0])] ⟨[.v (vi r)], [], false⟩ := by
  refine scall_in Try.func81 rfl [(.tmp 4)] rfl (fun r => ⟨[.v (vi r)], [], false⟩) (r := r) ?_
  unfold slices_IndexFunc_Point_impl_clash_1 at h
  refine srk tbok ⟨19, [(0, vl ePoint aS), (1, .clo 70 [.ptr [vl ePoint aF0] 0])], []⟩ ?_
  refine swp_seq ?_
  refine srk tbok ⟨19, [(0, vl ePoint aS), (1, .clo 70 [.ptr [vl ePoint aF0] 0]), (7, vi (aS.length : Int)), (8, vi 0)], []⟩ ?_
  refine swp_seqE (r := r) h (fun j1 => ⟨19, [], []⟩) (fun v2 h => ?_) (fun j1 h => ?_)
  refine swp_blk (a := v2) ?_
  refine swp_lpL (r := v2) (s := (0, ())) _ (fun s3 => ⟨19, [(0, vl ePoint aS), (1, .clo 70 [.ptr [vl ePoint aF0] 0]), (7, vi (aS.length : Int)), (8, vi s3.1)], []⟩) _ (Le.sub0) h (fun s3 v4 h => ?_)
  refine srk tbok ⟨19, [(0, vl ePoint aS), (1, .clo 70 [.ptr [vl ePoint aF0] 0]), (7, vi (aS.length : Int)), (8, vi s3.1), (9, vb (decide (s3.1 < (aS.length : Int))))], []⟩ ?_
  refine swp_seq ?_
  refine swp_cd h (fun h => ?_) fun h => ?_
  refine swp_skip ?_
  refine nx_n ?_
  refine swp_seq ?_
  refine swp_seqL (r := v4) h (fun j5 => ⟨19, [(0, vl ePoint aS), (1, .clo 70 [.ptr [vl ePoint aF0] 0]), (7, vi (aS.length : Int)), (8, vi s3.1)], []⟩) (fun v6 h => ?_) (fun j5 h => ?_)
  refine swp_blk (a := v6) ?_
  refine srk tbok ⟨19, [(0, vl ePoint aS), (1, .clo 70 [.ptr [vl ePoint aF0] 0]), (5, vi s3.1), (7, vi (aS.length : Int)), (8, vi s3.1)], []⟩ ?_
  refine sr ?_
  refine SRun.ck tbok 3 ⟨19, [(0, vl ePoint aS), (1, .clo 70 [.ptr [vl ePoint aF0] 0]), (5, vi s3.1), (7, vi (aS.length : Int)), (8, vi s3.1), (11, .clo 70 [.ptr [vl ePoint aF0] 0]), (12, vl ePoint aS), (13, vi s3.1)], []⟩ ?_
  obtain ⟨x7, hx7, h⟩ := bind_some h
  refine SRun.ls (x_index (L := aS) (f := ePoint) (ti := ti91) (tj := ti50) (e := 50) (k := .i64) tbok rfl hx7) ?_
  refine SRun.ck tbok 1 ⟨19, [(0, vl ePoint aS), (1, .clo 70 [.ptr [vl ePoint aF0] 0]), (5, vi s3.1), (7, vi (aS.length : Int)), (8, vi s3.1), (11, .clo 70 [.ptr [vl ePoint aF0] 0]), (15, .agg (tc ePoint x7))], []⟩ ?_
  obtain ⟨x8, hx8, h⟩ := bind_some h
  refine SRun.ls (xc ents70 (impl_clash_1_run x7 aF0 _ hx8)) ?_
  refine SRun.nx ?_
  refine swp_cd h (fun h => ?_) fun h => ?_
  refine srk tbok ⟨19, [(4, vi s3.1)], []⟩ ?_
  refine swp_ret ?_
  obtain rfl := inj h
  exact q_br (q_rr (q_rr (q_br (q_rr (q_fr (f1 fv))))))
  refine swp_skip ?_
  obtain rfl := inj h
  exact q_bn (q_l (Le.sub0))
  refine swp_reg ?_
  refine SRun.ck tbok 2 ⟨19, [(0, vl ePoint aS), (1, .clo 70 [.ptr [vl ePoint aF0] 0]), (7, vi (aS.length : Int)), (8, vi (w64 (s3.1 + 1)))], []⟩ ?_
  refine SRun.nil ?_
  obtain rfl := inj h
  exact q_l (Le.sub0)
  refine swp_exit ?_
  obtain rfl := inj h
  exact nx_e (q_re (q_bh (q_l (Le.sub0))))
  refine srk tbok ⟨19, [(4, vi (-1))], []⟩ ?_
  refine swp_ret ?_
  obtain rfl := inj h
  exact q_fr (f1 fv)
noncomputable def slices_ContainsFunc_Point_impl_clash_1 (aS : (List Point)) (aF0 : (List Point)) : Option (Bool) :=
  ((slices_IndexFunc_Point_impl_clash_1 aS aF0).bind fun x1 => some (decide (x1 ≥ 0)))
theorem slices_ContainsFunc_Point_impl_clash_1_run (aS : (List Point)) (aF0 : (List Point)) (r : Bool) (h : slices_ContainsFunc_Point_impl_clash_1 aS aF0 = some r) : SCall Try.prog 69 [.v (vl ePoint aS), .v (.clo 70 [.ptr [vl ePoint aF0] 0])] ⟨[.v (vb r)], [], false⟩ := by
  refine scall_in Try.func69 rfl [(.tmp 4)] rfl (fun r => ⟨[.v (vb r)], [], false⟩) (r := r) ?_
  unfold slices_ContainsFunc_Point_impl_clash_1 at h
  refine srk tbok ⟨9, [(0, vl ePoint aS), (1, .clo 70 [.ptr [vl ePoint aF0] 0])], []⟩ ?_
  refine sr ?_
  refine SRun.ck tbok 2 ⟨9, [(5, vl ePoint aS), (6, .clo 70 [.ptr [vl ePoint aF0] 0])], []⟩ ?_
  obtain ⟨x1, hx1, h⟩ := bind_some h
  refine SRun.ls (xc ents81 (slices_IndexFunc_Point_impl_clash_1_run aS aF0 _ hx1)) ?_
  refine ckn tbok 2 ⟨9, [(4, vb (decide (x1 ≥ 0)))], []⟩ ?_
  refine swp_ret ?_
  obtain rfl := inj h
  exact q_fr (f1 fv)
noncomputable def impl_clash (aList : (List Label)) (aPlacement : (List Int)) (aI : Int) (aK : Int) : Option (Bool) :=
  ((at' aList aK).bind fun x1 => ((at' aPlacement aK).bind fun x2 => ((impl_Label_covered x1 x2).bind fun x3 => ((at' aList aI).bind fun x4 => ((at' aPlacement aI).bind fun x5 => ((impl_Label_covered x4 x5).bind fun x6 => ((slices_ContainsFunc_Point_impl_clash_1 x6 x3).bind fun x7 => some x7)))))))
theorem impl_clash_run (aList : (List Label)) (aPlacement : (List Int)) (aI : Int) (aK : Int) (r : Bool) (h : impl_clash aList aPlacement aI aK = some r) : SCall Try.prog 49 [.v (vl eLabel aList), .v (vl (eI .i64) aPlacement), .v (vi aI), .v (vi aK)] ⟨[.v (vb r)], [], false⟩ := by
  refine scall_in Try.func49 rfl [(.tmp 8)] rfl (fun r => ⟨[.v (vb r)], [], false⟩) (r := r) ?_
  unfold impl_clash at h
  refine srk tbok ⟨30, [(0, vl eLabel aList), (1, vl (eI .i64) aPlacement), (2, vi aI), (3, vi aK)], []⟩ ?_
  refine swp_seq ?_
  refine swp_dr mixed ?_
  refine DGo.ck tbok false 2 ⟨30, [(0, vl eLabel aList), (1, vl (eI .i64) aPlacement), (2, vi aI), (3, vi aK), (10, vl eLabel aList), (11, vi aK)], []⟩ ?_
  obtain ⟨x1, hx1, h⟩ := bind_some h
  refine DGo.step (x_index (L := aList) (f := eLabel) (ti := ti27) (tj := ti52) (e := 52) (k := .i64) tbok rfl hx1) ?_
  refine DGo.ck tbok false 3 ⟨30, [(0, vl eLabel aList), (1, vl (eI .i64) aPlacement), (2, vi aI), (13, .agg (tc eLabel x1)), (14, vl (eI .i64) aPlacement), (15, vi aK)], []⟩ ?_
  obtain ⟨x2, hx2, h⟩ := bind_some h
  refine DGo.step (x_index (L := aPlacement) (f := (eI .i64)) (ti := ti24) (tj := ti2) (e := 2) (k := .i64) tbok rfl hx2) ?_
  refine DGo.ck tbok false 1 ⟨30, [(0, vl eLabel aList), (1, vl (eI .i64) aPlacement), (2, vi aI), (13, .agg (tc eLabel x1)), (17, vi x2)], []⟩ ?_
  obtain ⟨x3, hx3, h⟩ := bind_some h
  refine DGo.step (xc ents68 (impl_Label_covered_run x1 x2 _ hx3)) ?_
  refine DGo.ck tbok false 1 ⟨30, [(0, vl eLabel aList), (1, vl (eI .i64) aPlacement), (2, vi aI), (9, .ref 9 0), (18, .own 18)], [(9, .box [vl ePoint ([] : List Point)]), (18, oa 50 2 ePoint x3)]⟩ ?_
  refine DGo.seq (by kernel_rfl) (by kernel_rfl) ?_
  refine ckn tbok 1 ⟨30, [(0, vl eLabel aList), (1, vl (eI .i64) aPlacement), (2, vi aI), (9, .ref 9 0)], [(9, .box [.own 18]), (18, oa 50 2 ePoint x3)]⟩ ?_
  refine swp_seq ?_
  refine swp_dr mixed ?_
  refine DGo.ck tbok false 2 ⟨30, [(1, vl (eI .i64) aPlacement), (2, vi aI), (9, .ref 9 0), (19, vl eLabel aList), (20, vi aI)], [(9, .box [.own 18]), (18, oa 50 2 ePoint x3)]⟩ ?_
  obtain ⟨x4, hx4, h⟩ := bind_some h
  refine DGo.step (x_index (L := aList) (f := eLabel) (ti := ti27) (tj := ti52) (e := 52) (k := .i64) tbok rfl hx4) ?_
  refine DGo.ck tbok false 3 ⟨30, [(9, .ref 9 0), (22, .agg (tc eLabel x4)), (23, vl (eI .i64) aPlacement), (24, vi aI)], [(9, .box [.own 18]), (18, oa 50 2 ePoint x3)]⟩ ?_
  obtain ⟨x5, hx5, h⟩ := bind_some h
  refine DGo.step (x_index (L := aPlacement) (f := (eI .i64)) (ti := ti24) (tj := ti2) (e := 2) (k := .i64) tbok rfl hx5) ?_
  refine DGo.ck tbok false 1 ⟨30, [(9, .ref 9 0), (22, .agg (tc eLabel x4)), (26, vi x5)], [(9, .box [.own 18]), (18, oa 50 2 ePoint x3)]⟩ ?_
  obtain ⟨x6, hx6, h⟩ := bind_some h
  refine DGo.step (xc ents68 (impl_Label_covered_run x4 x5 _ hx6)) ?_
  refine DGo.ck tbok false 1 ⟨30, [(27, .own 27), (28, .clo 70 [.ref 9 0])], [(9, .box [.own 18]), (18, oa 50 2 ePoint x3), (27, oa 50 2 ePoint x6)]⟩ ?_
  obtain ⟨x7, hx7, h⟩ := bind_some h
  refine DGo.stepW false [27] (xc ents69 (slices_ContainsFunc_Point_impl_clash_1_run x6 x3 _ hx7)) ?_
  refine DGo.ck tbok false 1 ⟨30, [(8, vb x7)], []⟩ ?_
  refine DGo.nx ?_
  refine swp_ret ?_
  obtain rfl := inj h
  exact q_fr (f1 fv)
theorem ents49 : Ents Try.prog 49 := ents_of Try.func49 (by kernel_rfl) rfl
noncomputable def impl_isClearAt (aList : (List Label)) (aPlacement : (List Int)) (aI : Int) : Option (Bool) :=
  ((at' aList aI).bind fun x1 => ((at' aPlacement aI).bind fun x2 => ((impl_isAllowed aList x1 x2).bind fun x3 => (bif (!x3) then some false else (((forN aI (fun (i6 : Int) (_ : Unit) => ((impl_clash aList aPlacement aI i6).bind fun x10 => (bif x10 then some (.inr (.inr false)) else some (.inl ())))) (fun (_ : Unit) => .inl ()) 0 ())).bind (Sum.elim (fun (_ : Unit) => some true) some))))))
theorem impl_isClearAt_run (aList : (List Label)) (aPlacement : (List Int)) (aI : Int) (r : Bool) (h : impl_isClearAt aList aPlacement aI = some r) : SCall Try.prog 36 [.v (vl eLabel aList), .v (vl (eI .i64) aPlacement), .v (vi aI)] ⟨[.v (vb r)], [], false⟩ := by
  refine scall_in Try.func36 rfl [(.tmp 6)] rfl (fun r => ⟨[.v (vb r)], [], false⟩) (r := r) ?_
  unfold impl_isClearAt at h
  refine srk tbok ⟨29, [(0, vl eLabel aList), (1, vl (eI .i64) aPlacement), (2, vi aI)], []⟩ ?_
  refine swp_seq ?_
  refine swp_seq ?_
  refine swp_dr mixed ?_
  refine DGo.ck tbok false 3 ⟨29, [(0, vl eLabel aList), (1, vl (eI .i64) aPlacement), (2, vi aI), (8, vl eLabel aList), (9, vl eLabel aList), (10, vi aI)], []⟩ ?_
  obtain ⟨x1, hx1, h⟩ := bind_some h
  refine DGo.step (x_index (L := aList) (f := eLabel) (ti := ti27) (tj := ti52) (e := 52) (k := .i64) tbok rfl hx1) ?_
  refine DGo.ck tbok false 3 ⟨29, [(0, vl eLabel aList), (1, vl (eI .i64) aPlacement), (2, vi aI), (8, vl eLabel aList), (12, .agg (tc eLabel x1)), (13, vl (eI .i64) aPlacement), (14, vi aI)], []⟩ ?_
  obtain ⟨x2, hx2, h⟩ := bind_some h
  refine DGo.step (x_index (L := aPlacement) (f := (eI .i64)) (ti := ti24) (tj := ti2) (e := 2) (k := .i64) tbok rfl hx2) ?_
  refine DGo.ck tbok false 1 ⟨29, [(0, vl eLabel aList), (1, vl (eI .i64) aPlacement), (2, vi aI), (8, vl eLabel aList), (12, .agg (tc eLabel x1)), (16, vi x2)], []⟩ ?_
  obtain ⟨x3, hx3, h⟩ := bind_some h
  refine DGo.step (xc ents60 (impl_isAllowed_run aList x1 x2 _ hx3)) ?_
  refine DGo.ck tbok false 1 ⟨29, [(0, vl eLabel aList), (1, vl (eI .i64) aPlacement), (2, vi aI), (18, vb (!x3))], []⟩ ?_
  refine DGo.nx ?_
  refine swp_cd h (fun h => ?_) fun h => ?_
  refine srk tbok ⟨29, [(6, vb false)], []⟩ ?_
  refine swp_ret ?_
  obtain rfl := inj h
  exact nx_r (q_fr (f1 fv))
  refine swp_skip ?_
  refine nx_n ?_
  refine swp_seq ?_
  refine srk tbok ⟨29, [(0, vl eLabel aList), (1, vl (eI .i64) aPlacement), (2, vi aI), (19, vi aI), (20, vi 0)], []⟩ ?_
  refine swp_seqE (r := r) h (fun j4 => ⟨29, [], []⟩) (fun v5 h => ?_) (fun j4 h => ?_)
  refine swp_blk (a := v5) ?_
  refine swp_lpL (r := v5) (s := (0, ())) _ (fun s6 => ⟨29, [(0, vl eLabel aList), (1, vl (eI .i64) aPlacement), (2, vi aI), (19, vi aI), (20, vi s6.1)], []⟩) _ (Le.sub0) h (fun s6 v7 h => ?_)
  refine srk tbok ⟨29, [(0, vl eLabel aList), (1, vl (eI .i64) aPlacement), (2, vi aI), (19, vi aI), (20, vi s6.1), (21, vb (decide (s6.1 < aI)))], []⟩ ?_
  refine swp_seq ?_
  refine swp_cd h (fun h => ?_) fun h => ?_
  refine swp_skip ?_
  refine nx_n ?_
  refine swp_seq ?_
  refine swp_seqL (r := v7) h (fun j8 => ⟨29, [(0, vl eLabel aList), (1, vl (eI .i64) aPlacement), (2, vi aI), (19, vi aI), (20, vi s6.1)], []⟩) (fun v9 h => ?_) (fun j8 h => ?_)
  refine swp_blk (a := v9) ?_
  refine srk tbok ⟨29, [(0, vl eLabel aList), (1, vl (eI .i64) aPlacement), (2, vi aI), (7, vi s6.1), (19, vi aI), (20, vi s6.1)], []⟩ ?_
  refine sr ?_
  refine SRun.ck tbok 4 ⟨29, [(0, vl eLabel aList), (1, vl (eI .i64) aPlacement), (2, vi aI), (19, vi aI), (20, vi s6.1), (23, vl eLabel aList), (24, vl (eI .i64) aPlacement), (25, vi aI), (26, vi s6.1)], []⟩ ?_
  obtain ⟨x10, hx10, h⟩ := bind_some h
  refine SRun.ls (xc ents49 (impl_clash_run aList aPlacement aI s6.1 _ hx10)) ?_
  refine SRun.nx ?_
  refine swp_cd h (fun h => ?_) fun h => ?_
  refine srk tbok ⟨29, [(6, vb false)], []⟩ ?_
  refine swp_ret ?_
  obtain rfl := inj h
  exact q_br (q_rr (q_rr (q_br (q_rr (q_fr (f1 fv))))))
  refine swp_skip ?_
  obtain rfl := inj h
  exact q_bn (q_l (Le.sub0))
  refine swp_reg ?_
  refine SRun.ck tbok 2 ⟨29, [(0, vl eLabel aList), (1, vl (eI .i64) aPlacement), (2, vi aI), (19, vi aI), (20, vi (w64 (s6.1 + 1)))], []⟩ ?_
  refine SRun.nil ?_
  obtain rfl := inj h
  exact q_l (Le.sub0)
  refine swp_exit ?_
  obtain rfl := inj h
  exact nx_e (q_re (q_bh (q_l (Le.sub0))))
  refine srk tbok ⟨29, [(6, vb true)], []⟩ ?_
  refine swp_ret ?_
  obtain rfl := inj h
  exact q_fr (f1 fv)
theorem ents36 : Ents Try.prog 36 := ents_of Try.func36 (by kernel_rfl) rfl

theorem ents32 : Ents Try.prog 32 := ents_of Try.func32 (by kernel_rfl) rfl
noncomputable def slices_Concat_int64 (aSlices : (List (List Int))) : Option ((List Int)) :=
  (((forS (aSlices.length : Int) (fun (i3 : Int) (s3 : Int) => ((at' aSlices i3).bind fun x7 => (bif (decide ((w64 (s3 + (x7.length : Int))) < 0)) then none else some (w64 (s3 + (x7.length : Int)))))) (fun (s3 : Int) => s3) 0 0)).bind fun (j1 : Int) => ((grow' j1).bind fun _ => (((forS (aSlices.length : Int) (fun (i11 : Int) (s11 : (List Int)) => ((at' aSlices i11).bind fun x15 => ((app' s11 x15).bind fun x16 => some x16))) (fun (s11 : (List Int)) => s11) 0 ([] : List Int))).bind fun (j9 : (List Int)) => some j9)))
theorem slices_Concat_int64_run (aSlices : (List (List Int))) (r : (List Int)) (h : slices_Concat_int64 aSlices = some r) : SCall Try.prog 35 [.v (vl (eL (eI .i64)) aSlices)] ⟨[.own 2 1 r.length (r.map (eI .i64))], [], false⟩ := by
  refine scall_in Try.func35 rfl [(.tmp 2)] rfl (fun r => ⟨[.own 2 1 r.length (r.map (eI .i64))], [], false⟩) (r := r) ?_
  unfold slices_Concat_int64 at h
  refine srk tbok ⟨36, [(0, vl (eL (eI .i64)) aSlices)], []⟩ ?_
  refine srk tbok ⟨36, [(0, vl (eL (eI .i64)) aSlices), (3, vi 0)], []⟩ ?_
  refine swp_seq ?_
  refine srk tbok ⟨36, [(0, vl (eL (eI .i64)) aSlices), (3, vi 0), (9, vl (eL (eI .i64)) aSlices), (10, vi (aSlices.length : Int)), (11, vi 0)], []⟩ ?_
  refine swp_seqJ h (fun j1 => ⟨36, [(0, vl (eL (eI .i64)) aSlices), (3, vi j1)], []⟩) (fun v2 h => ?_) (fun j1 h => ?_)
  refine swp_blk (a := v2) ?_
  refine swp_lpL (r := v2) (s := (0, 0)) _ (fun s3 => ⟨36, [(0, vl (eL (eI .i64)) aSlices), (3, vi s3.2), (9, vl (eL (eI .i64)) aSlices), (10, vi (aSlices.length : Int)), (11, vi s3.1)], []⟩) _ (Le.sub0) h (fun s3 v4 h => ?_)
  refine srk tbok ⟨36, [(0, vl (eL (eI .i64)) aSlices), (3, vi s3.2), (9, vl (eL (eI .i64)) aSlices), (10, vi (aSlices.length : Int)), (11, vi s3.1), (12, vb (decide (s3.1 < (aSlices.length : Int))))], []⟩ ?_
  refine swp_seq ?_
  refine swp_cd h (fun h => ?_) fun h => ?_
  refine swp_skip ?_
  refine nx_n ?_
  refine swp_seq ?_
  refine swp_seqJ h (fun j5 => ⟨36, [(0, vl (eL (eI .i64)) aSlices), (3, vi j5), (9, vl (eL (eI .i64)) aSlices), (10, vi (aSlices.length : Int)), (11, vi s3.1)], []⟩) (fun v6 h => ?_) (fun j5 h => ?_)
  refine swp_blk (a := v6) ?_
  refine sr ?_
  obtain ⟨x7, hx7, h⟩ := bind_some h
  refine SRun.ls (x_index (L := aSlices) (f := (eL (eI .i64))) (ti := ti43) (tj := ti24) (e := 24) (k := .i64) tbok rfl hx7) ?_
  refine ckn tbok 2 ⟨36, [(0, vl (eL (eI .i64)) aSlices), (3, vi s3.2), (5, vl (eI .i64) x7), (9, vl (eL (eI .i64)) aSlices), (10, vi (aSlices.length : Int)), (11, vi s3.1)], []⟩ ?_
  refine srk tbok ⟨36, [(0, vl (eL (eI .i64)) aSlices), (3, vi (w64 (s3.2 + (x7.length : Int)))), (9, vl (eL (eI .i64)) aSlices), (10, vi (aSlices.length : Int)), (11, vi s3.1)], []⟩ ?_
  refine srk tbok ⟨36, [(0, vl (eL (eI .i64)) aSlices), (3, vi (w64 (s3.2 + (x7.length : Int)))), (9, vl (eL (eI .i64)) aSlices), (10, vi (aSlices.length : Int)), (11, vi s3.1), (20, vb (decide ((w64 (s3.2 + (x7.length : Int))) < 0)))], []⟩ ?_
  refine swp_cd h (fun h => ?_) fun h => ?_
  refine swp_reg ?_
  exact dead h
  refine swp_skip ?_
  obtain rfl := inj h
  exact q_bn (q_j (Le.sub0))
  refine swp_reg ?_
  refine SRun.ck tbok 2 ⟨36, [(0, vl (eL (eI .i64)) aSlices), (3, vi j5), (9, vl (eL (eI .i64)) aSlices), (10, vi (aSlices.length : Int)), (11, vi (w64 (s3.1 + 1)))], []⟩ ?_
  refine SRun.nil ?_
  obtain rfl := inj h
  exact q_l (Le.sub0)
  refine swp_exit ?_
  obtain rfl := inj h
  exact nx_e (q_re (q_bh (q_j (Le.sub0))))
  refine sr ?_
  refine SRun.ck tbok 1 ⟨36, [(0, vl (eL (eI .i64)) aSlices), (23, vi j1)], []⟩ ?_
  obtain ⟨x8, hx8, h⟩ := bind_some h
  refine SRun.ls (lstep_callV nil0 (f := 59) (caps := []) (xs := [.tr (.sl 0 []), vi j1]) (ys := [.tr (.sl 0 []), vi j1]) (res := ⟨[.own 2 1 ([] : List Int).length (([] : List Int).map (eI .i64))], [], true⟩) (x := .own 24) (y := some (oa 2 1 (eI .i64) ([] : List Int))) rfl (by kernel_rfl) (by kernel_rfl) (by kernel_rfl) (by kernel_rfl) (by kernel_rfl) ents59 (grow_nil (eI .i64) Try.growint64 59 2 rfl rfl _ _ 1 rfl rfl (by kernel_rfl) (by kernel_rfl) (by kernel_rfl) (by decide) j1 _ hx8 ([] : List Int) rfl) (nil0_of rfl) rfl (fun _ => rfl) (by kernel_rfl)) ?_
  refine ckn tbok 1 ⟨36, [(0, vl (eL (eI .i64)) aSlices), (6, .own 24)], [(24, oa 2 1 (eI .i64) ([] : List Int))]⟩ ?_
  refine swp_seq ?_
  refine srk tbok ⟨36, [(6, .own 24), (25, vl (eL (eI .i64)) aSlices), (26, vi (aSlices.length : Int)), (27, vi 0)], [(24, oa 2 1 (eI .i64) ([] : List Int))]⟩ ?_
  refine swp_seqJ h (fun j9 => ⟨36, [(6, .own 6)], [(6, oa 2 1 (eI .i64) j9)]⟩) (fun v10 h => ?_) (fun j9 h => ?_)
  refine swp_blk (a := v10) ?_
  refine swp_lpL (r := v10) (s := (0, ([] : List Int))) _ (fun s11 => ⟨36, [(6, .own 6), (25, vl (eL (eI .i64)) aSlices), (26, vi (aSlices.length : Int)), (27, vi s11.1)], [(6, oa 2 1 (eI .i64) s11.2)]⟩) _ (Le.rr [24] [(24, 6)]) h (fun s11 v12 h => ?_)
  refine srk tbok ⟨36, [(6, .own 6), (25, vl (eL (eI .i64)) aSlices), (26, vi (aSlices.length : Int)), (27, vi s11.1), (28, vb (decide (s11.1 < (aSlices.length : Int))))], [(6, oa 2 1 (eI .i64) s11.2)]⟩ ?_
  refine swp_seq ?_
  refine swp_cd h (fun h => ?_) fun h => ?_
  refine swp_skip ?_
  refine nx_n ?_
  refine swp_seq ?_
  refine swp_seqJ h (fun j13 => ⟨36, [(6, .own 6), (25, vl (eL (eI .i64)) aSlices), (26, vi (aSlices.length : Int)), (27, vi s11.1)], [(6, oa 2 1 (eI .i64) j13)]⟩) (fun v14 h => ?_) (fun j13 h => ?_)
  refine swp_blk (a := v14) ?_
  refine sr ?_
  obtain ⟨x15, hx15, h⟩ := bind_some h
  refine SRun.ls (x_index (L := aSlices) (f := (eL (eI .i64))) (ti := ti43) (tj := ti24) (e := 24) (k := .i64) tbok rfl hx15) ?_
  refine ckn tbok 2 ⟨36, [(6, .own 6), (8, vl (eI .i64) x15), (25, vl (eL (eI .i64)) aSlices), (26, vi (aSlices.length : Int)), (27, vi s11.1)], [(6, oa 2 1 (eI .i64) s11.2)]⟩ ?_
  refine swp_reg ?_
  refine SRun.ck tbok 2 ⟨36, [(25, vl (eL (eI .i64)) aSlices), (26, vi (aSlices.length : Int)), (27, vi s11.1), (31, .own 6), (32, vl (eI .i64) x15)], [(6, oa 2 1 (eI .i64) s11.2)]⟩ ?_
  obtain ⟨x16, hx16, h⟩ := bind_some h
  refine SRun.estep (x_append (f := (eI .i64)) (t := 24) (ti := ti24) (tj := ti2) (zs := [.int .i64 0]) (e := 2) (m := 1) (d := 6) (xv := vl (eI .i64) x15) hx16 tbok rfl rfl rfl rfl (src_e (fun _ => rfl))) ?_
  refine SRun.ck tbok 1 ⟨36, [(6, .own 33), (25, vl (eL (eI .i64)) aSlices), (26, vi (aSlices.length : Int)), (27, vi s11.1)], [(33, oa 2 1 (eI .i64) x16)]⟩ ?_
  refine SRun.nil ?_
  obtain rfl := inj h
  exact q_bn (q_j (Le.rr [33] [(33, 6)]))
  refine swp_reg ?_
  refine SRun.ck tbok 2 ⟨36, [(6, .own 6), (25, vl (eL (eI .i64)) aSlices), (26, vi (aSlices.length : Int)), (27, vi (w64 (s11.1 + 1)))], [(6, oa 2 1 (eI .i64) j13)]⟩ ?_
  refine SRun.nil ?_
  obtain rfl := inj h
  exact q_l (Le.sub0)
  refine swp_exit ?_
  obtain rfl := inj h
  exact nx_e (q_re (q_bh (q_j (Le.sub0))))
  refine srk tbok ⟨36, [(2, .own 6)], [(6, oa 2 1 (eI .i64) j9)]⟩ ?_
  refine swp_ret ?_
  obtain rfl := inj h
  exact q_fr (f1 (fo (eI_flat .i64)))
theorem ents35 : Ents Try.prog 35 := ents_of Try.func35 (by kernel_rfl) rfl
noncomputable def laws_szLabelS (aA : (List Label)) (aLeft : Int) : Option (Int) :=
  (bif (decide ((w64 (aLeft - (aA.length : Int))) < 0)) then some (-1) else some (w64 (aLeft - (aA.length : Int))))
theorem laws_szLabelS_run (aA : (List Label)) (aLeft : Int) (r : Int) (h : laws_szLabelS aA aLeft = some r) : SCall Try.prog 6 [.v (vl eLabel aA), .v (vi aLeft)] ⟨[.v (vi r)], [], false⟩ := by
  refine scall_in Try.func6 rfl [(.tmp 4)] rfl (fun r => ⟨[.v (vi r)], [], false⟩) (r := r) ?_
  unfold laws_szLabelS at h
  refine srk tbok ⟨12, [(0, vl eLabel aA), (1, vi aLeft)], []⟩ ?_
  refine srk tbok ⟨12, [(1, vi (w64 (aLeft - (aA.length : Int))))], []⟩ ?_
  refine swp_seq ?_
  refine srk tbok ⟨12, [(1, vi (w64 (aLeft - (aA.length : Int)))), (10, vb (decide ((w64 (aLeft - (aA.length : Int))) < 0)))], []⟩ ?_
  refine swp_cd h (fun h => ?_) fun h => ?_
  refine srk tbok ⟨12, [(4, vi (-1))], []⟩ ?_
  refine swp_ret ?_
  obtain rfl := inj h
  exact nx_r (q_fr (f1 fv))
  refine swp_skip ?_
  refine nx_n ?_
  refine srk tbok ⟨12, [(4, vi (w64 (aLeft - (aA.length : Int))))], []⟩ ?_
  refine swp_ret ?_
  obtain rfl := inj h
  exact q_fr (f1 fv)
theorem ents6 : Ents Try.prog 6 := ents_of Try.func6 (by kernel_rfl) rfl
noncomputable def laws_toPoint (aA : Point) : Option (Point) :=
  some aA
theorem laws_toPoint_run (aA : Point) (r : Point) (h : laws_toPoint aA = some r) : SCall Try.prog 57 [.v (.agg (tc ePoint aA))] ⟨[.v (.agg (tc ePoint r))], [], false⟩ := by
  refine scall_in Try.func57 rfl [(.cell 2 50)] rfl (fun r => ⟨[.v (.agg (tc ePoint r))], [], false⟩) (r := r) ?_
  unfold laws_toPoint at h
  refine srk tbok ⟨11, [(1, .ref 1 0), (2, .ref 2 0)], [(1, .box (tc ePoint aA)), (2, .box [vi 0, vi 0])]⟩ ?_
  refine srk tbok ⟨11, [(1, .ref 1 0), (2, .ref 2 0), (3, .ref 3 0)], [(1, .box (tc ePoint aA)), (2, .box [vi 0, vi 0]), (3, .box [vi 0, vi 0])]⟩ ?_
  refine srk tbok ⟨11, [(1, .ref 1 0), (2, .ref 2 0), (3, .ref 3 0)], [(1, .box (tc ePoint aA)), (2, .box [vi 0, vi 0]), (3, .box [vi aA.X, vi 0])]⟩ ?_
  refine srk tbok ⟨11, [(2, .ref 2 0), (3, .ref 3 0)], [(2, .box [vi 0, vi 0]), (3, .box (tc ePoint aA))]⟩ ?_
  refine srk tbok ⟨11, [(2, .ref 2 0)], [(2, .box (tc ePoint aA))]⟩ ?_
  refine swp_ret ?_
  obtain rfl := inj h
  exact q_fr (f1 (fc tbok))
theorem ents57 : Ents Try.prog 57 := ents_of Try.func57 (by kernel_rfl) rfl
noncomputable def laws_toLabel (aA : Label) : Option (Label) :=
  ((laws_toPoint aA.At).bind fun x1 => some (Label.mk x1 aA.Length aA.Priority))
theorem laws_toLabel_run (aA : Label) (r : Label) (h : laws_toLabel aA = some r) : SCall Try.prog 31 [.v (.agg (tc eLabel aA))] ⟨[.v (.agg (tc eLabel r))], [], false⟩ := by
  refine scall_in Try.func31 rfl [(.cell 2 52)] rfl (fun r => ⟨[.v (.agg (tc eLabel r))], [], false⟩) (r := r) ?_
  unfold laws_toLabel at h
  refine srk tbok ⟨15, [(1, .ref 1 0), (2, .ref 2 0)], [(1, .box (tc eLabel aA)), (2, .box [vi 0, vi 0, vi 0, vi 0])]⟩ ?_
  refine srk tbok ⟨15, [(1, .ref 1 0), (2, .ref 2 0), (3, .ref 3 0)], [(1, .box (tc eLabel aA)), (2, .box [vi 0, vi 0, vi 0, vi 0]), (3, .box [vi 0, vi 0, vi 0, vi 0])]⟩ ?_
  refine sr ?_
  refine SRun.ck tbok 2 ⟨15, [(1, .ref 1 0), (2, .ref 2 0), (3, .ref 3 0), (5, .agg (tc ePoint aA.At))], [(1, .box (tc eLabel aA)), (2, .box [vi 0, vi 0, vi 0, vi 0]), (3, .box [vi 0, vi 0, vi 0, vi 0])]⟩ ?_
  obtain ⟨x1, hx1, h⟩ := bind_some h
  refine SRun.ls (xc ents57 (laws_toPoint_run aA.At _ hx1)) ?_
  refine ckn tbok 2 ⟨15, [(1, .ref 1 0), (2, .ref 2 0), (3, .ref 3 0)], [(1, .box (tc eLabel aA)), (2, .box [vi 0, vi 0, vi 0, vi 0]), (3, .box [vi x1.X, vi x1.Y, vi 0, vi 0])]⟩ ?_
  refine srk tbok ⟨15, [(1, .ref 1 0), (2, .ref 2 0), (3, .ref 3 0)], [(1, .box (tc eLabel aA)), (2, .box [vi 0, vi 0, vi 0, vi 0]), (3, .box [vi x1.X, vi x1.Y, vi aA.Length, vi 0])]⟩ ?_
  refine srk tbok ⟨15, [(2, .ref 2 0), (3, .ref 3 0)], [(2, .box [vi 0, vi 0, vi 0, vi 0]), (3, .box [vi x1.X, vi x1.Y, vi aA.Length, vi aA.Priority])]⟩ ?_
  refine srk tbok ⟨15, [(2, .ref 2 0)], [(2, .box [vi x1.X, vi x1.Y, vi aA.Length, vi aA.Priority])]⟩ ?_
  refine swp_ret ?_
  obtain rfl := inj h
  exact q_fr (f1 (fc tbok))
theorem ents31 : Ents Try.prog 31 := ents_of Try.func31 (by kernel_rfl) rfl
noncomputable def laws_toLabelS (aA : (List Label)) : Option ((List Label)) :=
  ((make' (Label.mk (Point.mk 0 0) 0 0) (aA.length : Int)).bind fun x1 => (((forS (aA.length : Int) (fun (i4 : Int) (s4 : (List Label)) => ((at' aA i4).bind fun x8 => ((laws_toLabel x8).bind fun x9 => ((at' s4 i4).bind fun _ => some (List.set s4 (Int.toNat i4) x9))))) (fun (s4 : (List Label)) => s4) 0 x1)).bind fun (j2 : (List Label)) => some j2))
theorem laws_toLabelS_run (aA : (List Label)) (r : (List Label)) (h : laws_toLabelS aA = some r) : SCall Try.prog 8 [.v (vl eLabel aA)] ⟨[.own 52 4 r.length (r.map eLabel)], [], false⟩ := by
  refine scall_in Try.func8 rfl [(.tmp 2)] rfl (fun r => ⟨[.own 52 4 r.length (r.map eLabel)], [], false⟩) (r := r) ?_
  unfold laws_toLabelS at h
  refine srk tbok ⟨23, [(0, vl eLabel aA)], []⟩ ?_
  refine sr ?_
  refine SRun.ck tbok 2 ⟨23, [(0, vl eLabel aA), (6, vi (aA.length : Int))], []⟩ ?_
  obtain ⟨x1, hx1, h⟩ := bind_some h
  refine SRun.ls (x_make (z := (Label.mk (Point.mk 0 0) 0 0)) (f := eLabel) (ti := ti27) (tj := ti52) (e := 52) (m := 4) (k := .i64) (k' := .i64) hx1 tbok rfl rfl (zs := [.int .i64 0, .int .i64 0, .int .i64 0, .int .i64 0])) ?_
  refine ckn tbok 1 ⟨23, [(0, vl eLabel aA), (3, .own 7)], [(7, oa 52 4 eLabel x1)]⟩ ?_
  refine swp_seq ?_
  refine srk tbok ⟨23, [(0, vl eLabel aA), (3, .own 7), (4, vi 0)], [(7, oa 52 4 eLabel x1)]⟩ ?_
  refine swp_seqJ h (fun j2 => ⟨23, [(3, .own 3)], [(3, oa 52 4 eLabel j2)]⟩) (fun v3 h => ?_) (fun j2 h => ?_)
  refine swp_blk (a := v3) ?_
  refine swp_lpL (r := v3) (s := (0, x1)) _ (fun s4 => ⟨23, [(0, vl eLabel aA), (3, .own 3), (4, vi s4.1)], [(3, oa 52 4 eLabel s4.2)]⟩) _ (Le.rr [7] [(7, 3)]) h (fun s4 v5 h => ?_)
  refine swp_seq ?_
  refine srk tbok ⟨23, [(0, vl eLabel aA), (3, .own 3), (4, vi s4.1), (11, vb (decide (s4.1 < (aA.length : Int))))], [(3, oa 52 4 eLabel s4.2)]⟩ ?_
  refine swp_cd h (fun h => ?_) fun h => ?_
  refine swp_skip ?_
  refine nx_n ?_
  refine swp_seq ?_
  refine swp_seqJ h (fun j6 => ⟨23, [(0, vl eLabel aA), (3, .own 3), (4, vi s4.1)], [(3, oa 52 4 eLabel j6)]⟩) (fun v7 h => ?_) (fun j6 h => ?_)
  refine swp_blk (a := v7) ?_
  refine swp_reg ?_
  refine SRun.ck tbok 4 ⟨23, [(0, vl eLabel aA), (3, .own 3), (4, vi s4.1), (14, .own 3), (15, vi s4.1), (16, vl eLabel aA), (17, vi s4.1)], [(3, oa 52 4 eLabel s4.2)]⟩ ?_
  obtain ⟨x8, hx8, h⟩ := bind_some h
  refine SRun.ls (x_index (L := aA) (f := eLabel) (ti := ti22) (tj := ti56) (e := 56) (k := .i64) tbok rfl hx8) ?_
  refine SRun.ck tbok 1 ⟨23, [(0, vl eLabel aA), (3, .own 3), (4, vi s4.1), (14, .own 3), (15, vi s4.1), (19, .agg (tc eLabel x8))], [(3, oa 52 4 eLabel s4.2)]⟩ ?_
  obtain ⟨x9, hx9, h⟩ := bind_some h
  refine SRun.ls (xc ents31 (laws_toLabel_run x8 _ hx9)) ?_
  obtain ⟨x10, hx10, h⟩ := bind_some h
  refine SRun.ls (x_index_own (d := 3) (L := s4.2) (f := eLabel) (ti := ti27) (tj := ti52) (e := 52) (e' := 52) (m := 4) (k := .i64) tbok rfl hx10) ?_
  refine SRun.estep (x_store_own (d := 3) (m := 4) (j := 0) (L := s4.2) (f := eLabel) (x := x9) (z := x10) (ti := ti52) (e := 52) (ts := [.int .i64 x9.At.X, .int .i64 x9.At.Y, .int .i64 x9.Length, .int .i64 x9.Priority]) (vs := [vi x9.At.X, vi x9.At.Y, vi x9.Length, vi x9.Priority]) (v := .agg (tc eLabel x9)) tbok rfl rfl hx10) ?_
  refine SRun.nil ?_
  obtain rfl := inj h
  exact q_bn (q_j (Le.sub0))
  refine swp_reg ?_
  refine SRun.ck tbok 3 ⟨23, [(0, vl eLabel aA), (3, .own 3), (4, vi (w64 (s4.1 + 1)))], [(3, oa 52 4 eLabel j6)]⟩ ?_
  refine SRun.nil ?_
  obtain rfl := inj h
  exact q_l (Le.sub0)
  refine swp_exit ?_
  obtain rfl := inj h
  exact nx_e (q_re (q_bh (q_j (Le.sub0))))
  refine srk tbok ⟨23, [(2, .own 3)], [(3, oa 52 4 eLabel j2)]⟩ ?_
  refine swp_ret ?_
  obtain rfl := inj h
  exact q_fr (f1 (fo eLabel_flat))
theorem ents8 : Ents Try.prog 8 := ents_of Try.func8 (by kernel_rfl) rfl
noncomputable def spec_l01In (aN : Int) (aLow : Int) (aHigh : Int) : Option (Bool) :=
  some ((decide (aN ≥ aLow)) && (decide (aN ≤ aHigh)))
theorem spec_l01In_run (aN : Int) (aLow : Int) (aHigh : Int) (r : Bool) (h : spec_l01In aN aLow aHigh = some r) : SCall Try.prog 55 [.v (vi aN), .v (vi aLow), .v (vi aHigh)] ⟨[.v (vb r)], [], false⟩ := by
  refine scall_in Try.func55 rfl [(.tmp 6)] rfl (fun r => ⟨[.v (vb r)], [], false⟩) (r := r) ?_
  unfold spec_l01In at h
  refine srk tbok ⟨15, [(0, vi aN), (1, vi aLow), (2, vi aHigh)], []⟩ ?_
  refine swp_seq ?_
  refine swp_regP ⟨15, [(6, vb ((decide (aN ≥ aLow)) && (decide (aN ≤ aHigh))))], []⟩ ?_ ?_
  refine SRun.ck tbok 4 ⟨15, [(0, vi aN), (2, vi aHigh), (10, vb (decide (aN ≥ aLow)))], []⟩ ?_
  generalize (decide (aN ≥ aLow)) = bb
  cases bb
  refine SRun.ck tbok 5 ⟨15, [(6, vb false)], []⟩ ?_
  exact SRun.nil (Le.sub0)
  refine SRun.ck tbok 5 ⟨15, [(6, vb (decide (aN ≤ aHigh)))], []⟩ ?_
  exact SRun.nil (Le.sub0)
  refine swp_ret ?_
  obtain rfl := inj h
  exact q_fr (f1 fv)
theorem ents55 : Ents Try.prog 55 := ents_of Try.func55 (by kernel_rfl) rfl
noncomputable def spec_IsPoint (aP : Point) : Option (Bool) :=
  ((((spec_l01In aP.X (-1000) 1000).bind fun x1 => (bif x1 then ((spec_l01In aP.Y (-1000) 1000).bind fun x2 => some x2) else some false))).bind fun (j3 : Bool) => some j3)
theorem spec_IsPoint_run (aP : Point) (r : Bool) (h : spec_IsPoint aP = some r) : SCall Try.prog 54 [.v (.agg (tc ePoint aP))] ⟨[.v (vb r)], [], false⟩ := by
  refine scall_in Try.func54 rfl [(.tmp 2)] rfl (fun r => ⟨[.v (vb r)], [], false⟩) (r := r) ?_
  unfold spec_IsPoint at h
  refine srk tbok ⟨11, [(1, .ref 1 0)], [(1, .box (tc ePoint aP))]⟩ ?_
  refine swp_seq ?_
  refine swp_regJ h (fun j3 => ⟨11, [(2, vb j3)], []⟩) (fun v4 h => ?_) (fun j3 h => ?_)
  refine SRun.ck tbok 2 ⟨11, [(1, .ref 1 0), (4, vi aP.X)], [(1, .box (tc ePoint aP))]⟩ ?_
  obtain ⟨x1, hx1, h⟩ := bind_some h
  refine SRun.ls (xc ents55 (spec_l01In_run aP.X (-1000) 1000 _ hx1)) ?_
  refine SRun.ck tbok 1 ⟨11, [(1, .ref 1 0), (6, vb x1)], [(1, .box (tc ePoint aP))]⟩ ?_
  refine SRun.cu [(6, fun b => b)] h (fun h => ?_) fun h => ?_
  refine SRun.ck tbok 2 ⟨11, [(6, vb true), (8, vi aP.Y)], []⟩ ?_
  obtain ⟨x2, hx2, h⟩ := bind_some h
  refine SRun.ls (xc ents55 (spec_l01In_run aP.Y (-1000) 1000 _ hx2)) ?_
  refine SRun.ck tbok 2 ⟨11, [(2, vb x2)], []⟩ ?_
  refine SRun.nil ?_
  obtain rfl := inj h
  exact Le.sub0
  refine SRun.ck tbok 5 ⟨11, [(2, vb false)], []⟩ ?_
  refine SRun.nil ?_
  obtain rfl := inj h
  exact Le.sub0
  refine swp_ret ?_
  obtain rfl := inj h
  exact q_fr (f1 fv)
theorem ents54 : Ents Try.prog 54 := ents_of Try.func54 (by kernel_rfl) rfl
noncomputable def spec_AreLabels (aList : (List Label)) : Option (Bool) :=
  (((forN (aList.length : Int) (fun (i3 : Int) (_ : Unit) => ((at' aList i3).bind fun x7 => ((((spec_IsPoint x7.At).bind fun x8 => (bif (!x8) then some true else ((spec_l01In x7.Length 1 20).bind fun x9 => (bif (!x9) then some true else ((spec_l01In x7.Priority 1 9).bind fun x10 => some (!x10))))))).bind fun (j11 : Bool) => (bif j11 then some (.inr (.inr false)) else (forN i3 (fun (i13 : Int) (_ : Unit) => ((at' aList i13).bind fun x17 => (bif ((x17.At.X == x7.At.X) && (x17.At.Y == x7.At.Y)) then some (.inr (.inr (.inr false))) else some (.inl ())))) (fun (_ : Unit) => .inl ()) 0 ()))))) (fun (_ : Unit) => .inl ()) 0 ())).bind (Sum.elim (fun (_ : Unit) => some (decide ((aList.length : Int) ≤ 6))) some))
theorem spec_AreLabels_run (aList : (List Label)) (r : Bool) (h : spec_AreLabels aList = some r) : SCall Try.prog 29 [.v (vl eLabel aList)] ⟨[.v (vb r)], [], false⟩ := by
  refine scall_in Try.func29 rfl [(.tmp 2)] rfl (fun r => ⟨[.v (vb r)], [], false⟩) (r := r) ?_
  unfold spec_AreLabels at h
  refine srk tbok ⟨48, [(0, vl eLabel aList)], []⟩ ?_
  refine swp_seq ?_
  refine srk tbok ⟨48, [(0, vl eLabel aList), (3, vi 0)], []⟩ ?_
  refine swp_seqE (r := r) h (fun j1 => ⟨48, [(0, vl eLabel aList)], []⟩) (fun v2 h => ?_) (fun j1 h => ?_)
  refine swp_blk (a := v2) ?_
  refine swp_lpL (r := v2) (s := (0, ())) _ (fun s3 => ⟨48, [(0, vl eLabel aList), (3, vi s3.1)], []⟩) _ (Le.sub0) h (fun s3 v4 h => ?_)
  refine swp_seq ?_
  refine srk tbok ⟨48, [(0, vl eLabel aList), (3, vi s3.1), (9, vb (decide (s3.1 < (aList.length : Int))))], []⟩ ?_
  refine swp_cd h (fun h => ?_) fun h => ?_
  refine swp_skip ?_
  refine nx_n ?_
  refine swp_seq ?_
  refine swp_seqL (r := v4) h (fun j5 => ⟨48, [(0, vl eLabel aList), (3, vi s3.1)], []⟩) (fun v6 h => ?_) (fun j5 h => ?_)
  refine swp_blk (a := v6) ?_
  refine sr ?_
  refine SRun.ck tbok 2 ⟨48, [(0, vl eLabel aList), (3, vi s3.1), (12, vl eLabel aList), (13, vi s3.1)], []⟩ ?_
  obtain ⟨x7, hx7, h⟩ := bind_some h
  refine SRun.ls (x_index (L := aList) (f := eLabel) (ti := ti27) (tj := ti52) (e := 52) (k := .i64) tbok rfl hx7) ?_
  refine ckn tbok 3 ⟨48, [(0, vl eLabel aList), (3, vi s3.1), (4, .ref 4 0)], [(4, .box (tc eLabel x7))]⟩ ?_
  refine swp_seq ?_
  refine swp_seq ?_
  refine swp_regJ h (fun j11 => ⟨48, [(0, vl eLabel aList), (3, vi s3.1), (4, .ref 4 0), (31, vb j11)], [(4, .box (tc eLabel x7))]⟩) (fun v12 h => ?_) (fun j11 h => ?_)
  refine SRun.ck tbok 2 ⟨48, [(0, vl eLabel aList), (3, vi s3.1), (4, .ref 4 0), (17, .agg (tc ePoint x7.At))], [(4, .box (tc eLabel x7))]⟩ ?_
  obtain ⟨x8, hx8, h⟩ := bind_some h
  refine SRun.ls (xc ents54 (spec_IsPoint_run x7.At _ hx8)) ?_
  refine SRun.ck tbok 2 ⟨48, [(0, vl eLabel aList), (3, vi s3.1), (4, .ref 4 0), (20, vb (!x8))], [(4, .box (tc eLabel x7))]⟩ ?_
  refine SRun.cu [(20, fun b => b)] h (fun h => ?_) fun h => ?_
  refine SRun.ck tbok 11 ⟨48, [(0, vl eLabel aList), (3, vi s3.1), (4, .ref 4 0), (31, vb true)], [(4, .box (tc eLabel x7))]⟩ ?_
  refine SRun.nil ?_
  obtain rfl := inj h
  exact Le.sub0
  refine SRun.ck tbok 2 ⟨48, [(0, vl eLabel aList), (3, vi s3.1), (4, .ref 4 0), (20, vb false), (22, vi x7.Length)], [(4, .box (tc eLabel x7))]⟩ ?_
  obtain ⟨x9, hx9, h⟩ := bind_some h
  refine SRun.ls (xc ents55 (spec_l01In_run x7.Length 1 20 _ hx9)) ?_
  refine SRun.ck tbok 3 ⟨48, [(0, vl eLabel aList), (3, vi s3.1), (4, .ref 4 0), (26, vb (!x9))], [(4, .box (tc eLabel x7))]⟩ ?_
  refine SRun.cu [(26, fun b => b)] h (fun h => ?_) fun h => ?_
  refine SRun.ck tbok 5 ⟨48, [(0, vl eLabel aList), (3, vi s3.1), (4, .ref 4 0), (31, vb true)], [(4, .box (tc eLabel x7))]⟩ ?_
  refine SRun.nil ?_
  obtain rfl := inj h
  exact Le.sub0
  refine SRun.ck tbok 2 ⟨48, [(0, vl eLabel aList), (3, vi s3.1), (4, .ref 4 0), (26, vb false), (28, vi x7.Priority)], [(4, .box (tc eLabel x7))]⟩ ?_
  obtain ⟨x10, hx10, h⟩ := bind_some h
  refine SRun.ls (xc ents55 (spec_l01In_run x7.Priority 1 9 _ hx10)) ?_
  refine SRun.ck tbok 2 ⟨48, [(0, vl eLabel aList), (3, vi s3.1), (4, .ref 4 0), (31, vb (!x10))], [(4, .box (tc eLabel x7))]⟩ ?_
  refine SRun.nil ?_
  obtain rfl := inj h
  exact Le.sub0
  refine swp_cd h (fun h => ?_) fun h => ?_
  refine srk tbok ⟨48, [(2, vb false)], []⟩ ?_
  refine swp_ret ?_
  obtain rfl := inj h
  exact nx_r (q_br (q_rr (q_rr (q_br (q_rr (q_fr (f1 fv)))))))
  refine swp_skip ?_
  refine nx_n ?_
  refine srk tbok ⟨48, [(0, vl eLabel aList), (3, vi s3.1), (4, .ref 4 0), (5, vi 0)], [(4, .box (tc eLabel x7))]⟩ ?_
  refine swp_blk (a := v6) ?_
  refine swp_lpL (r := v6) (s := (0, ())) _ (fun s13 => ⟨48, [(0, vl eLabel aList), (3, vi s3.1), (4, .ref 4 0), (5, vi s13.1)], [(4, .box (tc eLabel x7))]⟩) _ (Le.sub0) h (fun s13 v14 h => ?_)
  refine swp_seq ?_
  refine srk tbok ⟨48, [(0, vl eLabel aList), (3, vi s3.1), (4, .ref 4 0), (5, vi s13.1), (34, vb (decide (s13.1 < s3.1)))], [(4, .box (tc eLabel x7))]⟩ ?_
  refine swp_cd h (fun h => ?_) fun h => ?_
  refine swp_skip ?_
  refine nx_n ?_
  refine swp_seq ?_
  refine swp_seqL (r := v14) h (fun j15 => ⟨48, [(0, vl eLabel aList), (3, vi s3.1), (4, .ref 4 0), (5, vi s13.1)], [(4, .box (tc eLabel x7))]⟩) (fun v16 h => ?_) (fun j15 h => ?_)
  refine swp_blk (a := v16) ?_
  refine swp_seq ?_
  refine swp_dr mixed ?_
  refine DGo.ck tbok false 2 ⟨48, [(0, vl eLabel aList), (3, vi s3.1), (4, .ref 4 0), (5, vi s13.1), (37, vl eLabel aList), (38, vi s13.1)], [(4, .box (tc eLabel x7))]⟩ ?_
  obtain ⟨x17, hx17, h⟩ := bind_some h
  refine DGo.step (x_index (L := aList) (f := eLabel) (ti := ti27) (tj := ti52) (e := 52) (k := .i64) tbok rfl hx17) ?_
  refine DGo.ck tbok false 4 ⟨48, [(0, vl eLabel aList), (3, vi s3.1), (4, .ref 4 0), (5, vi s13.1), (41, .agg (tc ePoint x17.At)), (43, .agg (tc ePoint x7.At))], [(4, .box (tc eLabel x7))]⟩ ?_
  refine DGo.step (x_lstep_eq tbok false (xs := [vi x17.At.X, vi x17.At.Y]) (ys := [vi x7.At.X, vi x7.At.Y]) (b := ((x17.At.X == x7.At.X) && (x17.At.Y == x7.At.Y))) rfl) ?_
  refine DGo.nx ?_
  refine swp_cd h (fun h => ?_) fun h => ?_
  refine srk tbok ⟨48, [(2, vb false)], []⟩ ?_
  refine swp_ret ?_
  obtain rfl := inj h
  exact q_br (q_rr (q_rr (q_br (q_br (q_rr (q_rr (q_br (q_rr (q_fr (f1 fv))))))))))
  refine swp_skip ?_
  obtain rfl := inj h
  exact q_bn (q_l (Le.sub0))
  refine swp_reg ?_
  refine SRun.ck tbok 3 ⟨48, [(0, vl eLabel aList), (3, vi s3.1), (4, .ref 4 0), (5, vi (w64 (s13.1 + 1)))], [(4, .box (tc eLabel x7))]⟩ ?_
  refine SRun.nil ?_
  obtain rfl := inj h
  exact q_l (Le.sub0)
  refine swp_exit ?_
  obtain rfl := inj h
  exact nx_e (q_re (q_bh (q_bn (q_l (Le.sub0)))))
  refine swp_reg ?_
  refine SRun.ck tbok 3 ⟨48, [(0, vl eLabel aList), (3, vi (w64 (s3.1 + 1)))], []⟩ ?_
  refine SRun.nil ?_
  obtain rfl := inj h
  exact q_l (Le.sub0)
  refine swp_exit ?_
  obtain rfl := inj h
  exact nx_e (q_re (q_bh (q_l (Le.sub0))))
  refine srk tbok ⟨48, [(2, vb (decide ((aList.length : Int) ≤ 6)))], []⟩ ?_
  refine swp_ret ?_
  obtain rfl := inj h
  exact q_fr (f1 fv)
theorem ents29 : Ents Try.prog 29 := ents_of Try.func29 (by kernel_rfl) rfl
noncomputable def spec_l33Covers (aL : Label) (aPosition : Int) (aP : Point) : Option (Bool) :=
  (((bif ((aPosition == 1) || (aPosition == 2)) then some (w64 (0 - (w64 (aP.X - aL.At.X)))) else some (w64 (aP.X - aL.At.X)))).bind fun (j1 : Int) => (((bif (decide (aPosition > 1)) then some (w64 (0 - (w64 (aP.Y - aL.At.Y)))) else some (w64 (aP.Y - aL.At.Y)))).bind fun (j3 : Int) => (((bif (decide (aPosition < 4)) then (bif (j3 == 1) then ((spec_l01In j1 1 aL.Length).bind fun x5 => some x5) else some false) else some false)).bind fun (j6 : Bool) => some j6)))
theorem spec_l33Covers_run (aL : Label) (aPosition : Int) (aP : Point) (r : Bool) (h : spec_l33Covers aL aPosition aP = some r) : SCall Try.prog 73 [.v (.agg (tc eLabel aL)), .v (vi aPosition), .v (.agg (tc ePoint aP))] ⟨[.v (vb r)], [], false⟩ := by
  refine scall_in Try.func73 rfl [(.tmp 6)] rfl (fun r => ⟨[.v (vb r)], [], false⟩) (r := r) ?_
  unfold spec_l33Covers at h
  refine srk tbok ⟨45, [(1, vi aPosition), (3, .ref 3 0), (5, .ref 5 0)], [(3, .box (tc eLabel aL)), (5, .box (tc ePoint aP))]⟩ ?_
  refine swp_seq ?_
  refine swp_dr mixed ?_
  refine DGo.ck tbok false 14 ⟨45, [(1, vi aPosition), (3, .ref 3 0), (7, vi (w64 (aP.X - aL.At.X))), (8, vi (w64 (aP.Y - aL.At.Y)))], [(3, .box (tc eLabel aL))]⟩ ?_
  refine DGo.nx ?_
  refine swp_seq ?_
  refine swp_seq ?_
  refine swp_regP ⟨45, [(1, vi aPosition), (3, .ref 3 0), (7, vi (w64 (aP.X - aL.At.X))), (8, vi (w64 (aP.Y - aL.At.Y))), (26, vb ((aPosition == 1) || (aPosition == 2)))], [(3, .box (tc eLabel aL))]⟩ ?_ ?_
  refine SRun.ck tbok 3 ⟨45, [(1, vi aPosition), (3, .ref 3 0), (7, vi (w64 (aP.X - aL.At.X))), (8, vi (w64 (aP.Y - aL.At.Y))), (23, vb (aPosition == 1))], [(3, .box (tc eLabel aL))]⟩ ?_
  generalize (aPosition == 1) = bb
  cases bb
  refine SRun.ck tbok 3 ⟨45, [(1, vi aPosition), (3, .ref 3 0), (7, vi (w64 (aP.X - aL.At.X))), (8, vi (w64 (aP.Y - aL.At.Y))), (26, vb (aPosition == 2))], [(3, .box (tc eLabel aL))]⟩ ?_
  exact SRun.nil (Le.sub0)
  refine SRun.ck tbok 3 ⟨45, [(1, vi aPosition), (3, .ref 3 0), (7, vi (w64 (aP.X - aL.At.X))), (8, vi (w64 (aP.Y - aL.At.Y))), (26, vb true)], [(3, .box (tc eLabel aL))]⟩ ?_
  exact SRun.nil (Le.sub0)
  refine swp_seqJ h (fun j1 => ⟨45, [(1, vi aPosition), (3, .ref 3 0), (7, vi j1), (8, vi (w64 (aP.Y - aL.At.Y)))], [(3, .box (tc eLabel aL))]⟩) (fun v2 h => ?_) (fun j1 h => ?_)
  refine swp_cd h (fun h => ?_) fun h => ?_
  refine swp_reg ?_
  refine SRun.ck tbok 3 ⟨45, [(1, vi aPosition), (3, .ref 3 0), (7, vi (w64 (0 - (w64 (aP.X - aL.At.X))))), (8, vi (w64 (aP.Y - aL.At.Y)))], [(3, .box (tc eLabel aL))]⟩ ?_
  refine SRun.nil ?_
  obtain rfl := inj h
  exact q_j (Le.sub0)
  refine swp_skip ?_
  obtain rfl := inj h
  exact q_j (Le.sub0)
  refine swp_seq ?_
  refine srk tbok ⟨45, [(1, vi aPosition), (3, .ref 3 0), (7, vi j1), (8, vi (w64 (aP.Y - aL.At.Y))), (30, vb (decide (aPosition > 1)))], [(3, .box (tc eLabel aL))]⟩ ?_
  refine swp_seqJ h (fun j3 => ⟨45, [(1, vi aPosition), (3, .ref 3 0), (7, vi j1), (8, vi j3)], [(3, .box (tc eLabel aL))]⟩) (fun v4 h => ?_) (fun j3 h => ?_)
  refine swp_cd h (fun h => ?_) fun h => ?_
  refine swp_reg ?_
  refine SRun.ck tbok 3 ⟨45, [(1, vi aPosition), (3, .ref 3 0), (7, vi j1), (8, vi (w64 (0 - (w64 (aP.Y - aL.At.Y)))))], [(3, .box (tc eLabel aL))]⟩ ?_
  refine SRun.nil ?_
  obtain rfl := inj h
  exact q_j (Le.sub0)
  refine swp_skip ?_
  obtain rfl := inj h
  exact q_j (Le.sub0)
  refine swp_seq ?_
  refine swp_regJ h (fun j6 => ⟨45, [(6, vb j6)], []⟩) (fun v7 h => ?_) (fun j6 h => ?_)
  refine SRun.ck tbok 3 ⟨45, [(3, .ref 3 0), (7, vi j1), (8, vi j3), (35, vb (decide (aPosition < 4)))], [(3, .box (tc eLabel aL))]⟩ ?_
  refine SRun.cu [(35, fun b => b)] h (fun h => ?_) fun h => ?_
  refine SRun.ck tbok 4 ⟨45, [(3, .ref 3 0), (7, vi j1), (39, vb (j3 == 1))], [(3, .box (tc eLabel aL))]⟩ ?_
  refine SRun.cu [(39, fun b => b)] h (fun h => ?_) fun h => ?_
  refine SRun.ck tbok 3 ⟨45, [(39, vb true), (40, vi j1), (42, vi aL.Length)], []⟩ ?_
  obtain ⟨x5, hx5, h⟩ := bind_some h
  refine SRun.ls (xc ents55 (spec_l01In_run j1 1 aL.Length _ hx5)) ?_
  refine SRun.ck tbok 2 ⟨45, [(6, vb x5)], []⟩ ?_
  refine SRun.nil ?_
  obtain rfl := inj h
  exact Le.sub0
  refine SRun.ck tbok 6 ⟨45, [(6, vb false)], []⟩ ?_
  refine SRun.nil ?_
  obtain rfl := inj h
  exact Le.sub0
  refine SRun.ck tbok 10 ⟨45, [(6, vb false)], []⟩ ?_
  refine SRun.nil ?_
  obtain rfl := inj h
  exact Le.sub0
  refine swp_ret ?_
  obtain rfl := inj h
  exact q_fr (f1 fv)
theorem ents73 : Ents Try.prog 73 := ents_of Try.func73 (by kernel_rfl) rfl
noncomputable def spec_l33Allowed (aList : (List Label)) (aL : Label) (aPosition : Int) : Option (Bool) :=
  (((forN (aList.length : Int) (fun (i3 : Int) (_ : Unit) => ((at' aList i3).bind fun x7 => ((spec_l33Covers aL aPosition x7.At).bind fun x8 => (bif x8 then some (.inr (.inr false)) else some (.inl ()))))) (fun (_ : Unit) => .inl ()) 0 ())).bind (Sum.elim (fun (_ : Unit) => some true) some))
theorem spec_l33Allowed_run (aList : (List Label)) (aL : Label) (aPosition : Int) (r : Bool) (h : spec_l33Allowed aList aL aPosition = some r) : SCall Try.prog 62 [.v (vl eLabel aList), .v (.agg (tc eLabel aL)), .v (vi aPosition)] ⟨[.v (vb r)], [], false⟩ := by
  refine scall_in Try.func62 rfl [(.tmp 6)] rfl (fun r => ⟨[.v (vb r)], [], false⟩) (r := r) ?_
  unfold spec_l33Allowed at h
  refine srk tbok ⟨22, [(0, vl eLabel aList), (2, vi aPosition), (4, .ref 4 0)], [(4, .box (tc eLabel aL))]⟩ ?_
  refine swp_seq ?_
  refine srk tbok ⟨22, [(0, vl eLabel aList), (2, vi aPosition), (4, .ref 4 0), (7, vi 0)], [(4, .box (tc eLabel aL))]⟩ ?_
  refine swp_seqE (r := r) h (fun j1 => ⟨22, [], []⟩) (fun v2 h => ?_) (fun j1 h => ?_)
  refine swp_blk (a := v2) ?_
  refine swp_lpL (r := v2) (s := (0, ())) _ (fun s3 => ⟨22, [(0, vl eLabel aList), (2, vi aPosition), (4, .ref 4 0), (7, vi s3.1)], [(4, .box (tc eLabel aL))]⟩) _ (Le.sub0) h (fun s3 v4 h => ?_)
  refine swp_seq ?_
  refine srk tbok ⟨22, [(0, vl eLabel aList), (2, vi aPosition), (4, .ref 4 0), (7, vi s3.1), (11, vb (decide (s3.1 < (aList.length : Int))))], [(4, .box (tc eLabel aL))]⟩ ?_
  refine swp_cd h (fun h => ?_) fun h => ?_
  refine swp_skip ?_
  refine nx_n ?_
  refine swp_seq ?_
  refine swp_seqL (r := v4) h (fun j5 => ⟨22, [(0, vl eLabel aList), (2, vi aPosition), (4, .ref 4 0), (7, vi s3.1)], [(4, .box (tc eLabel aL))]⟩) (fun v6 h => ?_) (fun j5 h => ?_)
  refine swp_blk (a := v6) ?_
  refine swp_seq ?_
  refine swp_dr mixed ?_
  refine DGo.ck tbok false 4 ⟨22, [(0, vl eLabel aList), (2, vi aPosition), (4, .ref 4 0), (7, vi s3.1), (14, .agg (tc eLabel aL)), (15, vi aPosition), (16, vl eLabel aList), (17, vi s3.1)], [(4, .box (tc eLabel aL))]⟩ ?_
  obtain ⟨x7, hx7, h⟩ := bind_some h
  refine DGo.step (x_index (L := aList) (f := eLabel) (ti := ti27) (tj := ti52) (e := 52) (k := .i64) tbok rfl hx7) ?_
  refine DGo.ck tbok false 2 ⟨22, [(0, vl eLabel aList), (2, vi aPosition), (4, .ref 4 0), (7, vi s3.1), (14, .agg (tc eLabel aL)), (15, vi aPosition), (20, .agg (tc ePoint x7.At))], [(4, .box (tc eLabel aL))]⟩ ?_
  obtain ⟨x8, hx8, h⟩ := bind_some h
  refine DGo.step (xc ents73 (spec_l33Covers_run aL aPosition x7.At _ hx8)) ?_
  refine DGo.nx ?_
  refine swp_cd h (fun h => ?_) fun h => ?_
  refine srk tbok ⟨22, [(6, vb false)], []⟩ ?_
  refine swp_ret ?_
  obtain rfl := inj h
  exact q_br (q_rr (q_rr (q_br (q_rr (q_fr (f1 fv))))))
  refine swp_skip ?_
  obtain rfl := inj h
  exact q_bn (q_l (Le.sub0))
  refine swp_reg ?_
  refine SRun.ck tbok 3 ⟨22, [(0, vl eLabel aList), (2, vi aPosition), (4, .ref 4 0), (7, vi (w64 (s3.1 + 1)))], [(4, .box (tc eLabel aL))]⟩ ?_
  refine SRun.nil ?_
  obtain rfl := inj h
  exact q_l (Le.sub0)
  refine swp_exit ?_
  obtain rfl := inj h
  exact nx_e (q_re (q_bh (q_l (Le.sub0))))
  refine srk tbok ⟨22, [(6, vb true)], []⟩ ?_
  refine swp_ret ?_
  obtain rfl := inj h
  exact q_fr (f1 fv)
theorem ents62 : Ents Try.prog 62 := ents_of Try.func62 (by kernel_rfl) rfl
noncomputable def spec_l33Points (aL : Label) (aPosition : Int) : Option ((List Point)) :=
  (((forH (fun (i3 : Int) (_ : (List Point)) => (decide (i3 ≤ (w64 (aL.At.X + aL.Length))))) (fun (i3 : Int) (s3 : (List Point)) => (forH (fun (i7 : Int) (_ : (List Point)) => (decide (i7 ≤ (w64 (aL.At.Y + 1))))) (fun (i7 : Int) (s7 : (List Point)) => ((spec_l33Covers aL aPosition (Point.mk i3 i7)).bind fun x11 => (bif x11 then ((app' s7 ([(Point.mk i3 i7)] : List Point)).bind fun x12 => some x12) else some s7))) (fun (s7 : (List Point)) => s7) (w64 (aL.At.Y - 1)) s3)) (fun (s3 : (List Point)) => s3) (w64 (aL.At.X - aL.Length)) ([] : List Point))).bind fun (j1 : (List Point)) => some j1)
theorem spec_l33Points_run (aL : Label) (aPosition : Int) (r : (List Point)) (h : spec_l33Points aL aPosition = some r) : SCall Try.prog 72 [.v (.agg (tc eLabel aL)), .v (vi aPosition)] ⟨[.own 50 2 r.length (r.map ePoint)], [], false⟩ := by
  refine scall_in Try.func72 rfl [(.tmp 4)] rfl (fun r => ⟨[.own 50 2 r.length (r.map ePoint)], [], false⟩) (r := r) ?_
  unfold spec_l33Points at h
  refine srk tbok ⟨50, [(1, vi aPosition), (2, .ref 2 0)], [(2, .box (tc eLabel aL))]⟩ ?_
  refine srk tbok ⟨50, [(1, vi aPosition), (2, .ref 2 0), (5, .own 9)], [(2, .box (tc eLabel aL)), (9, oa 50 2 ePoint ([] : List Point))]⟩ ?_
  refine swp_seq ?_
  refine srk tbok ⟨50, [(1, vi aPosition), (2, .ref 2 0), (5, .own 9), (6, vi (w64 (aL.At.X - aL.Length)))], [(2, .box (tc eLabel aL)), (9, oa 50 2 ePoint ([] : List Point))]⟩ ?_
  refine swp_seqJ h (fun j1 => ⟨50, [(5, .own 5)], [(5, oa 50 2 ePoint j1)]⟩) (fun v2 h => ?_) (fun j1 h => ?_)
  refine swp_blk (a := v2) ?_
  refine swp_lpL (r := v2) (s := ((w64 (aL.At.X - aL.Length)), ([] : List Point))) _ (fun s3 => ⟨50, [(1, vi aPosition), (2, .ref 2 0), (5, .own 5), (6, vi s3.1)], [(2, .box (tc eLabel aL)), (5, oa 50 2 ePoint s3.2)]⟩) _ (Le.rr [2, 9] [(9, 5)]) h (fun s3 v4 h => ?_)
  refine swp_seq ?_
  refine srk tbok ⟨50, [(1, vi aPosition), (2, .ref 2 0), (5, .own 5), (6, vi s3.1), (23, vb (decide (s3.1 ≤ (w64 (aL.At.X + aL.Length)))))], [(2, .box (tc eLabel aL)), (5, oa 50 2 ePoint s3.2)]⟩ ?_
  refine swp_cd h (fun h => ?_) fun h => ?_
  refine swp_skip ?_
  refine nx_n ?_
  refine swp_seq ?_
  refine swp_seqJ h (fun j5 => ⟨50, [(1, vi aPosition), (2, .ref 2 0), (5, .own 5), (6, vi s3.1)], [(2, .box (tc eLabel aL)), (5, oa 50 2 ePoint j5)]⟩) (fun v6 h => ?_) (fun j5 h => ?_)
  refine swp_blk (a := v6) ?_
  refine srk tbok ⟨50, [(1, vi aPosition), (2, .ref 2 0), (5, .own 5), (6, vi s3.1), (7, vi (w64 (aL.At.Y - 1)))], [(2, .box (tc eLabel aL)), (5, oa 50 2 ePoint s3.2)]⟩ ?_
  refine swp_blk (a := v6) ?_
  refine swp_lpL (r := v6) (s := ((w64 (aL.At.Y - 1)), s3.2)) _ (fun s7 => ⟨50, [(1, vi aPosition), (2, .ref 2 0), (5, .own 5), (6, vi s3.1), (7, vi s7.1)], [(2, .box (tc eLabel aL)), (5, oa 50 2 ePoint s7.2)]⟩) _ (Le.sub0) h (fun s7 v8 h => ?_)
  refine swp_seq ?_
  refine srk tbok ⟨50, [(1, vi aPosition), (2, .ref 2 0), (5, .own 5), (6, vi s3.1), (7, vi s7.1), (35, vb (decide (s7.1 ≤ (w64 (aL.At.Y + 1)))))], [(2, .box (tc eLabel aL)), (5, oa 50 2 ePoint s7.2)]⟩ ?_
  refine swp_cd h (fun h => ?_) fun h => ?_
  refine swp_skip ?_
  refine nx_n ?_
  refine swp_seq ?_
  refine swp_seqJ h (fun j9 => ⟨50, [(1, vi aPosition), (2, .ref 2 0), (5, .own 5), (6, vi s3.1), (7, vi s7.1)], [(2, .box (tc eLabel aL)), (5, oa 50 2 ePoint j9)]⟩) (fun v10 h => ?_) (fun j9 h => ?_)
  refine swp_blk (a := v10) ?_
  refine sr ?_
  refine SRun.ck tbok 2 ⟨50, [(1, vi aPosition), (2, .ref 2 0), (5, .own 5), (6, vi s3.1), (7, vi s7.1), (38, vi s3.1), (39, vi s7.1)], [(2, .box (tc eLabel aL)), (5, oa 50 2 ePoint s7.2)]⟩ ?_
  refine SRun.ls (x_lstep_build (v := .agg [vi s3.1, vi s7.1]) tbok rfl) ?_
  refine ckn tbok 2 ⟨50, [(1, vi aPosition), (2, .ref 2 0), (5, .own 5), (6, vi s3.1), (7, vi s7.1), (8, .ref 8 0)], [(2, .box (tc eLabel aL)), (5, oa 50 2 ePoint s7.2), (8, .box [vi s3.1, vi s7.1])]⟩ ?_
  refine sr ?_
  refine SRun.ck tbok 3 ⟨50, [(1, vi aPosition), (2, .ref 2 0), (5, .own 5), (6, vi s3.1), (7, vi s7.1), (8, .ref 8 0), (41, .agg (tc eLabel aL)), (42, vi aPosition), (43, .agg [vi s3.1, vi s7.1])], [(2, .box (tc eLabel aL)), (5, oa 50 2 ePoint s7.2), (8, .box [vi s3.1, vi s7.1])]⟩ ?_
  obtain ⟨x11, hx11, h⟩ := bind_some h
  refine SRun.ls (xc ents73 (spec_l33Covers_run aL aPosition (Point.mk s3.1 s7.1) _ hx11)) ?_
  refine SRun.nx ?_
  refine swp_cd h (fun h => ?_) fun h => ?_
  refine swp_reg ?_
  refine SRun.ck tbok 3 ⟨50, [(1, vi aPosition), (2, .ref 2 0), (6, vi s3.1), (7, vi s7.1), (45, .own 5), (47, .own 47)], [(2, .box (tc eLabel aL)), (5, oa 50 2 ePoint s7.2), (47, oa 50 2 ePoint ([(Point.mk s3.1 s7.1)] : List Point))]⟩ ?_
  obtain ⟨x12, hx12, h⟩ := bind_some h
  refine SRun.estep (x_append (f := ePoint) (t := 91) (ti := ti91) (tj := ti50) (zs := [.int .i64 0, .int .i64 0]) (e := 50) (m := 2) (d := 5) (xv := .own 47) hx12 tbok rfl rfl rfl rfl (x_src_o (e := 50))) ?_
  refine SRun.ck tbok 1 ⟨50, [(1, vi aPosition), (2, .ref 2 0), (5, .own 48), (6, vi s3.1), (7, vi s7.1)], [(2, .box (tc eLabel aL)), (48, oa 50 2 ePoint x12)]⟩ ?_
  refine SRun.nil ?_
  obtain rfl := inj h
  exact q_bn (q_j (Le.rr [2, 48] [(48, 5)]))
  refine swp_skip ?_
  obtain rfl := inj h
  exact q_bn (q_j (Le.sub0))
  refine swp_reg ?_
  refine SRun.ck tbok 3 ⟨50, [(1, vi aPosition), (2, .ref 2 0), (5, .own 5), (6, vi s3.1), (7, vi (w64 (s7.1 + 1)))], [(2, .box (tc eLabel aL)), (5, oa 50 2 ePoint j9)]⟩ ?_
  refine SRun.nil ?_
  obtain rfl := inj h
  exact q_l (Le.sub0)
  refine swp_exit ?_
  obtain rfl := inj h
  exact nx_e (q_re (q_bh (q_bn (q_j (Le.sub0)))))
  refine swp_reg ?_
  refine SRun.ck tbok 3 ⟨50, [(1, vi aPosition), (2, .ref 2 0), (5, .own 5), (6, vi (w64 (s3.1 + 1)))], [(2, .box (tc eLabel aL)), (5, oa 50 2 ePoint j5)]⟩ ?_
  refine SRun.nil ?_
  obtain rfl := inj h
  exact q_l (Le.sub0)
  refine swp_exit ?_
  obtain rfl := inj h
  exact nx_e (q_re (q_bh (q_j (Le.sub0))))
  refine srk tbok ⟨50, [(4, .own 5)], [(5, oa 50 2 ePoint j1)]⟩ ?_
  refine swp_ret ?_
  obtain rfl := inj h
  exact q_fr (f1 (fo ePoint_flat))
theorem ents72 : Ents Try.prog 72 := ents_of Try.func72 (by kernel_rfl) rfl
noncomputable def spec_l33Clash (aA : Label) (aX : Int) (aB : Label) (aY : Int) : Option (Bool) :=
  ((spec_l33Points aA aX).bind fun x1 => (((forN (x1.length : Int) (fun (i4 : Int) (_ : Unit) => ((at' x1 i4).bind fun x8 => ((spec_l33Covers aB aY x8).bind fun x9 => (bif x9 then some (.inr (.inr true)) else some (.inl ()))))) (fun (_ : Unit) => .inl ()) 0 ())).bind (Sum.elim (fun (_ : Unit) => some false) some)))
theorem spec_l33Clash_run (aA : Label) (aX : Int) (aB : Label) (aY : Int) (r : Bool) (h : spec_l33Clash aA aX aB aY = some r) : SCall Try.prog 50 [.v (.agg (tc eLabel aA)), .v (vi aX), .v (.agg (tc eLabel aB)), .v (vi aY)] ⟨[.v (vb r)], [], false⟩ := by
  refine scall_in Try.func50 rfl [(.tmp 8)] rfl (fun r => ⟨[.v (vb r)], [], false⟩) (r := r) ?_
  unfold spec_l33Clash at h
  refine srk tbok ⟨27, [(1, vi aX), (3, vi aY), (4, .ref 4 0), (6, .ref 6 0)], [(4, .box (tc eLabel aA)), (6, .box (tc eLabel aB))]⟩ ?_
  refine sr ?_
  refine SRun.ck tbok 2 ⟨27, [(3, vi aY), (6, .ref 6 0), (11, .agg (tc eLabel aA)), (12, vi aX)], [(6, .box (tc eLabel aB))]⟩ ?_
  obtain ⟨x1, hx1, h⟩ := bind_some h
  refine SRun.ls (xc ents72 (spec_l33Points_run aA aX _ hx1)) ?_
  refine ckn tbok 1 ⟨27, [(3, vi aY), (6, .ref 6 0), (9, .own 13)], [(6, .box (tc eLabel aB)), (13, oa 50 2 ePoint x1)]⟩ ?_
  refine swp_seq ?_
  refine srk tbok ⟨27, [(3, vi aY), (6, .ref 6 0), (9, .own 13), (10, vi 0)], [(6, .box (tc eLabel aB)), (13, oa 50 2 ePoint x1)]⟩ ?_
  refine swp_seqE (r := r) h (fun j2 => ⟨27, [], []⟩) (fun v3 h => ?_) (fun j2 h => ?_)
  refine swp_blk (a := v3) ?_
  refine swp_lpL (r := v3) (s := (0, ())) _ (fun s4 => ⟨27, [(3, vi aY), (6, .ref 6 0), (9, .own 9), (10, vi s4.1)], [(6, .box (tc eLabel aB)), (9, oa 50 2 ePoint x1)]⟩) _ (Le.rr [6, 13] [(13, 9)]) h (fun s4 v5 h => ?_)
  refine swp_seq ?_
  refine srk tbok ⟨27, [(3, vi aY), (6, .ref 6 0), (9, .own 9), (10, vi s4.1), (17, vb (decide (s4.1 < (x1.length : Int))))], [(6, .box (tc eLabel aB)), (9, oa 50 2 ePoint x1)]⟩ ?_
  refine swp_cd h (fun h => ?_) fun h => ?_
  refine swp_skip ?_
  refine nx_n ?_
  refine swp_seq ?_
  refine swp_seqL (r := v5) h (fun j6 => ⟨27, [(3, vi aY), (6, .ref 6 0), (9, .own 9), (10, vi s4.1)], [(6, .box (tc eLabel aB)), (9, oa 50 2 ePoint x1)]⟩) (fun v7 h => ?_) (fun j6 h => ?_)
  refine swp_blk (a := v7) ?_
  refine swp_seq ?_
  refine swp_dr mixed ?_
  refine DGo.ck tbok false 4 ⟨27, [(3, vi aY), (6, .ref 6 0), (9, .own 9), (10, vi s4.1), (20, .agg (tc eLabel aB)), (21, vi aY), (22, .own 9), (23, vi s4.1)], [(6, .box (tc eLabel aB)), (9, oa 50 2 ePoint x1)]⟩ ?_
  obtain ⟨x8, hx8, h⟩ := bind_some h
  refine DGo.step (x_index_own (d := 9) (L := x1) (f := ePoint) (ti := ti91) (tj := ti50) (e := 50) (e' := 50) (m := 2) (k := .i64) tbok rfl hx8) ?_
  refine DGo.step (x_load_own (d := 9) (m := 2) (j := 0) (L := x1) (f := ePoint) (ti := ti50) (e := 50) (v := .agg (tc ePoint x8)) tbok rfl hx8) ?_
  obtain ⟨x9, hx9, h⟩ := bind_some h
  refine DGo.step (xc ents73 (spec_l33Covers_run aB aY x8 _ hx9)) ?_
  refine DGo.nx ?_
  refine swp_cd h (fun h => ?_) fun h => ?_
  refine srk tbok ⟨27, [(8, vb true)], []⟩ ?_
  refine swp_ret ?_
  obtain rfl := inj h
  exact q_br (q_rr (q_rr (q_br (q_rr (q_fr (f1 fv))))))
  refine swp_skip ?_
  obtain rfl := inj h
  exact q_bn (q_l (Le.sub0))
  refine swp_reg ?_
  refine SRun.ck tbok 3 ⟨27, [(3, vi aY), (6, .ref 6 0), (9, .own 9), (10, vi (w64 (s4.1 + 1)))], [(6, .box (tc eLabel aB)), (9, oa 50 2 ePoint x1)]⟩ ?_
  refine SRun.nil ?_
  obtain rfl := inj h
  exact q_l (Le.sub0)
  refine swp_exit ?_
  obtain rfl := inj h
  exact nx_e (q_re (q_bh (q_l (Le.sub0))))
  refine srk tbok ⟨27, [(8, vb false)], []⟩ ?_
  refine swp_ret ?_
  obtain rfl := inj h
  exact q_fr (f1 fv)
theorem ents50 : Ents Try.prog 50 := ents_of Try.func50 (by kernel_rfl) rfl
noncomputable def spec_l33Fits (aList : (List Label)) (aPlacement : (List Int)) (aIndex : Int) (aPosition : Int) : Option (Bool) :=
  ((at' aList aIndex).bind fun x1 => ((spec_l33Allowed aList x1 aPosition).bind fun x2 => (bif (!x2) then some false else (((forN (aPlacement.length : Int) (fun (i5 : Int) (_ : Unit) => (((bif (i5 != aIndex) then ((at' aList i5).bind fun x9 => ((at' aPlacement i5).bind fun x10 => ((at' aList aIndex).bind fun x11 => ((spec_l33Clash x9 x10 x11 aPosition).bind fun x12 => some x12)))) else some false)).bind fun (j13 : Bool) => (bif j13 then some (.inr (.inr false)) else some (.inl ())))) (fun (_ : Unit) => .inl ()) 0 ())).bind (Sum.elim (fun (_ : Unit) => some true) some)))))
theorem spec_l33Fits_run (aList : (List Label)) (aPlacement : (List Int)) (aIndex : Int) (aPosition : Int) (r : Bool) (h : spec_l33Fits aList aPlacement aIndex aPosition = some r) : SCall Try.prog 38 [.v (vl eLabel aList), .v (vl (eI .i64) aPlacement), .v (vi aIndex), .v (vi aPosition)] ⟨[.v (vb r)], [], false⟩ := by
  refine scall_in Try.func38 rfl [(.tmp 8)] rfl (fun r => ⟨[.v (vb r)], [], false⟩) (r := r) ?_
  unfold spec_l33Fits at h
  refine srk tbok ⟨43, [(0, vl eLabel aList), (1, vl (eI .i64) aPlacement), (2, vi aIndex), (3, vi aPosition)], []⟩ ?_
  refine swp_seq ?_
  refine sr ?_
  refine SRun.ck tbok 3 ⟨43, [(0, vl eLabel aList), (1, vl (eI .i64) aPlacement), (2, vi aIndex), (3, vi aPosition), (10, vl eLabel aList), (11, vl eLabel aList), (12, vi aIndex)], []⟩ ?_
  obtain ⟨x1, hx1, h⟩ := bind_some h
  refine SRun.ls (x_index (L := aList) (f := eLabel) (ti := ti27) (tj := ti52) (e := 52) (k := .i64) tbok rfl hx1) ?_
  refine SRun.ck tbok 2 ⟨43, [(0, vl eLabel aList), (1, vl (eI .i64) aPlacement), (2, vi aIndex), (3, vi aPosition), (10, vl eLabel aList), (14, .agg (tc eLabel x1)), (15, vi aPosition)], []⟩ ?_
  obtain ⟨x2, hx2, h⟩ := bind_some h
  refine SRun.ls (xc ents62 (spec_l33Allowed_run aList x1 aPosition _ hx2)) ?_
  refine ckn tbok 1 ⟨43, [(0, vl eLabel aList), (1, vl (eI .i64) aPlacement), (2, vi aIndex), (3, vi aPosition), (17, vb (!x2))], []⟩ ?_
  refine swp_cd h (fun h => ?_) fun h => ?_
  refine srk tbok ⟨43, [(8, vb false)], []⟩ ?_
  refine swp_ret ?_
  obtain rfl := inj h
  exact nx_r (q_fr (f1 fv))
  refine swp_skip ?_
  refine nx_n ?_
  refine swp_seq ?_
  refine srk tbok ⟨43, [(0, vl eLabel aList), (1, vl (eI .i64) aPlacement), (2, vi aIndex), (3, vi aPosition), (9, vi 0)], []⟩ ?_
  refine swp_seqE (r := r) h (fun j3 => ⟨43, [], []⟩) (fun v4 h => ?_) (fun j3 h => ?_)
  refine swp_blk (a := v4) ?_
  refine swp_lpL (r := v4) (s := (0, ())) _ (fun s5 => ⟨43, [(0, vl eLabel aList), (1, vl (eI .i64) aPlacement), (2, vi aIndex), (3, vi aPosition), (9, vi s5.1)], []⟩) _ (Le.sub0) h (fun s5 v6 h => ?_)
  refine swp_seq ?_
  refine srk tbok ⟨43, [(0, vl eLabel aList), (1, vl (eI .i64) aPlacement), (2, vi aIndex), (3, vi aPosition), (9, vi s5.1), (21, vb (decide (s5.1 < (aPlacement.length : Int))))], []⟩ ?_
  refine swp_cd h (fun h => ?_) fun h => ?_
  refine swp_skip ?_
  refine nx_n ?_
  refine swp_seq ?_
  refine swp_seqL (r := v6) h (fun j7 => ⟨43, [(0, vl eLabel aList), (1, vl (eI .i64) aPlacement), (2, vi aIndex), (3, vi aPosition), (9, vi s5.1)], []⟩) (fun v8 h => ?_) (fun j7 h => ?_)
  refine swp_blk (a := v8) ?_
  refine swp_seq ?_
  refine swp_drJ mixed h (fun j13 => ⟨43, [(0, vl eLabel aList), (1, vl (eI .i64) aPlacement), (2, vi aIndex), (3, vi aPosition), (9, vi s5.1), (42, vb j13)], []⟩) (fun v14 h => ?_) (fun j13 h => ?_)
  refine DGo.ck tbok false 4 ⟨43, [(0, vl eLabel aList), (1, vl (eI .i64) aPlacement), (2, vi aIndex), (3, vi aPosition), (9, vi s5.1), (27, vb (s5.1 != aIndex))], []⟩ ?_
  refine DGo.cu [(27, fun b => b)] h (fun h => ?_) fun h => ?_
  refine DGo.ck tbok false 2 ⟨43, [(0, vl eLabel aList), (1, vl (eI .i64) aPlacement), (2, vi aIndex), (3, vi aPosition), (9, vi s5.1), (27, vb true), (28, vl eLabel aList), (29, vi s5.1)], []⟩ ?_
  obtain ⟨x9, hx9, h⟩ := bind_some h
  refine DGo.step (x_index (L := aList) (f := eLabel) (ti := ti27) (tj := ti52) (e := 52) (k := .i64) tbok rfl hx9) ?_
  refine DGo.ck tbok false 3 ⟨43, [(0, vl eLabel aList), (1, vl (eI .i64) aPlacement), (2, vi aIndex), (3, vi aPosition), (9, vi s5.1), (27, vb true), (31, .agg (tc eLabel x9)), (32, vl (eI .i64) aPlacement), (33, vi s5.1)], []⟩ ?_
  obtain ⟨x10, hx10, h⟩ := bind_some h
  refine DGo.step (x_index (L := aPlacement) (f := (eI .i64)) (ti := ti24) (tj := ti2) (e := 2) (k := .i64) tbok rfl hx10) ?_
  refine DGo.ck tbok false 3 ⟨43, [(0, vl eLabel aList), (1, vl (eI .i64) aPlacement), (2, vi aIndex), (3, vi aPosition), (9, vi s5.1), (27, vb true), (31, .agg (tc eLabel x9)), (35, vi x10), (36, vl eLabel aList), (37, vi aIndex)], []⟩ ?_
  obtain ⟨x11, hx11, h⟩ := bind_some h
  refine DGo.step (x_index (L := aList) (f := eLabel) (ti := ti27) (tj := ti52) (e := 52) (k := .i64) tbok rfl hx11) ?_
  refine DGo.ck tbok false 2 ⟨43, [(0, vl eLabel aList), (1, vl (eI .i64) aPlacement), (2, vi aIndex), (3, vi aPosition), (9, vi s5.1), (27, vb true), (31, .agg (tc eLabel x9)), (35, vi x10), (39, .agg (tc eLabel x11)), (40, vi aPosition)], []⟩ ?_
  obtain ⟨x12, hx12, h⟩ := bind_some h
  refine DGo.step (xc ents50 (spec_l33Clash_run x9 x10 x11 aPosition _ hx12)) ?_
  refine DGo.ck tbok false 1 ⟨43, [(0, vl eLabel aList), (1, vl (eI .i64) aPlacement), (2, vi aIndex), (3, vi aPosition), (9, vi s5.1), (42, vb x12)], []⟩ ?_
  refine DGo.nil (by kernel_rfl) ?_
  obtain rfl := inj h
  exact Le.sub0
  refine DGo.ck tbok false 15 ⟨43, [(0, vl eLabel aList), (1, vl (eI .i64) aPlacement), (2, vi aIndex), (3, vi aPosition), (9, vi s5.1), (42, vb false)], []⟩ ?_
  refine DGo.nil (by kernel_rfl) ?_
  obtain rfl := inj h
  exact Le.sub0
  refine swp_cd h (fun h => ?_) fun h => ?_
  refine srk tbok ⟨43, [(8, vb false)], []⟩ ?_
  refine swp_ret ?_
  obtain rfl := inj h
  exact q_br (q_rr (q_rr (q_br (q_rr (q_fr (f1 fv))))))
  refine swp_skip ?_
  obtain rfl := inj h
  exact q_bn (q_l (Le.sub0))
  refine swp_reg ?_
  refine SRun.ck tbok 3 ⟨43, [(0, vl eLabel aList), (1, vl (eI .i64) aPlacement), (2, vi aIndex), (3, vi aPosition), (9, vi (w64 (s5.1 + 1)))], []⟩ ?_
  refine SRun.nil ?_
  obtain rfl := inj h
  exact q_l (Le.sub0)
  refine swp_exit ?_
  obtain rfl := inj h
  exact nx_e (q_re (q_bh (q_l (Le.sub0))))
  refine srk tbok ⟨43, [(8, vb true)], []⟩ ?_
  refine swp_ret ?_
  obtain rfl := inj h
  exact q_fr (f1 fv)
theorem ents38 : Ents Try.prog 38 := ents_of Try.func38 (by kernel_rfl) rfl
noncomputable def impl_within (aX : Int) (aLow : Int) (aHigh : Int) : Option (Bool) :=
  some ((decide (aX ≥ aLow)) && (decide (aX ≤ aHigh)))
theorem impl_within_run (aX : Int) (aLow : Int) (aHigh : Int) (r : Bool) (h : impl_within aX aLow aHigh = some r) : SCall Try.prog 52 [.v (vi aX), .v (vi aLow), .v (vi aHigh)] ⟨[.v (vb r)], [], false⟩ := by
  refine scall_in Try.func52 rfl [(.tmp 6)] rfl (fun r => ⟨[.v (vb r)], [], false⟩) (r := r) ?_
  unfold impl_within at h
  refine srk tbok ⟨15, [(0, vi aX), (1, vi aLow), (2, vi aHigh)], []⟩ ?_
  refine swp_seq ?_
  refine swp_regP ⟨15, [(6, vb ((decide (aX ≥ aLow)) && (decide (aX ≤ aHigh))))], []⟩ ?_ ?_
  refine SRun.ck tbok 4 ⟨15, [(0, vi aX), (2, vi aHigh), (10, vb (decide (aX ≥ aLow)))], []⟩ ?_
  generalize (decide (aX ≥ aLow)) = bb
  cases bb
  refine SRun.ck tbok 5 ⟨15, [(6, vb false)], []⟩ ?_
  exact SRun.nil (Le.sub0)
  refine SRun.ck tbok 5 ⟨15, [(6, vb (decide (aX ≤ aHigh)))], []⟩ ?_
  exact SRun.nil (Le.sub0)
  refine swp_ret ?_
  obtain rfl := inj h
  exact q_fr (f1 fv)
theorem ents52 : Ents Try.prog 52 := ents_of Try.func52 (by kernel_rfl) rfl
noncomputable def impl_IsPoint (aP : Point) : Option (Bool) :=
  ((((impl_within aP.X (-1000) 1000).bind fun x1 => (bif x1 then ((impl_within aP.Y (-1000) 1000).bind fun x2 => some x2) else some false))).bind fun (j3 : Bool) => some j3)
theorem impl_IsPoint_run (aP : Point) (r : Bool) (h : impl_IsPoint aP = some r) : SCall Try.prog 51 [.v (.agg (tc ePoint aP))] ⟨[.v (vb r)], [], false⟩ := by
  refine scall_in Try.func51 rfl [(.tmp 2)] rfl (fun r => ⟨[.v (vb r)], [], false⟩) (r := r) ?_
  unfold impl_IsPoint at h
  refine srk tbok ⟨11, [(1, .ref 1 0)], [(1, .box (tc ePoint aP))]⟩ ?_
  refine swp_seq ?_
  refine swp_regJ h (fun j3 => ⟨11, [(2, vb j3)], []⟩) (fun v4 h => ?_) (fun j3 h => ?_)
  refine SRun.ck tbok 2 ⟨11, [(1, .ref 1 0), (4, vi aP.X)], [(1, .box (tc ePoint aP))]⟩ ?_
  obtain ⟨x1, hx1, h⟩ := bind_some h
  refine SRun.ls (xc ents52 (impl_within_run aP.X (-1000) 1000 _ hx1)) ?_
  refine SRun.ck tbok 1 ⟨11, [(1, .ref 1 0), (6, vb x1)], [(1, .box (tc ePoint aP))]⟩ ?_
  refine SRun.cu [(6, fun b => b)] h (fun h => ?_) fun h => ?_
  refine SRun.ck tbok 2 ⟨11, [(6, vb true), (8, vi aP.Y)], []⟩ ?_
  obtain ⟨x2, hx2, h⟩ := bind_some h
  refine SRun.ls (xc ents52 (impl_within_run aP.Y (-1000) 1000 _ hx2)) ?_
  refine SRun.ck tbok 2 ⟨11, [(2, vb x2)], []⟩ ?_
  refine SRun.nil ?_
  obtain rfl := inj h
  exact Le.sub0
  refine SRun.ck tbok 5 ⟨11, [(2, vb false)], []⟩ ?_
  refine SRun.nil ?_
  obtain rfl := inj h
  exact Le.sub0
  refine swp_ret ?_
  obtain rfl := inj h
  exact q_fr (f1 fv)
theorem ents51 : Ents Try.prog 51 := ents_of Try.func51 (by kernel_rfl) rfl
noncomputable def impl_AreLabels (aList : (List Label)) : Option (Bool) :=
  (((forN (aList.length : Int) (fun (i3 : Int) (_ : Unit) => ((at' aList i3).bind fun x7 => ((((impl_IsPoint x7.At).bind fun x8 => (bif (!x8) then some true else ((impl_within x7.Length 1 20).bind fun x9 => (bif (!x9) then some true else ((impl_within x7.Priority 1 9).bind fun x10 => (bif (!x10) then some true else ((part' aList 0 i3).bind fun x11 => ((impl_isAt x11 x7.At).bind fun x12 => some x12))))))))).bind fun (j13 : Bool) => (bif j13 then some (.inr (.inr false)) else some (.inl ()))))) (fun (_ : Unit) => .inl ()) 0 ())).bind (Sum.elim (fun (_ : Unit) => some (decide ((aList.length : Int) ≤ 6))) some))
theorem impl_AreLabels_run (aList : (List Label)) (r : Bool) (h : impl_AreLabels aList = some r) : SCall Try.prog 28 [.v (vl eLabel aList)] ⟨[.v (vb r)], [], false⟩ := by
  refine scall_in Try.func28 rfl [(.tmp 2)] rfl (fun r => ⟨[.v (vb r)], [], false⟩) (r := r) ?_
  unfold impl_AreLabels at h
  refine srk tbok ⟨40, [(0, vl eLabel aList)], []⟩ ?_
  refine swp_seq ?_
  refine srk tbok ⟨40, [(0, vl eLabel aList), (5, vl eLabel aList), (6, vi (aList.length : Int)), (7, vi 0)], []⟩ ?_
  refine swp_seqE (r := r) h (fun j1 => ⟨40, [(0, vl eLabel aList)], []⟩) (fun v2 h => ?_) (fun j1 h => ?_)
  refine swp_blk (a := v2) ?_
  refine swp_lpL (r := v2) (s := (0, ())) _ (fun s3 => ⟨40, [(0, vl eLabel aList), (5, vl eLabel aList), (6, vi (aList.length : Int)), (7, vi s3.1)], []⟩) _ (Le.sub0) h (fun s3 v4 h => ?_)
  refine srk tbok ⟨40, [(0, vl eLabel aList), (5, vl eLabel aList), (6, vi (aList.length : Int)), (7, vi s3.1), (8, vb (decide (s3.1 < (aList.length : Int))))], []⟩ ?_
  refine swp_seq ?_
  refine swp_cd h (fun h => ?_) fun h => ?_
  refine swp_skip ?_
  refine nx_n ?_
  refine swp_seq ?_
  refine swp_seqL (r := v4) h (fun j5 => ⟨40, [(0, vl eLabel aList), (5, vl eLabel aList), (6, vi (aList.length : Int)), (7, vi s3.1)], []⟩) (fun v6 h => ?_) (fun j5 h => ?_)
  refine swp_blk (a := v6) ?_
  refine sr ?_
  refine SRun.ck tbok 1 ⟨40, [(0, vl eLabel aList), (5, vl eLabel aList), (6, vi (aList.length : Int)), (7, vi s3.1), (9, vi s3.1)], []⟩ ?_
  obtain ⟨x7, hx7, h⟩ := bind_some h
  refine SRun.ls (x_index (L := aList) (f := eLabel) (ti := ti27) (tj := ti52) (e := 52) (k := .i64) tbok rfl hx7) ?_
  refine ckn tbok 4 ⟨40, [(0, vl eLabel aList), (3, vi s3.1), (4, .ref 4 0), (5, vl eLabel aList), (6, vi (aList.length : Int)), (7, vi s3.1)], [(4, .box (tc eLabel x7))]⟩ ?_
  refine swp_seq ?_
  refine swp_drJ mixed h (fun j13 => ⟨40, [(0, vl eLabel aList), (5, vl eLabel aList), (6, vi (aList.length : Int)), (7, vi s3.1), (35, vb j13)], []⟩) (fun v14 h => ?_) (fun j13 h => ?_)
  refine DGo.ck tbok false 2 ⟨40, [(0, vl eLabel aList), (3, vi s3.1), (4, .ref 4 0), (5, vl eLabel aList), (6, vi (aList.length : Int)), (7, vi s3.1), (13, .agg (tc ePoint x7.At))], [(4, .box (tc eLabel x7))]⟩ ?_
  obtain ⟨x8, hx8, h⟩ := bind_some h
  refine DGo.step (xc ents51 (impl_IsPoint_run x7.At _ hx8)) ?_
  refine DGo.ck tbok false 2 ⟨40, [(0, vl eLabel aList), (3, vi s3.1), (4, .ref 4 0), (5, vl eLabel aList), (6, vi (aList.length : Int)), (7, vi s3.1), (16, vb (!x8))], [(4, .box (tc eLabel x7))]⟩ ?_
  refine DGo.cu [(16, fun b => b)] h (fun h => ?_) fun h => ?_
  refine DGo.ck tbok false 19 ⟨40, [(0, vl eLabel aList), (5, vl eLabel aList), (6, vi (aList.length : Int)), (7, vi s3.1), (35, vb true)], []⟩ ?_
  refine DGo.nil (by kernel_rfl) ?_
  obtain rfl := inj h
  exact Le.sub0
  refine DGo.ck tbok false 2 ⟨40, [(0, vl eLabel aList), (3, vi s3.1), (4, .ref 4 0), (5, vl eLabel aList), (6, vi (aList.length : Int)), (7, vi s3.1), (16, vb false), (18, vi x7.Length)], [(4, .box (tc eLabel x7))]⟩ ?_
  obtain ⟨x9, hx9, h⟩ := bind_some h
  refine DGo.step (xc ents52 (impl_within_run x7.Length 1 20 _ hx9)) ?_
  refine DGo.ck tbok false 3 ⟨40, [(0, vl eLabel aList), (3, vi s3.1), (4, .ref 4 0), (5, vl eLabel aList), (6, vi (aList.length : Int)), (7, vi s3.1), (22, vb (!x9))], [(4, .box (tc eLabel x7))]⟩ ?_
  refine DGo.cu [(22, fun b => b)] h (fun h => ?_) fun h => ?_
  refine DGo.ck tbok false 13 ⟨40, [(0, vl eLabel aList), (5, vl eLabel aList), (6, vi (aList.length : Int)), (7, vi s3.1), (35, vb true)], []⟩ ?_
  refine DGo.nil (by kernel_rfl) ?_
  obtain rfl := inj h
  exact Le.sub0
  refine DGo.ck tbok false 2 ⟨40, [(0, vl eLabel aList), (3, vi s3.1), (4, .ref 4 0), (5, vl eLabel aList), (6, vi (aList.length : Int)), (7, vi s3.1), (22, vb false), (24, vi x7.Priority)], [(4, .box (tc eLabel x7))]⟩ ?_
  obtain ⟨x10, hx10, h⟩ := bind_some h
  refine DGo.step (xc ents52 (impl_within_run x7.Priority 1 9 _ hx10)) ?_
  refine DGo.ck tbok false 3 ⟨40, [(0, vl eLabel aList), (3, vi s3.1), (4, .ref 4 0), (5, vl eLabel aList), (6, vi (aList.length : Int)), (7, vi s3.1), (28, vb (!x10))], [(4, .box (tc eLabel x7))]⟩ ?_
  refine DGo.cu [(28, fun b => b)] h (fun h => ?_) fun h => ?_
  refine DGo.ck tbok false 7 ⟨40, [(0, vl eLabel aList), (5, vl eLabel aList), (6, vi (aList.length : Int)), (7, vi s3.1), (35, vb true)], []⟩ ?_
  refine DGo.nil (by kernel_rfl) ?_
  obtain rfl := inj h
  exact Le.sub0
  refine DGo.ck tbok false 2 ⟨40, [(0, vl eLabel aList), (4, .ref 4 0), (5, vl eLabel aList), (6, vi (aList.length : Int)), (7, vi s3.1), (28, vb false), (29, vl eLabel aList), (30, vi s3.1)], [(4, .box (tc eLabel x7))]⟩ ?_
  obtain ⟨x11, hx11, h⟩ := bind_some h
  refine DGo.step (x_slice (m := 4) (f := eLabel) (ti := ti27) (tj := ti52) (e := 52) hx11 (fun _ => rfl) tbok rfl) ?_
  refine DGo.ck tbok false 2 ⟨40, [(0, vl eLabel aList), (5, vl eLabel aList), (6, vi (aList.length : Int)), (7, vi s3.1), (28, vb false), (31, vl eLabel x11), (33, .agg (tc ePoint x7.At))], []⟩ ?_
  obtain ⟨x12, hx12, h⟩ := bind_some h
  refine DGo.step (xc ents53 (impl_isAt_run x11 x7.At _ hx12)) ?_
  refine DGo.ck tbok false 1 ⟨40, [(0, vl eLabel aList), (5, vl eLabel aList), (6, vi (aList.length : Int)), (7, vi s3.1), (35, vb x12)], []⟩ ?_
  refine DGo.nil (by kernel_rfl) ?_
  obtain rfl := inj h
  exact Le.sub0
  refine swp_cd h (fun h => ?_) fun h => ?_
  refine srk tbok ⟨40, [(2, vb false)], []⟩ ?_
  refine swp_ret ?_
  obtain rfl := inj h
  exact q_br (q_rr (q_rr (q_br (q_rr (q_fr (f1 fv))))))
  refine swp_skip ?_
  obtain rfl := inj h
  exact q_bn (q_l (Le.sub0))
  refine swp_reg ?_
  refine SRun.ck tbok 2 ⟨40, [(0, vl eLabel aList), (5, vl eLabel aList), (6, vi (aList.length : Int)), (7, vi (w64 (s3.1 + 1)))], []⟩ ?_
  refine SRun.nil ?_
  obtain rfl := inj h
  exact q_l (Le.sub0)
  refine swp_exit ?_
  obtain rfl := inj h
  exact nx_e (q_re (q_bh (q_l (Le.sub0))))
  refine srk tbok ⟨40, [(2, vb (decide ((aList.length : Int) ≤ 6)))], []⟩ ?_
  refine swp_ret ?_
  obtain rfl := inj h
  exact q_fr (f1 fv)
theorem ents28 : Ents Try.prog 28 := ents_of Try.func28 (by kernel_rfl) rfl
noncomputable def laws_eqInt64S (aA : (List Int)) (aB : (List Int)) : Option (Bool) :=
  (bif ((aA.length : Int) != (aB.length : Int)) then some false else (((forN (aA.length : Int) (fun (i3 : Int) (_ : Unit) => ((at' aA i3).bind fun x7 => ((at' aB i3).bind fun x8 => (bif (x7 != x8) then some (.inr (.inr false)) else some (.inl ()))))) (fun (_ : Unit) => .inl ()) 0 ())).bind (Sum.elim (fun (_ : Unit) => some true) some)))
theorem laws_eqInt64S_run (aA : (List Int)) (aB : (List Int)) (r : Bool) (h : laws_eqInt64S aA aB = some r) : SCall Try.prog 10 [.v (vl (eI .i64) aA), .v (vl (eI .i64) aB)] ⟨[.v (vb r)], [], false⟩ := by
  refine scall_in Try.func10 rfl [(.tmp 4)] rfl (fun r => ⟨[.v (vb r)], [], false⟩) (r := r) ?_
  unfold laws_eqInt64S at h
  refine srk tbok ⟨26, [(0, vl (eI .i64) aA), (1, vl (eI .i64) aB)], []⟩ ?_
  refine swp_seq ?_
  refine srk tbok ⟨26, [(0, vl (eI .i64) aA), (1, vl (eI .i64) aB), (10, vb ((aA.length : Int) != (aB.length : Int)))], []⟩ ?_
  refine swp_cd h (fun h => ?_) fun h => ?_
  refine srk tbok ⟨26, [(4, vb false)], []⟩ ?_
  refine swp_ret ?_
  obtain rfl := inj h
  exact nx_r (q_fr (f1 fv))
  refine swp_skip ?_
  refine nx_n ?_
  refine swp_seq ?_
  refine srk tbok ⟨26, [(0, vl (eI .i64) aA), (1, vl (eI .i64) aB), (5, vi 0)], []⟩ ?_
  refine swp_seqE (r := r) h (fun j1 => ⟨26, [], []⟩) (fun v2 h => ?_) (fun j1 h => ?_)
  refine swp_blk (a := v2) ?_
  refine swp_lpL (r := v2) (s := (0, ())) _ (fun s3 => ⟨26, [(0, vl (eI .i64) aA), (1, vl (eI .i64) aB), (5, vi s3.1)], []⟩) _ (Le.sub0) h (fun s3 v4 h => ?_)
  refine swp_seq ?_
  refine srk tbok ⟨26, [(0, vl (eI .i64) aA), (1, vl (eI .i64) aB), (5, vi s3.1), (14, vb (decide (s3.1 < (aA.length : Int))))], []⟩ ?_
  refine swp_cd h (fun h => ?_) fun h => ?_
  refine swp_skip ?_
  refine nx_n ?_
  refine swp_seq ?_
  refine swp_seqL (r := v4) h (fun j5 => ⟨26, [(0, vl (eI .i64) aA), (1, vl (eI .i64) aB), (5, vi s3.1)], []⟩) (fun v6 h => ?_) (fun j5 h => ?_)
  refine swp_blk (a := v6) ?_
  refine swp_seq ?_
  refine swp_dr mixed ?_
  refine DGo.ck tbok false 2 ⟨26, [(0, vl (eI .i64) aA), (1, vl (eI .i64) aB), (5, vi s3.1), (17, vl (eI .i64) aA), (18, vi s3.1)], []⟩ ?_
  obtain ⟨x7, hx7, h⟩ := bind_some h
  refine DGo.step (x_index (L := aA) (f := (eI .i64)) (ti := ti24) (tj := ti2) (e := 2) (k := .i64) tbok rfl hx7) ?_
  refine DGo.ck tbok false 3 ⟨26, [(0, vl (eI .i64) aA), (1, vl (eI .i64) aB), (5, vi s3.1), (20, vi x7), (21, vl (eI .i64) aB), (22, vi s3.1)], []⟩ ?_
  obtain ⟨x8, hx8, h⟩ := bind_some h
  refine DGo.step (x_index (L := aB) (f := (eI .i64)) (ti := ti24) (tj := ti2) (e := 2) (k := .i64) tbok rfl hx8) ?_
  refine DGo.ck tbok false 2 ⟨26, [(0, vl (eI .i64) aA), (1, vl (eI .i64) aB), (5, vi s3.1), (25, vb (x7 != x8))], []⟩ ?_
  refine DGo.nx ?_
  refine swp_cd h (fun h => ?_) fun h => ?_
  refine srk tbok ⟨26, [(4, vb false)], []⟩ ?_
  refine swp_ret ?_
  obtain rfl := inj h
  exact q_br (q_rr (q_rr (q_br (q_rr (q_fr (f1 fv))))))
  refine swp_skip ?_
  obtain rfl := inj h
  exact q_bn (q_l (Le.sub0))
  refine swp_reg ?_
  refine SRun.ck tbok 3 ⟨26, [(0, vl (eI .i64) aA), (1, vl (eI .i64) aB), (5, vi (w64 (s3.1 + 1)))], []⟩ ?_
  refine SRun.nil ?_
  obtain rfl := inj h
  exact q_l (Le.sub0)
  refine swp_exit ?_
  obtain rfl := inj h
  exact nx_e (q_re (q_bh (q_l (Le.sub0))))
  refine srk tbok ⟨26, [(4, vb true)], []⟩ ?_
  refine swp_ret ?_
  obtain rfl := inj h
  exact q_fr (f1 fv)
theorem ents10 : Ents Try.prog 10 := ents_of Try.func10 (by kernel_rfl) rfl
noncomputable def laws_eqPoint (aA : Point) (aB : Point) : Option (Bool) :=
  (bif (aA.X != aB.X) then some false else (bif (aA.Y != aB.Y) then some false else some true))
theorem laws_eqPoint_run (aA : Point) (aB : Point) (r : Bool) (h : laws_eqPoint aA aB = some r) : SCall Try.prog 61 [.v (.agg (tc ePoint aA)), .v (.agg (tc ePoint aB))] ⟨[.v (vb r)], [], false⟩ := by
  refine scall_in Try.func61 rfl [(.tmp 4)] rfl (fun r => ⟨[.v (vb r)], [], false⟩) (r := r) ?_
  unfold laws_eqPoint at h
  refine srk tbok ⟨15, [(2, .ref 2 0), (3, .ref 3 0)], [(2, .box (tc ePoint aA)), (3, .box (tc ePoint aB))]⟩ ?_
  refine swp_seq ?_
  refine srk tbok ⟨15, [(2, .ref 2 0), (3, .ref 3 0), (9, vb (aA.X != aB.X))], [(2, .box (tc ePoint aA)), (3, .box (tc ePoint aB))]⟩ ?_
  refine swp_cd h (fun h => ?_) fun h => ?_
  refine srk tbok ⟨15, [(4, vb false)], []⟩ ?_
  refine swp_ret ?_
  obtain rfl := inj h
  exact nx_r (q_fr (f1 fv))
  refine swp_skip ?_
  refine nx_n ?_
  refine swp_seq ?_
  refine srk tbok ⟨15, [(14, vb (aA.Y != aB.Y))], []⟩ ?_
  refine swp_cd h (fun h => ?_) fun h => ?_
  refine srk tbok ⟨15, [(4, vb false)], []⟩ ?_
  refine swp_ret ?_
  obtain rfl := inj h
  exact nx_r (q_fr (f1 fv))
  refine swp_skip ?_
  refine nx_n ?_
  refine srk tbok ⟨15, [(4, vb true)], []⟩ ?_
  refine swp_ret ?_
  obtain rfl := inj h
  exact q_fr (f1 fv)
theorem ents61 : Ents Try.prog 61 := ents_of Try.func61 (by kernel_rfl) rfl
noncomputable def laws_eqLabel (aA : Label) (aB : Label) : Option (Bool) :=
  ((laws_eqPoint aA.At aB.At).bind fun x1 => (bif (!x1) then some false else (bif (aA.Length != aB.Length) then some false else (bif (aA.Priority != aB.Priority) then some false else some true))))
theorem laws_eqLabel_run (aA : Label) (aB : Label) (r : Bool) (h : laws_eqLabel aA aB = some r) : SCall Try.prog 37 [.v (.agg (tc eLabel aA)), .v (.agg (tc eLabel aB))] ⟨[.v (vb r)], [], false⟩ := by
  refine scall_in Try.func37 rfl [(.tmp 4)] rfl (fun r => ⟨[.v (vb r)], [], false⟩) (r := r) ?_
  unfold laws_eqLabel at h
  refine srk tbok ⟨21, [(2, .ref 2 0), (3, .ref 3 0)], [(2, .box (tc eLabel aA)), (3, .box (tc eLabel aB))]⟩ ?_
  refine swp_seq ?_
  refine sr ?_
  refine SRun.ck tbok 4 ⟨21, [(2, .ref 2 0), (3, .ref 3 0), (6, .agg (tc ePoint aA.At)), (8, .agg (tc ePoint aB.At))], [(2, .box (tc eLabel aA)), (3, .box (tc eLabel aB))]⟩ ?_
  obtain ⟨x1, hx1, h⟩ := bind_some h
  refine SRun.ls (xc ents61 (laws_eqPoint_run aA.At aB.At _ hx1)) ?_
  refine ckn tbok 1 ⟨21, [(2, .ref 2 0), (3, .ref 3 0), (10, vb (!x1))], [(2, .box (tc eLabel aA)), (3, .box (tc eLabel aB))]⟩ ?_
  refine swp_cd h (fun h => ?_) fun h => ?_
  refine srk tbok ⟨21, [(4, vb false)], []⟩ ?_
  refine swp_ret ?_
  obtain rfl := inj h
  exact nx_r (q_fr (f1 fv))
  refine swp_skip ?_
  refine nx_n ?_
  refine swp_seq ?_
  refine srk tbok ⟨21, [(2, .ref 2 0), (3, .ref 3 0), (15, vb (aA.Length != aB.Length))], [(2, .box (tc eLabel aA)), (3, .box (tc eLabel aB))]⟩ ?_
  refine swp_cd h (fun h => ?_) fun h => ?_
  refine srk tbok ⟨21, [(4, vb false)], []⟩ ?_
  refine swp_ret ?_
  obtain rfl := inj h
  exact nx_r (q_fr (f1 fv))
  refine swp_skip ?_
  refine nx_n ?_
  refine swp_seq ?_
  refine srk tbok ⟨21, [(20, vb (aA.Priority != aB.Priority))], []⟩ ?_
  refine swp_cd h (fun h => ?_) fun h => ?_
  refine srk tbok ⟨21, [(4, vb false)], []⟩ ?_
  refine swp_ret ?_
  obtain rfl := inj h
  exact nx_r (q_fr (f1 fv))
  refine swp_skip ?_
  refine nx_n ?_
  refine srk tbok ⟨21, [(4, vb true)], []⟩ ?_
  refine swp_ret ?_
  obtain rfl := inj h
  exact q_fr (f1 fv)
theorem ents37 : Ents Try.prog 37 := ents_of Try.func37 (by kernel_rfl) rfl
noncomputable def laws_eqLabelS (aA : (List Label)) (aB : (List Label)) : Option (Bool) :=
  (bif ((aA.length : Int) != (aB.length : Int)) then some false else (((forN (aA.length : Int) (fun (i3 : Int) (_ : Unit) => ((at' aA i3).bind fun x7 => ((at' aB i3).bind fun x8 => ((laws_eqLabel x7 x8).bind fun x9 => (bif (!x9) then some (.inr (.inr false)) else some (.inl ())))))) (fun (_ : Unit) => .inl ()) 0 ())).bind (Sum.elim (fun (_ : Unit) => some true) some)))
theorem laws_eqLabelS_run (aA : (List Label)) (aB : (List Label)) (r : Bool) (h : laws_eqLabelS aA aB = some r) : SCall Try.prog 11 [.v (vl eLabel aA), .v (vl eLabel aB)] ⟨[.v (vb r)], [], false⟩ := by
  refine scall_in Try.func11 rfl [(.tmp 4)] rfl (fun r => ⟨[.v (vb r)], [], false⟩) (r := r) ?_
  unfold laws_eqLabelS at h
  refine srk tbok ⟨27, [(0, vl eLabel aA), (1, vl eLabel aB)], []⟩ ?_
  refine swp_seq ?_
  refine srk tbok ⟨27, [(0, vl eLabel aA), (1, vl eLabel aB), (10, vb ((aA.length : Int) != (aB.length : Int)))], []⟩ ?_
  refine swp_cd h (fun h => ?_) fun h => ?_
  refine srk tbok ⟨27, [(4, vb false)], []⟩ ?_
  refine swp_ret ?_
  obtain rfl := inj h
  exact nx_r (q_fr (f1 fv))
  refine swp_skip ?_
  refine nx_n ?_
  refine swp_seq ?_
  refine srk tbok ⟨27, [(0, vl eLabel aA), (1, vl eLabel aB), (5, vi 0)], []⟩ ?_
  refine swp_seqE (r := r) h (fun j1 => ⟨27, [], []⟩) (fun v2 h => ?_) (fun j1 h => ?_)
  refine swp_blk (a := v2) ?_
  refine swp_lpL (r := v2) (s := (0, ())) _ (fun s3 => ⟨27, [(0, vl eLabel aA), (1, vl eLabel aB), (5, vi s3.1)], []⟩) _ (Le.sub0) h (fun s3 v4 h => ?_)
  refine swp_seq ?_
  refine srk tbok ⟨27, [(0, vl eLabel aA), (1, vl eLabel aB), (5, vi s3.1), (14, vb (decide (s3.1 < (aA.length : Int))))], []⟩ ?_
  refine swp_cd h (fun h => ?_) fun h => ?_
  refine swp_skip ?_
  refine nx_n ?_
  refine swp_seq ?_
  refine swp_seqL (r := v4) h (fun j5 => ⟨27, [(0, vl eLabel aA), (1, vl eLabel aB), (5, vi s3.1)], []⟩) (fun v6 h => ?_) (fun j5 h => ?_)
  refine swp_blk (a := v6) ?_
  refine swp_seq ?_
  refine swp_dr mixed ?_
  refine DGo.ck tbok false 2 ⟨27, [(0, vl eLabel aA), (1, vl eLabel aB), (5, vi s3.1), (17, vl eLabel aA), (18, vi s3.1)], []⟩ ?_
  obtain ⟨x7, hx7, h⟩ := bind_some h
  refine DGo.step (x_index (L := aA) (f := eLabel) (ti := ti27) (tj := ti52) (e := 52) (k := .i64) tbok rfl hx7) ?_
  refine DGo.ck tbok false 3 ⟨27, [(0, vl eLabel aA), (1, vl eLabel aB), (5, vi s3.1), (20, .agg (tc eLabel x7)), (21, vl eLabel aB), (22, vi s3.1)], []⟩ ?_
  obtain ⟨x8, hx8, h⟩ := bind_some h
  refine DGo.step (x_index (L := aB) (f := eLabel) (ti := ti27) (tj := ti52) (e := 52) (k := .i64) tbok rfl hx8) ?_
  refine DGo.ck tbok false 1 ⟨27, [(0, vl eLabel aA), (1, vl eLabel aB), (5, vi s3.1), (20, .agg (tc eLabel x7)), (24, .agg (tc eLabel x8))], []⟩ ?_
  obtain ⟨x9, hx9, h⟩ := bind_some h
  refine DGo.step (xc ents37 (laws_eqLabel_run x7 x8 _ hx9)) ?_
  refine DGo.ck tbok false 1 ⟨27, [(0, vl eLabel aA), (1, vl eLabel aB), (5, vi s3.1), (26, vb (!x9))], []⟩ ?_
  refine DGo.nx ?_
  refine swp_cd h (fun h => ?_) fun h => ?_
  refine srk tbok ⟨27, [(4, vb false)], []⟩ ?_
  refine swp_ret ?_
  obtain rfl := inj h
  exact q_br (q_rr (q_rr (q_br (q_rr (q_fr (f1 fv))))))
  refine swp_skip ?_
  obtain rfl := inj h
  exact q_bn (q_l (Le.sub0))
  refine swp_reg ?_
  refine SRun.ck tbok 3 ⟨27, [(0, vl eLabel aA), (1, vl eLabel aB), (5, vi (w64 (s3.1 + 1)))], []⟩ ?_
  refine SRun.nil ?_
  obtain rfl := inj h
  exact q_l (Le.sub0)
  refine swp_exit ?_
  obtain rfl := inj h
  exact nx_e (q_re (q_bh (q_l (Le.sub0))))
  refine srk tbok ⟨27, [(4, vb true)], []⟩ ?_
  refine swp_ret ?_
  obtain rfl := inj h
  exact q_fr (f1 fv)
theorem ents11 : Ents Try.prog 11 := ents_of Try.func11 (by kernel_rfl) rfl
noncomputable def laws_markLabelS (aA : (List Label)) (aK : Int) : Option (Int × (List Label)) :=
  (((forH (fun (i3 : Int) (s3 : Int × (List Label)) => (decide (i3 < (s3.2.length : Int)))) (fun (i3 : Int) (s3 : Int × (List Label)) => ((at' s3.2 i3).bind fun x7 => ((at' (List.set s3.2 (Int.toNat i3) (Label.mk (Point.mk s3.1 x7.At.Y) x7.Length x7.Priority)) i3).bind fun x8 => ((at' (List.set (List.set s3.2 (Int.toNat i3) (Label.mk (Point.mk s3.1 x7.At.Y) x7.Length x7.Priority)) (Int.toNat i3) (Label.mk (Point.mk x8.At.X (w64 (s3.1 + 1))) x8.Length x8.Priority)) i3).bind fun x9 => ((at' (List.set (List.set (List.set s3.2 (Int.toNat i3) (Label.mk (Point.mk s3.1 x7.At.Y) x7.Length x7.Priority)) (Int.toNat i3) (Label.mk (Point.mk x8.At.X (w64 (s3.1 + 1))) x8.Length x8.Priority)) (Int.toNat i3) (Label.mk x9.At (w64 ((w64 (s3.1 + 1)) + 1)) x9.Priority)) i3).bind fun x10 => some ((w64 ((w64 ((w64 ((w64 (s3.1 + 1)) + 1)) + 1)) + 1)), (List.set (List.set (List.set (List.set s3.2 (Int.toNat i3) (Label.mk (Point.mk s3.1 x7.At.Y) x7.Length x7.Priority)) (Int.toNat i3) (Label.mk (Point.mk x8.At.X (w64 (s3.1 + 1))) x8.Length x8.Priority)) (Int.toNat i3) (Label.mk x9.At (w64 ((w64 (s3.1 + 1)) + 1)) x9.Priority)) (Int.toNat i3) (Label.mk x10.At x10.Length (w64 ((w64 ((w64 (s3.1 + 1)) + 1)) + 1)))))))))) (fun (s3 : Int × (List Label)) => (s3.1, s3.2)) 0 (aK, aA))).bind fun (j1 : Int × (List Label)) => some (j1.1, j1.2))
theorem laws_markLabelS_run (aA : (List Label)) (aK : Int) (r : Int × (List Label)) (h : laws_markLabelS aA aK = some r) : SCall Try.prog 12 [.o (oa 52 4 eLabel aA), .v (vi aK)] ⟨[.v (vi r.1)], [(0, oa 52 4 eLabel r.2)], false⟩ := by
  refine scall_in Try.func12 rfl [(.tmp 4)] rfl (fun r => ⟨[.v (vi r.1)], [(0, oa 52 4 eLabel r.2)], false⟩) (r := r) ?_
  unfold laws_markLabelS at h
  refine srk tbok ⟨43, [(0, .own 1000000), (1, vi aK)], [(1000000, oa 52 4 eLabel aA)]⟩ ?_
  refine swp_seq ?_
  refine srk tbok ⟨43, [(0, .own 1000000), (1, vi aK), (5, vi 0)], [(1000000, oa 52 4 eLabel aA)]⟩ ?_
  refine swp_seqJ h (fun j1 => ⟨43, [(1, vi j1.1)], [(1000000, oa 52 4 eLabel j1.2)]⟩) (fun v2 h => ?_) (fun j1 h => ?_)
  refine swp_blk (a := v2) ?_
  refine swp_lpL (r := v2) (s := (0, aK, aA)) _ (fun s3 => ⟨43, [(0, .own 1000000), (1, vi s3.2.1), (5, vi s3.1)], [(1000000, oa 52 4 eLabel s3.2.2)]⟩) _ (Le.sub0) h (fun s3 v4 h => ?_)
  refine swp_seq ?_
  refine srk tbok ⟨43, [(0, .own 1000000), (1, vi s3.2.1), (5, vi s3.1), (9, vb (decide (s3.1 < (s3.2.2.length : Int))))], [(1000000, oa 52 4 eLabel s3.2.2)]⟩ ?_
  refine swp_cd h (fun h => ?_) fun h => ?_
  refine swp_skip ?_
  refine nx_n ?_
  refine swp_seq ?_
  refine swp_seqJ h (fun j5 => ⟨43, [(0, .own 1000000), (1, vi j5.1), (5, vi s3.1)], [(1000000, oa 52 4 eLabel j5.2)]⟩) (fun v6 h => ?_) (fun j5 h => ?_)
  refine swp_blk (a := v6) ?_
  refine sr ?_
  refine SRun.ck tbok 3 ⟨43, [(0, .own 1000000), (1, vi s3.2.1), (5, vi s3.1), (12, .own 1000000), (13, vi s3.1), (14, vi s3.2.1)], [(1000000, oa 52 4 eLabel s3.2.2)]⟩ ?_
  obtain ⟨x7, hx7, h⟩ := bind_some h
  refine SRun.ls (x_index_own (d := 1000000) (L := s3.2.2) (f := eLabel) (ti := ti27) (tj := ti52) (e := 52) (e' := 52) (m := 4) (k := .i64) tbok rfl hx7) ?_
  refine SRun.ck tbok 2 ⟨43, [(0, .own 1000000), (1, vi s3.2.1), (5, vi s3.1), (14, vi s3.2.1), (17, .eref 1000000 4 (Int.toNat s3.1) 0)], [(1000000, oa 52 4 eLabel s3.2.2)]⟩ ?_
  refine SRun.estep (x_store_own (d := 1000000) (m := 4) (j := 0) (L := s3.2.2) (f := eLabel) (x := (Label.mk (Point.mk s3.2.1 x7.At.Y) x7.Length x7.Priority)) (z := x7) (ti := ti2) (e := 52) (ts := [.int .i64 s3.2.1]) (vs := [vi s3.2.1]) (v := vi s3.2.1) tbok rfl rfl hx7) ?_
  refine SRun.nx ?_
  refine srk tbok ⟨43, [(0, .own 1000000), (1, vi (w64 (s3.2.1 + 1))), (5, vi s3.1)], [(1000000, oa 52 4 eLabel (List.set s3.2.2 (Int.toNat s3.1) (Label.mk (Point.mk s3.2.1 x7.At.Y) x7.Length x7.Priority)))]⟩ ?_
  refine sr ?_
  refine SRun.ck tbok 3 ⟨43, [(0, .own 1000000), (1, vi (w64 (s3.2.1 + 1))), (5, vi s3.1), (20, .own 1000000), (21, vi s3.1), (22, vi (w64 (s3.2.1 + 1)))], [(1000000, oa 52 4 eLabel (List.set s3.2.2 (Int.toNat s3.1) (Label.mk (Point.mk s3.2.1 x7.At.Y) x7.Length x7.Priority)))]⟩ ?_
  obtain ⟨x8, hx8, h⟩ := bind_some h
  refine SRun.ls (x_index_own (d := 1000000) (L := (List.set s3.2.2 (Int.toNat s3.1) (Label.mk (Point.mk s3.2.1 x7.At.Y) x7.Length x7.Priority))) (f := eLabel) (ti := ti27) (tj := ti52) (e := 52) (e' := 52) (m := 4) (k := .i64) tbok rfl hx8) ?_
  refine SRun.ck tbok 2 ⟨43, [(0, .own 1000000), (1, vi (w64 (s3.2.1 + 1))), (5, vi s3.1), (22, vi (w64 (s3.2.1 + 1))), (25, .eref 1000000 4 (Int.toNat s3.1) 1)], [(1000000, oa 52 4 eLabel (List.set s3.2.2 (Int.toNat s3.1) (Label.mk (Point.mk s3.2.1 x7.At.Y) x7.Length x7.Priority)))]⟩ ?_
  refine SRun.estep (x_store_own (d := 1000000) (m := 4) (j := 1) (L := (List.set s3.2.2 (Int.toNat s3.1) (Label.mk (Point.mk s3.2.1 x7.At.Y) x7.Length x7.Priority))) (f := eLabel) (x := (Label.mk (Point.mk x8.At.X (w64 (s3.2.1 + 1))) x8.Length x8.Priority)) (z := x8) (ti := ti2) (e := 52) (ts := [.int .i64 (w64 (s3.2.1 + 1))]) (vs := [vi (w64 (s3.2.1 + 1))]) (v := vi (w64 (s3.2.1 + 1))) tbok rfl rfl hx8) ?_
  refine SRun.nx ?_
  refine srk tbok ⟨43, [(0, .own 1000000), (1, vi (w64 ((w64 (s3.2.1 + 1)) + 1))), (5, vi s3.1)], [(1000000, oa 52 4 eLabel (List.set (List.set s3.2.2 (Int.toNat s3.1) (Label.mk (Point.mk s3.2.1 x7.At.Y) x7.Length x7.Priority)) (Int.toNat s3.1) (Label.mk (Point.mk x8.At.X (w64 (s3.2.1 + 1))) x8.Length x8.Priority)))]⟩ ?_
  refine sr ?_
  refine SRun.ck tbok 3 ⟨43, [(0, .own 1000000), (1, vi (w64 ((w64 (s3.2.1 + 1)) + 1))), (5, vi s3.1), (28, .own 1000000), (29, vi s3.1), (30, vi (w64 ((w64 (s3.2.1 + 1)) + 1)))], [(1000000, oa 52 4 eLabel (List.set (List.set s3.2.2 (Int.toNat s3.1) (Label.mk (Point.mk s3.2.1 x7.At.Y) x7.Length x7.Priority)) (Int.toNat s3.1) (Label.mk (Point.mk x8.At.X (w64 (s3.2.1 + 1))) x8.Length x8.Priority)))]⟩ ?_
  obtain ⟨x9, hx9, h⟩ := bind_some h
  refine SRun.ls (x_index_own (d := 1000000) (L := (List.set (List.set s3.2.2 (Int.toNat s3.1) (Label.mk (Point.mk s3.2.1 x7.At.Y) x7.Length x7.Priority)) (Int.toNat s3.1) (Label.mk (Point.mk x8.At.X (w64 (s3.2.1 + 1))) x8.Length x8.Priority))) (f := eLabel) (ti := ti27) (tj := ti52) (e := 52) (e' := 52) (m := 4) (k := .i64) tbok rfl hx9) ?_
  refine SRun.ck tbok 1 ⟨43, [(0, .own 1000000), (1, vi (w64 ((w64 (s3.2.1 + 1)) + 1))), (5, vi s3.1), (30, vi (w64 ((w64 (s3.2.1 + 1)) + 1))), (32, .eref 1000000 4 (Int.toNat s3.1) 2)], [(1000000, oa 52 4 eLabel (List.set (List.set s3.2.2 (Int.toNat s3.1) (Label.mk (Point.mk s3.2.1 x7.At.Y) x7.Length x7.Priority)) (Int.toNat s3.1) (Label.mk (Point.mk x8.At.X (w64 (s3.2.1 + 1))) x8.Length x8.Priority)))]⟩ ?_
  refine SRun.estep (x_store_own (d := 1000000) (m := 4) (j := 2) (L := (List.set (List.set s3.2.2 (Int.toNat s3.1) (Label.mk (Point.mk s3.2.1 x7.At.Y) x7.Length x7.Priority)) (Int.toNat s3.1) (Label.mk (Point.mk x8.At.X (w64 (s3.2.1 + 1))) x8.Length x8.Priority))) (f := eLabel) (x := (Label.mk x9.At (w64 ((w64 (s3.2.1 + 1)) + 1)) x9.Priority)) (z := x9) (ti := ti2) (e := 52) (ts := [.int .i64 (w64 ((w64 (s3.2.1 + 1)) + 1))]) (vs := [vi (w64 ((w64 (s3.2.1 + 1)) + 1))]) (v := vi (w64 ((w64 (s3.2.1 + 1)) + 1))) tbok rfl rfl hx9) ?_
  refine SRun.nx ?_
  refine srk tbok ⟨43, [(0, .own 1000000), (1, vi (w64 ((w64 ((w64 (s3.2.1 + 1)) + 1)) + 1))), (5, vi s3.1)], [(1000000, oa 52 4 eLabel (List.set (List.set (List.set s3.2.2 (Int.toNat s3.1) (Label.mk (Point.mk s3.2.1 x7.At.Y) x7.Length x7.Priority)) (Int.toNat s3.1) (Label.mk (Point.mk x8.At.X (w64 (s3.2.1 + 1))) x8.Length x8.Priority)) (Int.toNat s3.1) (Label.mk x9.At (w64 ((w64 (s3.2.1 + 1)) + 1)) x9.Priority)))]⟩ ?_
  refine sr ?_
  refine SRun.ck tbok 3 ⟨43, [(0, .own 1000000), (1, vi (w64 ((w64 ((w64 (s3.2.1 + 1)) + 1)) + 1))), (5, vi s3.1), (35, .own 1000000), (36, vi s3.1), (37, vi (w64 ((w64 ((w64 (s3.2.1 + 1)) + 1)) + 1)))], [(1000000, oa 52 4 eLabel (List.set (List.set (List.set s3.2.2 (Int.toNat s3.1) (Label.mk (Point.mk s3.2.1 x7.At.Y) x7.Length x7.Priority)) (Int.toNat s3.1) (Label.mk (Point.mk x8.At.X (w64 (s3.2.1 + 1))) x8.Length x8.Priority)) (Int.toNat s3.1) (Label.mk x9.At (w64 ((w64 (s3.2.1 + 1)) + 1)) x9.Priority)))]⟩ ?_
  obtain ⟨x10, hx10, h⟩ := bind_some h
  refine SRun.ls (x_index_own (d := 1000000) (L := (List.set (List.set (List.set s3.2.2 (Int.toNat s3.1) (Label.mk (Point.mk s3.2.1 x7.At.Y) x7.Length x7.Priority)) (Int.toNat s3.1) (Label.mk (Point.mk x8.At.X (w64 (s3.2.1 + 1))) x8.Length x8.Priority)) (Int.toNat s3.1) (Label.mk x9.At (w64 ((w64 (s3.2.1 + 1)) + 1)) x9.Priority))) (f := eLabel) (ti := ti27) (tj := ti52) (e := 52) (e' := 52) (m := 4) (k := .i64) tbok rfl hx10) ?_
  refine SRun.ck tbok 1 ⟨43, [(0, .own 1000000), (1, vi (w64 ((w64 ((w64 (s3.2.1 + 1)) + 1)) + 1))), (5, vi s3.1), (37, vi (w64 ((w64 ((w64 (s3.2.1 + 1)) + 1)) + 1))), (39, .eref 1000000 4 (Int.toNat s3.1) 3)], [(1000000, oa 52 4 eLabel (List.set (List.set (List.set s3.2.2 (Int.toNat s3.1) (Label.mk (Point.mk s3.2.1 x7.At.Y) x7.Length x7.Priority)) (Int.toNat s3.1) (Label.mk (Point.mk x8.At.X (w64 (s3.2.1 + 1))) x8.Length x8.Priority)) (Int.toNat s3.1) (Label.mk x9.At (w64 ((w64 (s3.2.1 + 1)) + 1)) x9.Priority)))]⟩ ?_
  refine SRun.estep (x_store_own (d := 1000000) (m := 4) (j := 3) (L := (List.set (List.set (List.set s3.2.2 (Int.toNat s3.1) (Label.mk (Point.mk s3.2.1 x7.At.Y) x7.Length x7.Priority)) (Int.toNat s3.1) (Label.mk (Point.mk x8.At.X (w64 (s3.2.1 + 1))) x8.Length x8.Priority)) (Int.toNat s3.1) (Label.mk x9.At (w64 ((w64 (s3.2.1 + 1)) + 1)) x9.Priority))) (f := eLabel) (x := (Label.mk x10.At x10.Length (w64 ((w64 ((w64 (s3.2.1 + 1)) + 1)) + 1)))) (z := x10) (ti := ti2) (e := 52) (ts := [.int .i64 (w64 ((w64 ((w64 (s3.2.1 + 1)) + 1)) + 1))]) (vs := [vi (w64 ((w64 ((w64 (s3.2.1 + 1)) + 1)) + 1))]) (v := vi (w64 ((w64 ((w64 (s3.2.1 + 1)) + 1)) + 1))) tbok rfl rfl hx10) ?_
  refine SRun.nx ?_
  refine swp_reg ?_
  refine SRun.ck tbok 3 ⟨43, [(0, .own 1000000), (1, vi (w64 ((w64 ((w64 ((w64 (s3.2.1 + 1)) + 1)) + 1)) + 1))), (5, vi s3.1)], [(1000000, oa 52 4 eLabel (List.set (List.set (List.set (List.set s3.2.2 (Int.toNat s3.1) (Label.mk (Point.mk s3.2.1 x7.At.Y) x7.Length x7.Priority)) (Int.toNat s3.1) (Label.mk (Point.mk x8.At.X (w64 (s3.2.1 + 1))) x8.Length x8.Priority)) (Int.toNat s3.1) (Label.mk x9.At (w64 ((w64 (s3.2.1 + 1)) + 1)) x9.Priority)) (Int.toNat s3.1) (Label.mk x10.At x10.Length (w64 ((w64 ((w64 (s3.2.1 + 1)) + 1)) + 1)))))]⟩ ?_
  refine SRun.nil ?_
  obtain rfl := inj h
  exact q_bn (q_j (Le.sub0))
  refine swp_reg ?_
  refine SRun.ck tbok 3 ⟨43, [(0, .own 1000000), (1, vi j5.1), (5, vi (w64 (s3.1 + 1)))], [(1000000, oa 52 4 eLabel j5.2)]⟩ ?_
  refine SRun.nil ?_
  obtain rfl := inj h
  exact q_l (Le.sub0)
  refine swp_exit ?_
  obtain rfl := inj h
  exact nx_e (q_re (q_bh (q_j (Le.sub0))))
  refine srk tbok ⟨43, [(4, vi j1.1)], [(1000000, oa 52 4 eLabel j1.2)]⟩ ?_
  refine swp_ret ?_
  obtain rfl := inj h
  exact q_fr (fin_io (f1 fv) (y := oa 52 4 eLabel j1.2) (by kernel_rfl) rfl (by kernel_rfl) (by kernel_rfl))
theorem ents12 : Ents Try.prog 12 := ents_of Try.func12 (by kernel_rfl) rfl
noncomputable def laws_markInt64S (aA : (List Int)) (aK : Int) : Option (Int × (List Int)) :=
  (((forH (fun (i3 : Int) (s3 : Int × (List Int)) => (decide (i3 < (s3.2.length : Int)))) (fun (i3 : Int) (s3 : Int × (List Int)) => ((at' s3.2 i3).bind fun _ => some ((w64 (s3.1 + 1)), (List.set s3.2 (Int.toNat i3) s3.1)))) (fun (s3 : Int × (List Int)) => (s3.1, s3.2)) 0 (aK, aA))).bind fun (j1 : Int × (List Int)) => some (j1.1, j1.2))
theorem laws_markInt64S_run (aA : (List Int)) (aK : Int) (r : Int × (List Int)) (h : laws_markInt64S aA aK = some r) : SCall Try.prog 13 [.o (oa 2 1 (eI .i64) aA), .v (vi aK)] ⟨[.v (vi r.1)], [(0, oa 2 1 (eI .i64) r.2)], false⟩ := by
  refine scall_in Try.func13 rfl [(.tmp 4)] rfl (fun r => ⟨[.v (vi r.1)], [(0, oa 2 1 (eI .i64) r.2)], false⟩) (r := r) ?_
  unfold laws_markInt64S at h
  refine srk tbok ⟨19, [(0, .own 1000000), (1, vi aK)], [(1000000, oa 2 1 (eI .i64) aA)]⟩ ?_
  refine swp_seq ?_
  refine srk tbok ⟨19, [(0, .own 1000000), (1, vi aK), (5, vi 0)], [(1000000, oa 2 1 (eI .i64) aA)]⟩ ?_
  refine swp_seqJ h (fun j1 => ⟨19, [(1, vi j1.1)], [(1000000, oa 2 1 (eI .i64) j1.2)]⟩) (fun v2 h => ?_) (fun j1 h => ?_)
  refine swp_blk (a := v2) ?_
  refine swp_lpL (r := v2) (s := (0, aK, aA)) _ (fun s3 => ⟨19, [(0, .own 1000000), (1, vi s3.2.1), (5, vi s3.1)], [(1000000, oa 2 1 (eI .i64) s3.2.2)]⟩) _ (Le.sub0) h (fun s3 v4 h => ?_)
  refine swp_seq ?_
  refine srk tbok ⟨19, [(0, .own 1000000), (1, vi s3.2.1), (5, vi s3.1), (9, vb (decide (s3.1 < (s3.2.2.length : Int))))], [(1000000, oa 2 1 (eI .i64) s3.2.2)]⟩ ?_
  refine swp_cd h (fun h => ?_) fun h => ?_
  refine swp_skip ?_
  refine nx_n ?_
  refine swp_seq ?_
  refine swp_seqJ h (fun j5 => ⟨19, [(0, .own 1000000), (1, vi j5.1), (5, vi s3.1)], [(1000000, oa 2 1 (eI .i64) j5.2)]⟩) (fun v6 h => ?_) (fun j5 h => ?_)
  refine swp_blk (a := v6) ?_
  refine sr ?_
  refine SRun.ck tbok 3 ⟨19, [(0, .own 1000000), (1, vi s3.2.1), (5, vi s3.1), (12, .own 1000000), (13, vi s3.1), (14, vi s3.2.1)], [(1000000, oa 2 1 (eI .i64) s3.2.2)]⟩ ?_
  obtain ⟨x7, hx7, h⟩ := bind_some h
  refine SRun.ls (x_index_own (d := 1000000) (L := s3.2.2) (f := (eI .i64)) (ti := ti24) (tj := ti2) (e := 2) (e' := 2) (m := 1) (k := .i64) tbok rfl hx7) ?_
  refine SRun.estep (x_store_own (d := 1000000) (m := 1) (j := 0) (L := s3.2.2) (f := (eI .i64)) (x := s3.2.1) (z := x7) (ti := ti2) (e := 2) (ts := [.int .i64 s3.2.1]) (vs := [vi s3.2.1]) (v := vi s3.2.1) tbok rfl rfl hx7) ?_
  refine SRun.nx ?_
  refine swp_reg ?_
  refine SRun.ck tbok 3 ⟨19, [(0, .own 1000000), (1, vi (w64 (s3.2.1 + 1))), (5, vi s3.1)], [(1000000, oa 2 1 (eI .i64) (List.set s3.2.2 (Int.toNat s3.1) s3.2.1))]⟩ ?_
  refine SRun.nil ?_
  obtain rfl := inj h
  exact q_bn (q_j (Le.sub0))
  refine swp_reg ?_
  refine SRun.ck tbok 3 ⟨19, [(0, .own 1000000), (1, vi j5.1), (5, vi (w64 (s3.1 + 1)))], [(1000000, oa 2 1 (eI .i64) j5.2)]⟩ ?_
  refine SRun.nil ?_
  obtain rfl := inj h
  exact q_l (Le.sub0)
  refine swp_exit ?_
  obtain rfl := inj h
  exact nx_e (q_re (q_bh (q_j (Le.sub0))))
  refine srk tbok ⟨19, [(4, vi j1.1)], [(1000000, oa 2 1 (eI .i64) j1.2)]⟩ ?_
  refine swp_ret ?_
  obtain rfl := inj h
  exact q_fr (fin_io (f1 fv) (y := oa 2 1 (eI .i64) j1.2) (by kernel_rfl) rfl (by kernel_rfl) (by kernel_rfl))
theorem ents13 : Ents Try.prog 13 := ents_of Try.func13 (by kernel_rfl) rfl
noncomputable def laws_heldInt64S (aA : (List Int)) (aK : Int) : Option (Int) :=
  (((forN (aA.length : Int) (fun (i3 : Int) (s3 : Int) => ((at' aA i3).bind fun x7 => (bif (x7 != s3) then some (.inr (.inr (-1))) else some (.inl (w64 (s3 + 1)))))) (fun (s3 : Int) => .inl s3) 0 aK)).bind (Sum.elim (fun (j1 : Int) => some j1) some))
theorem laws_heldInt64S_run (aA : (List Int)) (aK : Int) (r : Int) (h : laws_heldInt64S aA aK = some r) : SCall Try.prog 14 [.v (vl (eI .i64) aA), .v (vi aK)] ⟨[.v (vi r)], [], false⟩ := by
  refine scall_in Try.func14 rfl [(.tmp 4)] rfl (fun r => ⟨[.v (vi r)], [], false⟩) (r := r) ?_
  unfold laws_heldInt64S at h
  refine srk tbok ⟨21, [(0, vl (eI .i64) aA), (1, vi aK)], []⟩ ?_
  refine swp_seq ?_
  refine srk tbok ⟨21, [(0, vl (eI .i64) aA), (1, vi aK), (5, vi 0)], []⟩ ?_
  refine swp_seqE (r := r) h (fun j1 => ⟨21, [(1, vi j1)], []⟩) (fun v2 h => ?_) (fun j1 h => ?_)
  refine swp_blk (a := v2) ?_
  refine swp_lpL (r := v2) (s := (0, aK)) _ (fun s3 => ⟨21, [(0, vl (eI .i64) aA), (1, vi s3.2), (5, vi s3.1)], []⟩) _ (Le.sub0) h (fun s3 v4 h => ?_)
  refine swp_seq ?_
  refine srk tbok ⟨21, [(0, vl (eI .i64) aA), (1, vi s3.2), (5, vi s3.1), (9, vb (decide (s3.1 < (aA.length : Int))))], []⟩ ?_
  refine swp_cd h (fun h => ?_) fun h => ?_
  refine swp_skip ?_
  refine nx_n ?_
  refine swp_seq ?_
  refine swp_seqL (r := v4) h (fun j5 => ⟨21, [(0, vl (eI .i64) aA), (1, vi j5), (5, vi s3.1)], []⟩) (fun v6 h => ?_) (fun j5 h => ?_)
  refine swp_blk (a := v6) ?_
  refine swp_seq ?_
  refine sr ?_
  refine SRun.ck tbok 2 ⟨21, [(0, vl (eI .i64) aA), (1, vi s3.2), (5, vi s3.1), (12, vl (eI .i64) aA), (13, vi s3.1)], []⟩ ?_
  obtain ⟨x7, hx7, h⟩ := bind_some h
  refine SRun.ls (x_index (L := aA) (f := (eI .i64)) (ti := ti24) (tj := ti2) (e := 2) (k := .i64) tbok rfl hx7) ?_
  refine ckn tbok 3 ⟨21, [(0, vl (eI .i64) aA), (1, vi s3.2), (5, vi s3.1), (17, vb (x7 != s3.2))], []⟩ ?_
  refine swp_cd h (fun h => ?_) fun h => ?_
  refine srk tbok ⟨21, [(4, vi (-1))], []⟩ ?_
  refine swp_ret ?_
  obtain rfl := inj h
  exact nx_r (q_br (q_rr (q_rr (q_br (q_rr (q_fr (f1 fv)))))))
  refine swp_skip ?_
  refine nx_n ?_
  refine swp_reg ?_
  refine SRun.ck tbok 3 ⟨21, [(0, vl (eI .i64) aA), (1, vi (w64 (s3.2 + 1))), (5, vi s3.1)], []⟩ ?_
  refine SRun.nil ?_
  obtain rfl := inj h
  exact q_bn (q_l (Le.sub0))
  refine swp_reg ?_
  refine SRun.ck tbok 3 ⟨21, [(0, vl (eI .i64) aA), (1, vi j5), (5, vi (w64 (s3.1 + 1)))], []⟩ ?_
  refine SRun.nil ?_
  obtain rfl := inj h
  exact q_l (Le.sub0)
  refine swp_exit ?_
  obtain rfl := inj h
  exact nx_e (q_re (q_bh (q_l (Le.sub0))))
  refine srk tbok ⟨21, [(4, vi j1)], []⟩ ?_
  refine swp_ret ?_
  obtain rfl := inj h
  exact q_fr (f1 fv)
theorem ents14 : Ents Try.prog 14 := ents_of Try.func14 (by kernel_rfl) rfl
noncomputable def spec_l01Own (aList : (List Int)) : Option ((List Int)) :=
  ((app' ([] : List Int) aList).bind fun x1 => some x1)
theorem spec_l01Own_run (aList : (List Int)) (r : (List Int)) (h : spec_l01Own aList = some r) : SCall Try.prog 56 [.v (vl (eI .i64) aList)] ⟨[.own 2 1 r.length (r.map (eI .i64))], [], false⟩ := by
  refine scall_in Try.func56 rfl [(.tmp 2)] rfl (fun r => ⟨[.own 2 1 r.length (r.map (eI .i64))], [], false⟩) (r := r) ?_
  unfold spec_l01Own at h
  refine srk tbok ⟨6, [(0, vl (eI .i64) aList)], []⟩ ?_
  refine sr ?_
  refine SRun.ck tbok 2 ⟨6, [(3, .own 3), (4, vl (eI .i64) aList)], [(3, oa 2 1 (eI .i64) ([] : List Int))]⟩ ?_
  obtain ⟨x1, hx1, h⟩ := bind_some h
  refine SRun.estep (x_append (f := (eI .i64)) (t := 24) (ti := ti24) (tj := ti2) (zs := [.int .i64 0]) (e := 2) (m := 1) (d := 3) (xv := vl (eI .i64) aList) hx1 tbok rfl rfl rfl rfl (src_e (fun _ => rfl))) ?_
  refine ckn tbok 1 ⟨6, [(2, .own 5)], [(5, oa 2 1 (eI .i64) x1)]⟩ ?_
  refine swp_ret ?_
  obtain rfl := inj h
  exact q_fr (f1 (fo (eI_flat .i64)))
theorem ents56 : Ents Try.prog 56 := ents_of Try.func56 (by kernel_rfl) rfl
noncomputable def spec_l33Score (aList : (List Label)) (aPlacement : (List Int)) : Option (Int) :=
  (((forS (aPlacement.length : Int) (fun (i3 : Int) (s3 : Int) => ((at' aPlacement i3).bind fun x7 => (bif (decide (x7 < 4)) then ((at' aList i3).bind fun x8 => some (w64 (s3 + x8.Priority))) else some s3))) (fun (s3 : Int) => s3) 0 0)).bind fun (j1 : Int) => some j1)
theorem spec_l33Score_run (aList : (List Label)) (aPlacement : (List Int)) (r : Int) (h : spec_l33Score aList aPlacement = some r) : SCall Try.prog 48 [.v (vl eLabel aList), .v (vl (eI .i64) aPlacement)] ⟨[.v (vi r)], [], false⟩ := by
  refine scall_in Try.func48 rfl [(.tmp 4)] rfl (fun r => ⟨[.v (vi r)], [], false⟩) (r := r) ?_
  unfold spec_l33Score at h
  refine srk tbok ⟨26, [(0, vl eLabel aList), (1, vl (eI .i64) aPlacement)], []⟩ ?_
  refine srk tbok ⟨26, [(0, vl eLabel aList), (1, vl (eI .i64) aPlacement), (5, vi 0)], []⟩ ?_
  refine swp_seq ?_
  refine srk tbok ⟨26, [(0, vl eLabel aList), (1, vl (eI .i64) aPlacement), (5, vi 0), (6, vi 0)], []⟩ ?_
  refine swp_seqJ h (fun j1 => ⟨26, [(5, vi j1)], []⟩) (fun v2 h => ?_) (fun j1 h => ?_)
  refine swp_blk (a := v2) ?_
  refine swp_lpL (r := v2) (s := (0, 0)) _ (fun s3 => ⟨26, [(0, vl eLabel aList), (1, vl (eI .i64) aPlacement), (5, vi s3.2), (6, vi s3.1)], []⟩) _ (Le.sub0) h (fun s3 v4 h => ?_)
  refine swp_seq ?_
  refine srk tbok ⟨26, [(0, vl eLabel aList), (1, vl (eI .i64) aPlacement), (5, vi s3.2), (6, vi s3.1), (10, vb (decide (s3.1 < (aPlacement.length : Int))))], []⟩ ?_
  refine swp_cd h (fun h => ?_) fun h => ?_
  refine swp_skip ?_
  refine nx_n ?_
  refine swp_seq ?_
  refine swp_seqJ h (fun j5 => ⟨26, [(0, vl eLabel aList), (1, vl (eI .i64) aPlacement), (5, vi j5), (6, vi s3.1)], []⟩) (fun v6 h => ?_) (fun j5 h => ?_)
  refine swp_blk (a := v6) ?_
  refine sr ?_
  refine SRun.ck tbok 2 ⟨26, [(0, vl eLabel aList), (1, vl (eI .i64) aPlacement), (5, vi s3.2), (6, vi s3.1), (13, vl (eI .i64) aPlacement), (14, vi s3.1)], []⟩ ?_
  obtain ⟨x7, hx7, h⟩ := bind_some h
  refine SRun.ls (x_index (L := aPlacement) (f := (eI .i64)) (ti := ti24) (tj := ti2) (e := 2) (k := .i64) tbok rfl hx7) ?_
  refine ckn tbok 2 ⟨26, [(0, vl eLabel aList), (1, vl (eI .i64) aPlacement), (5, vi s3.2), (6, vi s3.1), (17, vb (decide (x7 < 4)))], []⟩ ?_
  refine swp_cd h (fun h => ?_) fun h => ?_
  refine swp_reg ?_
  refine SRun.ck tbok 3 ⟨26, [(0, vl eLabel aList), (1, vl (eI .i64) aPlacement), (6, vi s3.1), (18, vi s3.2), (19, vl eLabel aList), (20, vi s3.1)], []⟩ ?_
  obtain ⟨x8, hx8, h⟩ := bind_some h
  refine SRun.ls (x_index (L := aList) (f := eLabel) (ti := ti27) (tj := ti52) (e := 52) (k := .i64) tbok rfl hx8) ?_
  refine SRun.ck tbok 4 ⟨26, [(0, vl eLabel aList), (1, vl (eI .i64) aPlacement), (5, vi (w64 (s3.2 + x8.Priority))), (6, vi s3.1)], []⟩ ?_
  refine SRun.nil ?_
  obtain rfl := inj h
  exact q_bn (q_j (Le.sub0))
  refine swp_skip ?_
  obtain rfl := inj h
  exact q_bn (q_j (Le.sub0))
  refine swp_reg ?_
  refine SRun.ck tbok 3 ⟨26, [(0, vl eLabel aList), (1, vl (eI .i64) aPlacement), (5, vi j5), (6, vi (w64 (s3.1 + 1)))], []⟩ ?_
  refine SRun.nil ?_
  obtain rfl := inj h
  exact q_l (Le.sub0)
  refine swp_exit ?_
  obtain rfl := inj h
  exact nx_e (q_re (q_bh (q_j (Le.sub0))))
  refine srk tbok ⟨26, [(4, vi j1)], []⟩ ?_
  refine swp_ret ?_
  obtain rfl := inj h
  exact q_fr (f1 fv)
theorem ents48 : Ents Try.prog 48 := ents_of Try.func48 (by kernel_rfl) rfl
noncomputable def spec_l33Best_f : Nat → (List Label) → (List Int) → Option ((List Int))
  | 0, _, _ => none
  | fuel + 1, aList, aPlacement =>
  (bif ((aPlacement.length : Int) == (aList.length : Int)) then some aPlacement else (((forH (fun (i3 : Int) (_ : (List Int) × Int) => (decide (i3 ≤ 4))) (fun (i3 : Int) (s3 : (List Int) × Int) => ((spec_l33Fits aList aPlacement (aPlacement.length : Int) i3).bind fun x7 => (bif (!x7) then some (s3.1, s3.2) else ((spec_l01Own aPlacement).bind fun x8 => ((app' x8 ([i3] : List Int)).bind fun x9 => ((spec_l33Best_f fuel aList x9).bind fun x10 => ((spec_l33Score aList x10).bind fun x11 => (bif (decide (x11 > s3.2)) then some (x10, x11) else some (s3.1, s3.2))))))))) (fun (s3 : (List Int) × Int) => s3.1) 0 (([] : List Int), (-1)))).bind fun (j1 : (List Int)) => some j1))
noncomputable def spec_l33Best (aList : (List Label)) (aPlacement : (List Int)) : Option ((List Int)) := spec_l33Best_f 1000 aList aPlacement
theorem ents30 : Ents Try.prog 30 := ents_of Try.func30 (by kernel_rfl) rfl
theorem spec_l33Best_f_run : ∀ (fuel : Nat) (aList : (List Label)) (aPlacement : (List Int)) (r : (List Int)), spec_l33Best_f fuel aList aPlacement = some r → SCall Try.prog 30 [.v (vl eLabel aList), .v (vl (eI .i64) aPlacement)] ⟨[.v (vl (eI .i64) r)], [], true⟩ := by
  intro fuel
  induction fuel with
  | zero => intro aList aPlacement r h; cases h
  | succ fuel ih =>
  intro aList aPlacement r h
  refine scall_in Try.func30 rfl [(.tmp 4)] rfl (fun r => ⟨[.v (vl (eI .i64) r)], [], true⟩) (r := r) ?_
  unfold spec_l33Best_f at h
  refine srk tbok ⟨44, [(0, vl eLabel aList), (1, vl (eI .i64) aPlacement)], []⟩ ?_
  refine swp_seq ?_
  refine srk tbok ⟨44, [(0, vl eLabel aList), (1, vl (eI .i64) aPlacement), (14, vb ((aPlacement.length : Int) == (aList.length : Int)))], []⟩ ?_
  refine swp_cd h (fun h => ?_) fun h => ?_
  refine srk tbok ⟨44, [(4, vl (eI .i64) aPlacement)], []⟩ ?_
  refine swp_ret ?_
  obtain rfl := inj h
  exact nx_r (q_fr (f1 ft))
  refine swp_skip ?_
  refine nx_n ?_
  refine srk tbok ⟨44, [(0, vl eLabel aList), (1, vl (eI .i64) aPlacement), (5, .own 16)], [(16, oa 2 1 (eI .i64) ([] : List Int))]⟩ ?_
  refine srk tbok ⟨44, [(0, vl eLabel aList), (1, vl (eI .i64) aPlacement), (5, .own 16), (6, vi (-1))], [(16, oa 2 1 (eI .i64) ([] : List Int))]⟩ ?_
  refine swp_seq ?_
  refine srk tbok ⟨44, [(0, vl eLabel aList), (1, vl (eI .i64) aPlacement), (5, .own 16), (6, vi (-1)), (7, vi 0)], [(16, oa 2 1 (eI .i64) ([] : List Int))]⟩ ?_
  refine swp_seqJ h (fun j1 => ⟨44, [(5, vl (eI .i64) j1)], []⟩) (fun v2 h => ?_) (fun j1 h => ?_)
  refine swp_blk (a := v2) ?_
  refine swp_le (Le.frz' (d := 16) (e := 2) (m := 1) (n := ([] : List Int).length) (es := ([] : List Int).map (eI .i64)) (by kernel_rfl) (by kernel_rfl)) ?_
  refine swp_lpL (r := v2) (s := (0, ([] : List Int), (-1))) _ (fun s3 => ⟨44, [(0, vl eLabel aList), (1, vl (eI .i64) aPlacement), (5, vl (eI .i64) s3.2.1), (6, vi s3.2.2), (7, vi s3.1)], []⟩) _ (Le.sub0) h (fun s3 v4 h => ?_)
  refine swp_seq ?_
  refine srk tbok ⟨44, [(0, vl eLabel aList), (1, vl (eI .i64) aPlacement), (5, vl (eI .i64) s3.2.1), (6, vi s3.2.2), (7, vi s3.1), (18, vb (decide (s3.1 ≤ 4)))], []⟩ ?_
  refine swp_cd h (fun h => ?_) fun h => ?_
  refine swp_skip ?_
  refine nx_n ?_
  refine swp_seq ?_
  refine swp_seqJ h (fun j5 => ⟨44, [(0, vl eLabel aList), (1, vl (eI .i64) aPlacement), (5, vl (eI .i64) j5.1), (6, vi j5.2), (7, vi s3.1)], []⟩) (fun v6 h => ?_) (fun j5 h => ?_)
  refine swp_blk (a := v6) ?_
  refine swp_seq ?_
  refine sr ?_
  refine SRun.ck tbok 5 ⟨44, [(0, vl eLabel aList), (1, vl (eI .i64) aPlacement), (5, vl (eI .i64) s3.2.1), (6, vi s3.2.2), (7, vi s3.1), (21, vl eLabel aList), (22, vl (eI .i64) aPlacement), (24, vi (aPlacement.length : Int)), (25, vi s3.1)], []⟩ ?_
  obtain ⟨x7, hx7, h⟩ := bind_some h
  refine SRun.ls (xc ents38 (spec_l33Fits_run aList aPlacement (aPlacement.length : Int) s3.1 _ hx7)) ?_
  refine ckn tbok 1 ⟨44, [(0, vl eLabel aList), (1, vl (eI .i64) aPlacement), (5, vl (eI .i64) s3.2.1), (6, vi s3.2.2), (7, vi s3.1), (27, vb (!x7))], []⟩ ?_
  refine swp_cd h (fun h => ?_) fun h => ?_
  refine swp_exit ?_
  obtain rfl := inj h
  exact nx_e (q_bh (q_j (Le.sub0)))
  refine swp_skip ?_
  refine nx_n ?_
  refine sr ?_
  refine SRun.ck tbok 2 ⟨44, [(0, vl eLabel aList), (1, vl (eI .i64) aPlacement), (5, vl (eI .i64) s3.2.1), (6, vi s3.2.2), (7, vi s3.1), (28, vl eLabel aList), (29, vl (eI .i64) aPlacement)], []⟩ ?_
  obtain ⟨x8, hx8, h⟩ := bind_some h
  refine SRun.ls (xc ents56 (spec_l01Own_run aPlacement _ hx8)) ?_
  refine SRun.ck tbok 2 ⟨44, [(0, vl eLabel aList), (1, vl (eI .i64) aPlacement), (5, vl (eI .i64) s3.2.1), (6, vi s3.2.2), (7, vi s3.1), (28, vl eLabel aList), (30, .own 30), (32, .own 32)], [(30, oa 2 1 (eI .i64) x8), (32, oa 2 1 (eI .i64) ([s3.1] : List Int))]⟩ ?_
  obtain ⟨x9, hx9, h⟩ := bind_some h
  refine SRun.estep (x_append (f := (eI .i64)) (t := 24) (ti := ti24) (tj := ti2) (zs := [.int .i64 0]) (e := 2) (m := 1) (d := 30) (xv := .own 32) hx9 tbok rfl rfl rfl rfl (x_src_o (e := 2))) ?_
  refine SRun.le (Le.frz' (d := 33) (e := 2) (m := 1) (n := x9.length) (es := x9.map (eI .i64)) (by kernel_rfl) (by kernel_rfl)) ?_
  obtain ⟨x10, hx10, h⟩ := bind_some h
  refine SRun.ls (xc ents30 (ih aList x9 _ hx10)) ?_
  refine ckn tbok 1 ⟨44, [(0, vl eLabel aList), (1, vl (eI .i64) aPlacement), (5, vl (eI .i64) s3.2.1), (6, vi s3.2.2), (7, vi s3.1), (8, vl (eI .i64) x10)], []⟩ ?_
  refine sr ?_
  refine SRun.ck tbok 2 ⟨44, [(0, vl eLabel aList), (1, vl (eI .i64) aPlacement), (5, vl (eI .i64) s3.2.1), (6, vi s3.2.2), (7, vi s3.1), (8, vl (eI .i64) x10), (35, vl eLabel aList), (36, vl (eI .i64) x10)], []⟩ ?_
  obtain ⟨x11, hx11, h⟩ := bind_some h
  refine SRun.ls (xc ents48 (spec_l33Score_run aList x10 _ hx11)) ?_
  refine ckn tbok 1 ⟨44, [(0, vl eLabel aList), (1, vl (eI .i64) aPlacement), (5, vl (eI .i64) s3.2.1), (6, vi s3.2.2), (7, vi s3.1), (8, vl (eI .i64) x10), (9, vi x11)], []⟩ ?_
  refine srk tbok ⟨44, [(0, vl eLabel aList), (1, vl (eI .i64) aPlacement), (5, vl (eI .i64) s3.2.1), (6, vi s3.2.2), (7, vi s3.1), (8, vl (eI .i64) x10), (9, vi x11), (40, vb (decide (x11 > s3.2.2)))], []⟩ ?_
  refine swp_cd h (fun h => ?_) fun h => ?_
  refine srk tbok ⟨44, [(0, vl eLabel aList), (1, vl (eI .i64) aPlacement), (5, vl (eI .i64) x10), (7, vi s3.1), (9, vi x11)], []⟩ ?_
  refine swp_reg ?_
  refine SRun.ck tbok 2 ⟨44, [(0, vl eLabel aList), (1, vl (eI .i64) aPlacement), (5, vl (eI .i64) x10), (6, vi x11), (7, vi s3.1)], []⟩ ?_
  refine SRun.nil ?_
  obtain rfl := inj h
  exact q_bn (q_j (Le.sub0))
  refine swp_skip ?_
  obtain rfl := inj h
  exact q_bn (q_j (Le.sub0))
  refine swp_reg ?_
  refine SRun.ck tbok 3 ⟨44, [(0, vl eLabel aList), (1, vl (eI .i64) aPlacement), (5, vl (eI .i64) j5.1), (6, vi j5.2), (7, vi (w64 (s3.1 + 1)))], []⟩ ?_
  refine SRun.nil ?_
  obtain rfl := inj h
  exact q_l (Le.sub0)
  refine swp_exit ?_
  obtain rfl := inj h
  exact nx_e (q_re (q_bh (q_j (Le.sub0))))
  refine srk tbok ⟨44, [(4, vl (eI .i64) j1)], []⟩ ?_
  refine swp_ret ?_
  obtain rfl := inj h
  exact q_fr (f1 ft)
theorem spec_l33Best_run (aList : (List Label)) (aPlacement : (List Int)) (r : (List Int)) (h : spec_l33Best aList aPlacement = some r) : SCall Try.prog 30 [.v (vl eLabel aList), .v (vl (eI .i64) aPlacement)] ⟨[.v (vl (eI .i64) r)], [], true⟩ := spec_l33Best_f_run 1000 aList aPlacement r h
noncomputable def spec_BestPlacement (aList : (List Label)) : Option ((List Int) × Int) :=
  ((spec_AreLabels aList).bind fun x1 => (bif (!x1) then some (([] : List Int), 1) else ((spec_l33Best aList ([] : List Int)).bind fun x2 => some (x2, 0))))
theorem spec_BestPlacement_run (aList : (List Label)) (r : (List Int) × Int) (h : spec_BestPlacement aList = some r) : SCall Try.prog 7 [.v (vl eLabel aList)] ⟨[.v (vl (eI .i64) r.1), .v (vi r.2)], [], true⟩ := by
  refine scall_in Try.func7 rfl [(.tmp 2), (.tmp 3)] rfl (fun r => ⟨[.v (vl (eI .i64) r.1), .v (vi r.2)], [], true⟩) (r := r) ?_
  unfold spec_BestPlacement at h
  refine srk tbok ⟨10, [(0, vl eLabel aList)], []⟩ ?_
  refine swp_seq ?_
  refine sr ?_
  refine SRun.ck tbok 1 ⟨10, [(0, vl eLabel aList), (4, vl eLabel aList)], []⟩ ?_
  obtain ⟨x1, hx1, h⟩ := bind_some h
  refine SRun.ls (xc ents29 (spec_AreLabels_run aList _ hx1)) ?_
  refine ckn tbok 1 ⟨10, [(0, vl eLabel aList), (6, vb (!x1))], []⟩ ?_
  refine swp_cd h (fun h => ?_) fun h => ?_
  refine srk tbok ⟨10, [(2, .own 2), (3, vi 1)], [(2, oa 2 1 (eI .i64) ([] : List Int))]⟩ ?_
  refine swp_le (Le.frz' (d := 2) (e := 2) (m := 1) (n := ([] : List Int).length) (es := ([] : List Int).map (eI .i64)) (by kernel_rfl) (by kernel_rfl)) ?_
  refine swp_ret ?_
  obtain rfl := inj h
  exact nx_r (q_fr (f2 ft ft))
  refine swp_skip ?_
  refine nx_n ?_
  refine sr ?_
  refine SRun.ck tbok 2 ⟨10, [(7, vl eLabel aList), (8, .own 8)], [(8, oa 2 1 (eI .i64) ([] : List Int))]⟩ ?_
  refine SRun.le (Le.frz' (d := 8) (e := 2) (m := 1) (n := ([] : List Int).length) (es := ([] : List Int).map (eI .i64)) (by kernel_rfl) (by kernel_rfl)) ?_
  obtain ⟨x2, hx2, h⟩ := bind_some h
  refine SRun.ls (xc ents30 (spec_l33Best_run aList ([] : List Int) _ hx2)) ?_
  refine ckn tbok 2 ⟨10, [(2, vl (eI .i64) x2), (3, vi 0)], []⟩ ?_
  refine swp_ret ?_
  obtain rfl := inj h
  exact q_fr (f2 ft ft)
theorem ents7 : Ents Try.prog 7 := ents_of Try.func7 (by kernel_rfl) rfl
end Go.Proofs.Ytlhllbiikideeaa.Sh
