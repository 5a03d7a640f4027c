/- Typed functions and the calls that do what they say. -/
import Derived.Test.YtlhllbiikideeaaSB
import Derived.Test.YtlhllbiikideeaaKR
namespace Go.Proofs.Ytlhllbiikideeaa.Sh
open Go.RowKit
structure Point where
  X : Int
  Y : Int
def ePoint (x : Point) : List Tr := [.int .i64 x.X, .int .i64 x.Y]
theorem ePoint_flat (x : Point) : ∀ t ∈ ePoint x, t.flat = true := by simp [ePoint, Tr.flat]
structure Label where
  At : Point
  Length : Int
  Priority : Int
def eLabel (x : Label) : List Tr := [.int .i64 x.At.X, .int .i64 x.At.Y, .int .i64 x.Length, .int .i64 x.Priority]
theorem eLabel_flat (x : Label) : ∀ t ∈ eLabel x, t.flat = true := by simp [eLabel, Tr.flat]
def ti2 : TI := ⟨1, 8, .int .i64, [.int .i64 0]⟩
def ti3 : TI := ⟨1, 8, .int .i64, [.int .i64 0]⟩
def ti4 : TI := ⟨1, 1, .bool, [.bool false]⟩
def ti22 : TI := ⟨1, 24, .slice 56, [.sl ([] : List Label).length (([] : List Label).map eLabel)]⟩
def ti24 : TI := ⟨1, 24, .slice 2, [.sl ([] : List Int).length (([] : List Int).map (eI .i64))]⟩
def ti27 : TI := ⟨1, 24, .slice 52, [.sl ([] : List Label).length (([] : List Label).map eLabel)]⟩
def ti50 : TI := ⟨2, 16, .struct [(0, 2), (1, 2)], [.int .i64 0, .int .i64 0]⟩
def ti52 : TI := ⟨4, 32, .struct [(0, 50), (2, 2), (3, 2)], [.int .i64 0, .int .i64 0, .int .i64 0, .int .i64 0]⟩
def ti54 : TI := ⟨2, 16, .struct [(0, 2), (1, 2)], [.int .i64 0, .int .i64 0]⟩
def ti56 : TI := ⟨4, 32, .struct [(0, 54), (2, 2), (3, 2)], [.int .i64 0, .int .i64 0, .int .i64 0, .int .i64 0]⟩
def ti64 : TI := ⟨1, 24, .slice 3, [.sl ([] : List Int).length (([] : List Int).map (eI .i64))]⟩
def ti91 : TI := ⟨1, 24, .slice 50, [.sl ([] : List Point).length (([] : List Point).map ePoint)]⟩
def tbl : Tb := [(2, ti2), (3, ti3), (4, ti4), (22, ti22), (24, ti24), (27, ti27), (50, ti50), (52, ti52), (54, ti54), (56, ti56), (64, ti64), (91, ti91)]
theorem tbok : TbOk Try.prog tbl := TbOk.cons ⟨by kernel_rfl, show Try.prog.underlying 2 = some (.int .i64) from by kernel_rfl⟩ (TbOk.cons ⟨by kernel_rfl, show Try.prog.underlying 3 = some (.int .i64) from by kernel_rfl⟩ (TbOk.cons ⟨by kernel_rfl, show Try.prog.underlying 4 = some (.bool) from by kernel_rfl⟩ (TbOk.cons ⟨by kernel_rfl, show Try.prog.underlying 22 = some (.slice 56) from by kernel_rfl⟩ (TbOk.cons ⟨by kernel_rfl, show Try.prog.underlying 24 = some (.slice 2) from by kernel_rfl⟩ (TbOk.cons ⟨by kernel_rfl, show Try.prog.underlying 27 = some (.slice 52) from by kernel_rfl⟩ (TbOk.cons ⟨by kernel_rfl, show structOf Try.prog 50 = some [(0, 2), (1, 2)] from by kernel_rfl⟩ (TbOk.cons ⟨by kernel_rfl, show structOf Try.prog 52 = some [(0, 50), (2, 2), (3, 2)] from by kernel_rfl⟩ (TbOk.cons ⟨by kernel_rfl, show structOf Try.prog 54 = some [(0, 2), (1, 2)] from by kernel_rfl⟩ (TbOk.cons ⟨by kernel_rfl, show structOf Try.prog 56 = some [(0, 54), (2, 2), (3, 2)] from by kernel_rfl⟩ (TbOk.cons ⟨by kernel_rfl, show Try.prog.underlying 64 = some (.slice 3) from by kernel_rfl⟩ (TbOk.cons ⟨by kernel_rfl, show Try.prog.underlying 91 = some (.slice 50) from by kernel_rfl⟩ (TbOk.nil _))))))))))))
theorem mixed : Try.prog.follows .mixedOrders = true := by kernel_rfl
noncomputable def laws_szLabelS (aA : (List Label)) (aLeft : Int) : Option (Int) :=
  (bif (decide ((w64 (aLeft - (aA.length : Int))) < 0)) then some (-1) else some (w64 (aLeft - (aA.length : Int))))
set_option maxRecDepth 100000 in
set_option maxHeartbeats 4000000 in
theorem laws_szLabelS_run (aA : (List Label)) (aLeft : Int) (r : Int) (h : laws_szLabelS aA aLeft = some r) : SCall Try.prog 6 [.v (vl eLabel aA), .v (vi aLeft)] ⟨[.v (vi r)], [], false⟩ := by
  refine scall_in Try.func6 rfl [(.tmp 4)] rfl (fun r => ⟨[.v (vi r)], [], false⟩) (r := r) ?_
  unfold laws_szLabelS at h
  refine swp_seq ?_
  refine swp_reg ?_
  refine SRun.ck tbok 1 ⟨12, [(0, vl eLabel aA), (1, vi aLeft)], []⟩ ?_
  refine SRun.nil ?_
  refine nx_n ?_
  refine swp_seq ?_
  refine swp_reg ?_
  refine SRun.ck tbok 5 ⟨12, [(1, vi (w64 (aLeft - (aA.length : Int))))], []⟩ ?_
  refine SRun.nil ?_
  refine nx_n ?_
  refine swp_seq ?_
  refine swp_seq ?_
  refine swp_reg ?_
  refine SRun.ck tbok 2 ⟨12, [(1, vi (w64 (aLeft - (aA.length : Int)))), (10, vb (decide ((w64 (aLeft - (aA.length : Int))) < 0)))], []⟩ ?_
  refine SRun.nil ?_
  refine nx_n ?_
  refine swp_cond (b := (decide ((w64 (aLeft - (aA.length : Int))) < 0))) (by kernel_rfl) (fun hb => ?_) (fun hb => ?_)
  replace h := cond_t hb h
  refine swp_seq ?_
  refine swp_reg ?_
  refine SRun.ck tbok 1 ⟨12, [(4, vi (-1))], []⟩ ?_
  refine SRun.nil ?_
  refine nx_n ?_
  refine swp_ret ?_
  replace h := Option.some.inj h
  subst h
  exact nx_r (q_fr (fin1 (by kernel_rfl) (finV rfl SV.flat_of (holds_t (by kernel_rfl)))))
  replace h := cond_f hb h
  refine swp_skip ?_
  refine nx_n ?_
  refine swp_seq ?_
  refine swp_reg ?_
  refine SRun.ck tbok 2 ⟨12, [(4, vi (w64 (aLeft - (aA.length : Int))))], []⟩ ?_
  refine SRun.nil ?_
  refine nx_n ?_
  refine swp_ret ?_
  replace h := Option.some.inj h
  subst h
  exact q_fr (fin1 (by kernel_rfl) (finV rfl SV.flat_of (holds_t (by kernel_rfl))))
theorem ents6 : Ents Try.prog 6 := ents_of Try.func6 (by kernel_rfl) rfl
noncomputable def laws_toPoint (aA : Point) : Option (Point) :=
  some aA
set_option maxRecDepth 100000 in
set_option maxHeartbeats 4000000 in
theorem laws_toPoint_run (aA : Point) (r : Point) (h : laws_toPoint aA = some r) : SCall Try.prog 57 [.v (.agg [vi aA.X, vi aA.Y])] ⟨[.v (.agg [vi r.X, vi r.Y])], [], false⟩ := by
  refine scall_in Try.func57 rfl [(.cell 2 50)] rfl (fun r => ⟨[.v (.agg [vi r.X, vi r.Y])], [], false⟩) (r := r) ?_
  unfold laws_toPoint at h
  refine swp_seq ?_
  refine swp_reg ?_
  refine SRun.ck tbok 2 ⟨11, [(1, .ref 1 0), (2, .ref 2 0)], [(1, .box [vi aA.X, vi aA.Y]), (2, .box [vi 0, vi 0])]⟩ ?_
  refine SRun.nil ?_
  refine nx_n ?_
  refine swp_seq ?_
  refine swp_reg ?_
  refine SRun.ck tbok 1 ⟨11, [(1, .ref 1 0), (2, .ref 2 0), (3, .ref 3 0)], [(1, .box [vi aA.X, vi aA.Y]), (2, .box [vi 0, vi 0]), (3, .box [vi 0, vi 0])]⟩ ?_
  refine SRun.nil ?_
  refine nx_n ?_
  refine swp_seq ?_
  refine swp_reg ?_
  refine SRun.ck tbok 3 ⟨11, [(1, .ref 1 0), (2, .ref 2 0), (3, .ref 3 0), (5, vi aA.X), (6, .ref 3 0)], [(1, .box [vi aA.X, vi aA.Y]), (2, .box [vi 0, vi 0]), (3, .box [vi 0, vi 0])]⟩ ?_
  refine SRun.estep (x_estep_store (d := 3) (k := 0) (ti := ti2) (cs := [vi 0, vi 0]) (vs := [vi aA.X]) (v := vi aA.X) tbok rfl rfl) ?_
  refine SRun.nil ?_
  refine nx_n ?_
  refine swp_seq ?_
  refine swp_reg ?_
  refine SRun.ck tbok 3 ⟨11, [(2, .ref 2 0), (3, .ref 3 0), (8, vi aA.Y), (9, .ref 3 1)], [(2, .box [vi 0, vi 0]), (3, .box [vi aA.X, vi 0])]⟩ ?_
  refine SRun.estep (x_estep_store (d := 3) (k := 1) (ti := ti2) (cs := [vi aA.X, vi 0]) (vs := [vi aA.Y]) (v := vi aA.Y) tbok rfl rfl) ?_
  refine SRun.nil ?_
  refine nx_n ?_
  refine swp_seq ?_
  refine swp_reg ?_
  refine SRun.ck tbok 1 ⟨11, [(2, .ref 2 0), (10, .agg [vi aA.X, vi aA.Y])], [(2, .box [vi 0, vi 0])]⟩ ?_
  refine SRun.estep (x_estep_store (d := 2) (k := 0) (ti := ti50) (cs := [vi 0, vi 0]) (vs := [vi aA.X, vi aA.Y]) (v := .agg [vi aA.X, vi aA.Y]) tbok rfl rfl) ?_
  refine SRun.nil ?_
  refine nx_n ?_
  refine swp_ret ?_
  replace h := Option.some.inj h
  subst h
  exact q_fr (fin1 (by kernel_rfl) (finV rfl SV.flat_of (holds_c tbok (d := 2) (cs := [vi aA.X, vi aA.Y]) (ti := ti50) (by kernel_rfl) (by kernel_rfl) (by kernel_rfl) (by kernel_rfl))))
theorem ents57 : Ents Try.prog 57 := ents_of Try.func57 (by kernel_rfl) rfl
noncomputable def laws_toLabel (aA : Label) : Option (Label) :=
  ((laws_toPoint aA.At).bind fun x1 => some (Label.mk x1 aA.Length aA.Priority))
set_option maxRecDepth 100000 in
set_option maxHeartbeats 4000000 in
theorem laws_toLabel_run (aA : Label) (r : Label) (h : laws_toLabel aA = some r) : SCall Try.prog 31 [.v (.agg [vi aA.At.X, vi aA.At.Y, vi aA.Length, vi aA.Priority])] ⟨[.v (.agg [vi r.At.X, vi r.At.Y, vi r.Length, vi r.Priority])], [], false⟩ := by
  refine scall_in Try.func31 rfl [(.cell 2 52)] rfl (fun r => ⟨[.v (.agg [vi r.At.X, vi r.At.Y, vi r.Length, vi r.Priority])], [], false⟩) (r := r) ?_
  unfold laws_toLabel at h
  refine swp_seq ?_
  refine swp_reg ?_
  refine SRun.ck tbok 2 ⟨15, [(1, .ref 1 0), (2, .ref 2 0)], [(1, .box [vi aA.At.X, vi aA.At.Y, vi aA.Length, vi aA.Priority]), (2, .box [vi 0, vi 0, vi 0, vi 0])]⟩ ?_
  refine SRun.nil ?_
  refine nx_n ?_
  refine swp_seq ?_
  refine swp_reg ?_
  refine SRun.ck tbok 1 ⟨15, [(1, .ref 1 0), (2, .ref 2 0), (3, .ref 3 0)], [(1, .box [vi aA.At.X, vi aA.At.Y, vi aA.Length, vi aA.Priority]), (2, .box [vi 0, vi 0, vi 0, vi 0]), (3, .box [vi 0, vi 0, vi 0, vi 0])]⟩ ?_
  refine SRun.nil ?_
  refine nx_n ?_
  refine swp_seq ?_
  refine swp_reg ?_
  refine SRun.ck tbok 2 ⟨15, [(1, .ref 1 0), (2, .ref 2 0), (3, .ref 3 0), (5, .agg [vi aA.At.X, vi aA.At.Y])], [(1, .box [vi aA.At.X, vi aA.At.Y, vi aA.Length, vi aA.Priority]), (2, .box [vi 0, vi 0, vi 0, vi 0]), (3, .box [vi 0, vi 0, vi 0, vi 0])]⟩ ?_
  obtain ⟨x1, hx1, h⟩ := bind_some h
  refine SRun.ls (x_lstep_call (f := 57) (caps := []) (xs := [.agg [vi aA.At.X, vi aA.At.Y]]) (ys := [.agg [vi aA.At.X, vi aA.At.Y]]) (res := ⟨[.v (.agg [vi x1.X, vi x1.Y])], [], false⟩) (x := .agg [vi x1.X, vi x1.Y]) (y := none) rfl ents57 (laws_toPoint_run aA.At _ hx1) rfl (by intro hc; cases hc)) ?_
  refine SRun.ck tbok 1 ⟨15, [(1, .ref 1 0), (2, .ref 2 0), (3, .ref 3 0), (6, .agg [vi x1.X, vi x1.Y]), (7, .ref 3 0)], [(1, .box [vi aA.At.X, vi aA.At.Y, vi aA.Length, vi aA.Priority]), (2, .box [vi 0, vi 0, vi 0, vi 0]), (3, .box [vi 0, vi 0, vi 0, vi 0])]⟩ ?_
  refine SRun.estep (x_estep_store (d := 3) (k := 0) (ti := ti50) (cs := [vi 0, vi 0, vi 0, vi 0]) (vs := [vi x1.X, vi x1.Y]) (v := .agg [vi x1.X, vi x1.Y]) tbok rfl rfl) ?_
  refine SRun.nil ?_
  refine nx_n ?_
  refine swp_seq ?_
  refine swp_reg ?_
  refine SRun.ck tbok 3 ⟨15, [(1, .ref 1 0), (2, .ref 2 0), (3, .ref 3 0), (9, vi aA.Length), (10, .ref 3 2)], [(1, .box [vi aA.At.X, vi aA.At.Y, vi aA.Length, vi aA.Priority]), (2, .box [vi 0, vi 0, vi 0, vi 0]), (3, .box [vi x1.X, vi x1.Y, vi 0, vi 0])]⟩ ?_
  refine SRun.estep (x_estep_store (d := 3) (k := 2) (ti := ti2) (cs := [vi x1.X, vi x1.Y, vi 0, vi 0]) (vs := [vi aA.Length]) (v := vi aA.Length) tbok rfl rfl) ?_
  refine SRun.nil ?_
  refine nx_n ?_
  refine swp_seq ?_
  refine swp_reg ?_
  refine SRun.ck tbok 3 ⟨15, [(2, .ref 2 0), (3, .ref 3 0), (12, vi aA.Priority), (13, .ref 3 3)], [(2, .box [vi 0, vi 0, vi 0, vi 0]), (3, .box [vi x1.X, vi x1.Y, vi aA.Length, vi 0])]⟩ ?_
  refine SRun.estep (x_estep_store (d := 3) (k := 3) (ti := ti2) (cs := [vi x1.X, vi x1.Y, vi aA.Length, vi 0]) (vs := [vi aA.Priority]) (v := vi aA.Priority) tbok rfl rfl) ?_
  refine SRun.nil ?_
  refine nx_n ?_
  refine swp_seq ?_
  refine swp_reg ?_
  refine SRun.ck tbok 1 ⟨15, [(2, .ref 2 0), (14, .agg [vi x1.X, vi x1.Y, vi aA.Length, vi aA.Priority])], [(2, .box [vi 0, vi 0, vi 0, vi 0])]⟩ ?_
  refine SRun.estep (x_estep_store (d := 2) (k := 0) (ti := ti52) (cs := [vi 0, vi 0, vi 0, vi 0]) (vs := [vi x1.X, vi x1.Y, vi aA.Length, vi aA.Priority]) (v := .agg [vi x1.X, vi x1.Y, vi aA.Length, vi aA.Priority]) tbok rfl rfl) ?_
  refine SRun.nil ?_
  refine nx_n ?_
  refine swp_ret ?_
  replace h := Option.some.inj h
  subst h
  exact q_fr (fin1 (by kernel_rfl) (finV rfl SV.flat_of (holds_c tbok (d := 2) (cs := [vi x1.X, vi x1.Y, vi aA.Length, vi aA.Priority]) (ti := ti52) (by kernel_rfl) (by kernel_rfl) (by kernel_rfl) (by kernel_rfl))))
theorem ents31 : Ents Try.prog 31 := ents_of Try.func31 (by kernel_rfl) rfl
noncomputable def laws_toLabelS (aA : (List Label)) : Option ((List Label)) :=
  ((make' (Label.mk (Point.mk 0 0) 0 0) (aA.length : Int)).bind fun x1 => (((forS (aA.length : Int) (fun (i4 : Int) (s4 : (List Label)) => ((at' aA i4).bind fun x8 => ((laws_toLabel x8).bind fun x9 => ((at' s4 i4).bind fun _ => some (List.set s4 (Int.toNat i4) x9))))) (fun (s4 : (List Label)) => s4) 0 x1)).bind fun (j2 : (List Label)) => some j2))
set_option maxRecDepth 100000 in
set_option maxHeartbeats 4000000 in
theorem laws_toLabelS_run (aA : (List Label)) (r : (List Label)) (h : laws_toLabelS aA = some r) : SCall Try.prog 8 [.v (vl eLabel aA)] ⟨[.own 52 4 r.length (r.map eLabel)], [], false⟩ := by
  refine scall_in Try.func8 rfl [(.tmp 2)] rfl (fun r => ⟨[.own 52 4 r.length (r.map eLabel)], [], false⟩) (r := r) ?_
  unfold laws_toLabelS at h
  refine swp_seq ?_
  refine swp_reg ?_
  refine SRun.ck tbok 1 ⟨23, [(0, vl eLabel aA)], []⟩ ?_
  refine SRun.nil ?_
  refine nx_n ?_
  refine swp_seq ?_
  refine swp_reg ?_
  refine SRun.ck tbok 2 ⟨23, [(0, vl eLabel aA), (6, vi (aA.length : Int))], []⟩ ?_
  obtain ⟨x1, hx1, h⟩ := bind_some h
  refine SRun.ls (x_make (z := (Label.mk (Point.mk 0 0) 0 0)) (f := eLabel) (ti := ti27) (tj := ti52) (e := 52) (m := 4) (k := .i64) (k' := .i64) hx1 tbok rfl rfl (zs := [.int .i64 0, .int .i64 0, .int .i64 0, .int .i64 0])) ?_
  refine SRun.ck tbok 1 ⟨23, [(0, vl eLabel aA), (3, .own 7)], [(7, .arr 52 4 x1.length (x1.map eLabel))]⟩ ?_
  refine SRun.nil ?_
  refine nx_n ?_
  refine swp_seq ?_
  refine swp_seq ?_
  refine swp_reg ?_
  refine SRun.ck tbok 1 ⟨23, [(0, vl eLabel aA), (3, .own 7), (4, vi 0)], [(7, .arr 52 4 x1.length (x1.map eLabel))]⟩ ?_
  refine SRun.nil ?_
  refine nx_n ?_
  refine swp_seqJ h (fun j2 => ⟨23, [(3, .own 3)], [(3, .arr 52 4 j2.length (j2.map eLabel))]⟩) (fun v3 h => ?_) (fun j2 h => ?_)
  refine swp_blk (a := v3) ?_
  refine swp_lpL (r := v3) (s := (0, x1)) _ (fun s4 => ⟨23, [(0, vl eLabel aA), (3, .own 3), (4, vi s4.1)], [(3, .arr 52 4 s4.2.length (s4.2.map eLabel))]⟩) _ ((Le.sub' ([(0, vl eLabel aA), (3, .own 7), (4, vi 0)] : List (Nat × SV)) ([(7, .arr 52 4 x1.length (x1.map eLabel))] : List (Nat × SO)) (by kernel_rfl) (by kernel_rfl)).trans ((Le.ren' (d := 7) (e := 3) (by kernel_rfl) (by kernel_rfl) (by kernel_rfl)).trans (Le.sub0))) h (fun s4 v5 h => ?_)
  refine swp_seq ?_
  refine swp_seq ?_
  refine swp_reg ?_
  refine SRun.ck tbok 4 ⟨23, [(0, vl eLabel aA), (3, .own 3), (4, vi s4.1), (11, vb (decide (s4.1 < (aA.length : Int))))], [(3, .arr 52 4 s4.2.length (s4.2.map eLabel))]⟩ ?_
  refine SRun.nil ?_
  refine nx_n ?_
  refine swp_cond (b := (decide (s4.1 < (aA.length : Int)))) (by kernel_rfl) (fun hb => ?_) (fun hb => ?_)
  replace h := cond_t hb h
  refine swp_skip ?_
  refine nx_n ?_
  refine swp_seq ?_
  refine swp_seqJ h (fun j6 => ⟨23, [(0, vl eLabel aA), (3, .own 3), (4, vi s4.1)], [(3, .arr 52 4 j6.length (j6.map eLabel))]⟩) (fun v7 h => ?_) (fun j6 h => ?_)
  refine swp_blk (a := v7) ?_
  refine swp_reg ?_
  refine SRun.ck tbok 4 ⟨23, [(0, vl eLabel aA), (3, .own 3), (4, vi s4.1), (14, .own 3), (15, vi s4.1), (16, vl eLabel aA), (17, vi s4.1)], [(3, .arr 52 4 s4.2.length (s4.2.map eLabel))]⟩ ?_
  obtain ⟨x8, hx8, h⟩ := bind_some h
  refine SRun.ls (x_index (L := aA) (f := eLabel) (ti := ti22) (tj := ti56) (e := 56) (k := .i64) tbok rfl hx8) ?_
  refine SRun.ck tbok 1 ⟨23, [(0, vl eLabel aA), (3, .own 3), (4, vi s4.1), (14, .own 3), (15, vi s4.1), (19, .agg [vi x8.At.X, vi x8.At.Y, vi x8.Length, vi x8.Priority])], [(3, .arr 52 4 s4.2.length (s4.2.map eLabel))]⟩ ?_
  obtain ⟨x9, hx9, h⟩ := bind_some h
  refine SRun.ls (x_lstep_call (f := 31) (caps := []) (xs := [.agg [vi x8.At.X, vi x8.At.Y, vi x8.Length, vi x8.Priority]]) (ys := [.agg [vi x8.At.X, vi x8.At.Y, vi x8.Length, vi x8.Priority]]) (res := ⟨[.v (.agg [vi x9.At.X, vi x9.At.Y, vi x9.Length, vi x9.Priority])], [], false⟩) (x := .agg [vi x9.At.X, vi x9.At.Y, vi x9.Length, vi x9.Priority]) (y := none) rfl ents31 (laws_toLabel_run x8 _ hx9) rfl (by intro hc; cases hc)) ?_
  obtain ⟨x10, hx10, h⟩ := bind_some h
  refine SRun.ls (x_index_own (d := 3) (L := s4.2) (f := eLabel) (ti := ti27) (tj := ti52) (e := 52) (e' := 52) (m := 4) (k := .i64) tbok rfl hx10) ?_
  refine SRun.estep (x_store_own (d := 3) (m := 4) (j := 0) (L := s4.2) (f := eLabel) (x := x9) (z := x10) (ti := ti52) (e := 52) (ts := [.int .i64 x9.At.X, .int .i64 x9.At.Y, .int .i64 x9.Length, .int .i64 x9.Priority]) (vs := [vi x9.At.X, vi x9.At.Y, vi x9.Length, vi x9.Priority]) (v := .agg [vi x9.At.X, vi x9.At.Y, vi x9.Length, vi x9.Priority]) tbok rfl rfl hx10) ?_
  refine SRun.nil ?_
  replace h := Option.some.inj h
  subst h
  exact q_bn (q_j (Le.sub0))
  refine swp_reg ?_
  refine SRun.ck tbok 3 ⟨23, [(0, vl eLabel aA), (3, .own 3), (4, vi (w64 (s4.1 + 1)))], [(3, .arr 52 4 j6.length (j6.map eLabel))]⟩ ?_
  refine SRun.nil ?_
  replace h := Option.some.inj h
  subst h
  exact q_l (Le.sub0)
  replace h := cond_f hb h
  refine swp_exit ?_
  replace h := Option.some.inj h
  subst h
  exact nx_e (q_re (q_bh (q_j (Le.sub0))))
  refine swp_seq ?_
  refine swp_reg ?_
  refine SRun.ck tbok 2 ⟨23, [(2, .own 3)], [(3, .arr 52 4 j2.length (j2.map eLabel))]⟩ ?_
  refine SRun.nil ?_
  refine nx_n ?_
  refine swp_ret ?_
  replace h := Option.some.inj h
  subst h
  exact q_fr (fin1 (by kernel_rfl) (finO (d := 3) (holds_t (by kernel_rfl)) (by kernel_rfl) (flat_map eLabel_flat _) (by kernel_rfl)))
theorem ents8 : Ents Try.prog 8 := ents_of Try.func8 (by kernel_rfl) rfl
noncomputable def spec_l01In (aN : Int) (aLow : Int) (aHigh : Int) : Option (Bool) :=
  some ((decide (aN ≥ aLow)) && (decide (aN ≤ aHigh)))
set_option maxRecDepth 100000 in
set_option maxHeartbeats 4000000 in
theorem spec_l01In_run (aN : Int) (aLow : Int) (aHigh : Int) (r : Bool) (h : spec_l01In aN aLow aHigh = some r) : SCall Try.prog 55 [.v (vi aN), .v (vi aLow), .v (vi aHigh)] ⟨[.v (vb r)], [], false⟩ := by
  refine scall_in Try.func55 rfl [(.tmp 6)] rfl (fun r => ⟨[.v (vb r)], [], false⟩) (r := r) ?_
  unfold spec_l01In at h
  refine swp_seq ?_
  refine swp_reg ?_
  refine SRun.ck tbok 1 ⟨15, [(0, vi aN), (1, vi aLow), (2, vi aHigh)], []⟩ ?_
  refine SRun.nil ?_
  refine nx_n ?_
  refine swp_seq ?_
  refine swp_regP ⟨15, [(6, vb ((decide (aN ≥ aLow)) && (decide (aN ≤ aHigh))))], []⟩ ?_ ?_
  refine SRun.ck tbok 4 ⟨15, [(0, vi aN), (2, vi aHigh), (10, vb (decide (aN ≥ aLow)))], []⟩ ?_
  generalize (decide (aN ≥ aLow)) = bb
  cases bb
  refine SRun.ck tbok 5 ⟨15, [(6, vb false)], []⟩ ?_
  exact SRun.nil (Le.sub0)
  refine SRun.ck tbok 5 ⟨15, [(6, vb (decide (aN ≤ aHigh)))], []⟩ ?_
  exact SRun.nil (Le.sub0)
  refine swp_ret ?_
  replace h := Option.some.inj h
  subst h
  exact q_fr (fin1 (by kernel_rfl) (finV rfl SV.flat_of (holds_t (by kernel_rfl))))
theorem ents55 : Ents Try.prog 55 := ents_of Try.func55 (by kernel_rfl) rfl
noncomputable def spec_IsPoint (aP : Point) : Option (Bool) :=
  ((((spec_l01In aP.X (-1000) 1000).bind fun x1 => (bif x1 then ((spec_l01In aP.Y (-1000) 1000).bind fun x2 => some x2) else some false))).bind fun (j3 : Bool) => some j3)
set_option maxRecDepth 100000 in
set_option maxHeartbeats 4000000 in
theorem spec_IsPoint_run (aP : Point) (r : Bool) (h : spec_IsPoint aP = some r) : SCall Try.prog 54 [.v (.agg [vi aP.X, vi aP.Y])] ⟨[.v (vb r)], [], false⟩ := by
  refine scall_in Try.func54 rfl [(.tmp 2)] rfl (fun r => ⟨[.v (vb r)], [], false⟩) (r := r) ?_
  unfold spec_IsPoint at h
  refine swp_seq ?_
  refine swp_reg ?_
  refine SRun.ck tbok 2 ⟨11, [(1, .ref 1 0)], [(1, .box [vi aP.X, vi aP.Y])]⟩ ?_
  refine SRun.nil ?_
  refine nx_n ?_
  refine swp_seq ?_
  refine swp_regJ h (fun j3 => ⟨11, [(2, vb j3)], []⟩) (fun v4 h => ?_) (fun j3 h => ?_)
  refine SRun.ck tbok 2 ⟨11, [(1, .ref 1 0), (4, vi aP.X)], [(1, .box [vi aP.X, vi aP.Y])]⟩ ?_
  obtain ⟨x1, hx1, h⟩ := bind_some h
  refine SRun.ls (x_lstep_call (f := 55) (caps := []) (xs := [vi aP.X, vi (-1000), vi 1000]) (ys := [vi aP.X, vi (-1000), vi 1000]) (res := ⟨[.v (vb x1)], [], false⟩) (x := vb x1) (y := none) rfl ents55 (spec_l01In_run aP.X (-1000) 1000 _ hx1) rfl (by intro hc; cases hc)) ?_
  refine SRun.ck tbok 1 ⟨11, [(1, .ref 1 0), (6, vb x1)], [(1, .box [vi aP.X, vi aP.Y])]⟩ ?_
  refine SRun.cut [(6, fun b => b)] (b := x1) (by kernel_rfl) (fun hb => ?_) (fun hb => ?_)
  replace h := cond_t hb h
  refine SRun.ck tbok 2 ⟨11, [(6, vb true), (8, vi aP.Y)], []⟩ ?_
  obtain ⟨x2, hx2, h⟩ := bind_some h
  refine SRun.ls (x_lstep_call (f := 55) (caps := []) (xs := [vi aP.Y, vi (-1000), vi 1000]) (ys := [vi aP.Y, vi (-1000), vi 1000]) (res := ⟨[.v (vb x2)], [], false⟩) (x := vb x2) (y := none) rfl ents55 (spec_l01In_run aP.Y (-1000) 1000 _ hx2) rfl (by intro hc; cases hc)) ?_
  refine SRun.ck tbok 2 ⟨11, [(2, vb x2)], []⟩ ?_
  refine SRun.nil ?_
  replace h := Option.some.inj h
  subst h
  exact Le.sub0
  replace h := cond_f hb h
  refine SRun.ck tbok 5 ⟨11, [(2, vb false)], []⟩ ?_
  refine SRun.nil ?_
  replace h := Option.some.inj h
  subst h
  exact Le.sub0
  refine swp_ret ?_
  replace h := Option.some.inj h
  subst h
  exact q_fr (fin1 (by kernel_rfl) (finV rfl SV.flat_of (holds_t (by kernel_rfl))))
theorem ents54 : Ents Try.prog 54 := ents_of Try.func54 (by kernel_rfl) rfl
noncomputable def spec_AreLabels (aList : (List Label)) : Option (Bool) :=
  (((forN (aList.length : Int) (fun (i3 : Int) (_ : Unit) => ((at' aList i3).bind fun x7 => ((((spec_IsPoint x7.At).bind fun x8 => (bif (!x8) then some true else ((spec_l01In x7.Length 1 20).bind fun x9 => (bif (!x9) then some true else ((spec_l01In x7.Priority 1 9).bind fun x10 => some (!x10))))))).bind fun (j11 : Bool) => (bif j11 then some (.inr (.inr false)) else (forN i3 (fun (i13 : Int) (_ : Unit) => ((at' aList i13).bind fun x17 => (bif ((x17.At.X == x7.At.X) && (x17.At.Y == x7.At.Y)) then some (.inr (.inr (.inr false))) else some (.inl ())))) (fun (_ : Unit) => .inl ()) 0 ()))))) (fun (_ : Unit) => .inl ()) 0 ())).bind (Sum.elim (fun (_ : Unit) => some (decide ((aList.length : Int) ≤ 6))) some))
set_option maxRecDepth 100000 in
set_option maxHeartbeats 4000000 in
theorem spec_AreLabels_run (aList : (List Label)) (r : Bool) (h : spec_AreLabels aList = some r) : SCall Try.prog 29 [.v (vl eLabel aList)] ⟨[.v (vb r)], [], false⟩ := by
  refine scall_in Try.func29 rfl [(.tmp 2)] rfl (fun r => ⟨[.v (vb r)], [], false⟩) (r := r) ?_
  unfold spec_AreLabels at h
  refine swp_seq ?_
  refine swp_reg ?_
  refine SRun.ck tbok 1 ⟨48, [(0, vl eLabel aList)], []⟩ ?_
  refine SRun.nil ?_
  refine nx_n ?_
  refine swp_seq ?_
  refine swp_seq ?_
  refine swp_reg ?_
  refine SRun.ck tbok 1 ⟨48, [(0, vl eLabel aList), (3, vi 0)], []⟩ ?_
  refine SRun.nil ?_
  refine nx_n ?_
  refine swp_seqE (r := r) h (fun j1 => ⟨48, [(0, vl eLabel aList)], []⟩) (fun v2 h => ?_) (fun j1 h => ?_)
  refine swp_blk (a := v2) ?_
  refine swp_lpL (r := v2) (s := (0, ())) _ (fun s3 => ⟨48, [(0, vl eLabel aList), (3, vi s3.1)], []⟩) _ (Le.sub0) h (fun s3 v4 h => ?_)
  refine swp_seq ?_
  refine swp_seq ?_
  refine swp_reg ?_
  refine SRun.ck tbok 4 ⟨48, [(0, vl eLabel aList), (3, vi s3.1), (9, vb (decide (s3.1 < (aList.length : Int))))], []⟩ ?_
  refine SRun.nil ?_
  refine nx_n ?_
  refine swp_cond (b := (decide (s3.1 < (aList.length : Int)))) (by kernel_rfl) (fun hb => ?_) (fun hb => ?_)
  replace h := cond_t hb h
  refine swp_skip ?_
  refine nx_n ?_
  refine swp_seq ?_
  refine swp_seqL (r := v4) h (fun j5 => ⟨48, [(0, vl eLabel aList), (3, vi s3.1)], []⟩) (fun v6 h => ?_) (fun j5 h => ?_)
  refine swp_blk (a := v6) ?_
  refine swp_seq ?_
  refine swp_reg ?_
  refine SRun.ck tbok 2 ⟨48, [(0, vl eLabel aList), (3, vi s3.1), (12, vl eLabel aList), (13, vi s3.1)], []⟩ ?_
  obtain ⟨x7, hx7, h⟩ := bind_some h
  refine SRun.ls (x_index (L := aList) (f := eLabel) (ti := ti27) (tj := ti52) (e := 52) (k := .i64) tbok rfl hx7) ?_
  refine SRun.ck tbok 2 ⟨48, [(0, vl eLabel aList), (3, vi s3.1), (4, .ref 4 0), (15, .agg [vi x7.At.X, vi x7.At.Y, vi x7.Length, vi x7.Priority])], [(4, .box [vi 0, vi 0, vi 0, vi 0])]⟩ ?_
  refine SRun.estep (x_estep_store (d := 4) (k := 0) (ti := ti52) (cs := [vi 0, vi 0, vi 0, vi 0]) (vs := [vi x7.At.X, vi x7.At.Y, vi x7.Length, vi x7.Priority]) (v := .agg [vi x7.At.X, vi x7.At.Y, vi x7.Length, vi x7.Priority]) tbok rfl rfl) ?_
  refine SRun.nil ?_
  refine nx_n ?_
  refine swp_seq ?_
  refine swp_seq ?_
  refine swp_regJ h (fun j11 => ⟨48, [(0, vl eLabel aList), (3, vi s3.1), (4, .ref 4 0), (31, vb j11)], [(4, .box [vi x7.At.X, vi x7.At.Y, vi x7.Length, vi x7.Priority])]⟩) (fun v12 h => ?_) (fun j11 h => ?_)
  refine SRun.ck tbok 2 ⟨48, [(0, vl eLabel aList), (3, vi s3.1), (4, .ref 4 0), (17, .agg [vi x7.At.X, vi x7.At.Y])], [(4, .box [vi x7.At.X, vi x7.At.Y, vi x7.Length, vi x7.Priority])]⟩ ?_
  obtain ⟨x8, hx8, h⟩ := bind_some h
  refine SRun.ls (x_lstep_call (f := 54) (caps := []) (xs := [.agg [vi x7.At.X, vi x7.At.Y]]) (ys := [.agg [vi x7.At.X, vi x7.At.Y]]) (res := ⟨[.v (vb x8)], [], false⟩) (x := vb x8) (y := none) rfl ents54 (spec_IsPoint_run x7.At _ hx8) rfl (by intro hc; cases hc)) ?_
  refine SRun.ck tbok 2 ⟨48, [(0, vl eLabel aList), (3, vi s3.1), (4, .ref 4 0), (20, vb (!x8))], [(4, .box [vi x7.At.X, vi x7.At.Y, vi x7.Length, vi x7.Priority])]⟩ ?_
  refine SRun.cut [(20, fun b => b)] (b := (!x8)) (by kernel_rfl) (fun hb => ?_) (fun hb => ?_)
  replace h := cond_t hb h
  refine SRun.ck tbok 11 ⟨48, [(0, vl eLabel aList), (3, vi s3.1), (4, .ref 4 0), (31, vb true)], [(4, .box [vi x7.At.X, vi x7.At.Y, vi x7.Length, vi x7.Priority])]⟩ ?_
  refine SRun.nil ?_
  replace h := Option.some.inj h
  subst h
  exact Le.sub0
  replace h := cond_f hb h
  refine SRun.ck tbok 2 ⟨48, [(0, vl eLabel aList), (3, vi s3.1), (4, .ref 4 0), (20, vb false), (22, vi x7.Length)], [(4, .box [vi x7.At.X, vi x7.At.Y, vi x7.Length, vi x7.Priority])]⟩ ?_
  obtain ⟨x9, hx9, h⟩ := bind_some h
  refine SRun.ls (x_lstep_call (f := 55) (caps := []) (xs := [vi x7.Length, vi 1, vi 20]) (ys := [vi x7.Length, vi 1, vi 20]) (res := ⟨[.v (vb x9)], [], false⟩) (x := vb x9) (y := none) rfl ents55 (spec_l01In_run x7.Length 1 20 _ hx9) rfl (by intro hc; cases hc)) ?_
  refine SRun.ck tbok 3 ⟨48, [(0, vl eLabel aList), (3, vi s3.1), (4, .ref 4 0), (26, vb (!x9))], [(4, .box [vi x7.At.X, vi x7.At.Y, vi x7.Length, vi x7.Priority])]⟩ ?_
  refine SRun.cut [(26, fun b => b)] (b := (!x9)) (by kernel_rfl) (fun hb => ?_) (fun hb => ?_)
  replace h := cond_t hb h
  refine SRun.ck tbok 5 ⟨48, [(0, vl eLabel aList), (3, vi s3.1), (4, .ref 4 0), (31, vb true)], [(4, .box [vi x7.At.X, vi x7.At.Y, vi x7.Length, vi x7.Priority])]⟩ ?_
  refine SRun.nil ?_
  replace h := Option.some.inj h
  subst h
  exact Le.sub0
  replace h := cond_f hb h
  refine SRun.ck tbok 2 ⟨48, [(0, vl eLabel aList), (3, vi s3.1), (4, .ref 4 0), (26, vb false), (28, vi x7.Priority)], [(4, .box [vi x7.At.X, vi x7.At.Y, vi x7.Length, vi x7.Priority])]⟩ ?_
  obtain ⟨x10, hx10, h⟩ := bind_some h
  refine SRun.ls (x_lstep_call (f := 55) (caps := []) (xs := [vi x7.Priority, vi 1, vi 9]) (ys := [vi x7.Priority, vi 1, vi 9]) (res := ⟨[.v (vb x10)], [], false⟩) (x := vb x10) (y := none) rfl ents55 (spec_l01In_run x7.Priority 1 9 _ hx10) rfl (by intro hc; cases hc)) ?_
  refine SRun.ck tbok 2 ⟨48, [(0, vl eLabel aList), (3, vi s3.1), (4, .ref 4 0), (31, vb (!x10))], [(4, .box [vi x7.At.X, vi x7.At.Y, vi x7.Length, vi x7.Priority])]⟩ ?_
  refine SRun.nil ?_
  replace h := Option.some.inj h
  subst h
  exact Le.sub0
  refine swp_cond (b := j11) (by kernel_rfl) (fun hb => ?_) (fun hb => ?_)
  replace h := cond_t hb h
  refine swp_seq ?_
  refine swp_reg ?_
  refine SRun.ck tbok 1 ⟨48, [(2, vb false)], []⟩ ?_
  refine SRun.nil ?_
  refine nx_n ?_
  refine swp_ret ?_
  replace h := Option.some.inj h
  subst h
  exact nx_r (q_br (q_rr (q_rr (q_br (q_rr (q_fr (fin1 (by kernel_rfl) (finV rfl SV.flat_of (holds_t (by kernel_rfl))))))))))
  replace h := cond_f hb h
  refine swp_skip ?_
  refine nx_n ?_
  refine swp_seq ?_
  refine swp_reg ?_
  refine SRun.ck tbok 1 ⟨48, [(0, vl eLabel aList), (3, vi s3.1), (4, .ref 4 0), (5, vi 0)], [(4, .box [vi x7.At.X, vi x7.At.Y, vi x7.Length, vi x7.Priority])]⟩ ?_
  refine SRun.nil ?_
  refine nx_n ?_
  refine swp_blk (a := v6) ?_
  refine swp_lpL (r := v6) (s := (0, ())) _ (fun s13 => ⟨48, [(0, vl eLabel aList), (3, vi s3.1), (4, .ref 4 0), (5, vi s13.1)], [(4, .box [vi x7.At.X, vi x7.At.Y, vi x7.Length, vi x7.Priority])]⟩) _ (Le.sub0) h (fun s13 v14 h => ?_)
  refine swp_seq ?_
  refine swp_seq ?_
  refine swp_reg ?_
  refine SRun.ck tbok 3 ⟨48, [(0, vl eLabel aList), (3, vi s3.1), (4, .ref 4 0), (5, vi s13.1), (34, vb (decide (s13.1 < s3.1)))], [(4, .box [vi x7.At.X, vi x7.At.Y, vi x7.Length, vi x7.Priority])]⟩ ?_
  refine SRun.nil ?_
  refine nx_n ?_
  refine swp_cond (b := (decide (s13.1 < s3.1))) (by kernel_rfl) (fun hb => ?_) (fun hb => ?_)
  replace h := cond_t hb h
  refine swp_skip ?_
  refine nx_n ?_
  refine swp_seq ?_
  refine swp_seqL (r := v14) h (fun j15 => ⟨48, [(0, vl eLabel aList), (3, vi s3.1), (4, .ref 4 0), (5, vi s13.1)], [(4, .box [vi x7.At.X, vi x7.At.Y, vi x7.Length, vi x7.Priority])]⟩) (fun v16 h => ?_) (fun j15 h => ?_)
  refine swp_blk (a := v16) ?_
  refine swp_seq ?_
  refine swp_dr mixed ?_
  refine DGo.chunk' tbok 2 (σ' := ⟨48, [(38, vi s13.1), (37, vl eLabel aList), (0, vl eLabel aList), (3, vi s3.1), (4, .ref 4 0), (5, vi s13.1), (34, vb (decide (s13.1 < s3.1)))], [(4, .box [vi x7.At.X, vi x7.At.Y, vi x7.Length, vi x7.Priority])]⟩) (by kernel_rfl) ?_
  obtain ⟨x17, hx17, h⟩ := bind_some h
  refine DGo.step (x_index (L := aList) (f := eLabel) (ti := ti27) (tj := ti52) (e := 52) (k := .i64) tbok rfl hx17) ?_
  refine DGo.chunk' tbok 4 (σ' := ⟨48, [(43, .agg [vi x7.At.X, vi x7.At.Y]), (42, .ref 4 0), (41, .agg [vi x17.At.X, vi x17.At.Y]), (40, .ptr ((eLabel x17).map .tr) 0), (39, .ptr ((eLabel x17).map .tr) 0), (38, vi s13.1), (37, vl eLabel aList), (0, vl eLabel aList), (3, vi s3.1), (4, .ref 4 0), (5, vi s13.1), (34, vb (decide (s13.1 < s3.1)))], [(4, .box [vi x7.At.X, vi x7.At.Y, vi x7.Length, vi x7.Priority])]⟩) (by kernel_rfl) ?_
  refine DGo.step (x_lstep_eq tbok false (xs := [vi x17.At.X, vi x17.At.Y]) (ys := [vi x7.At.X, vi x7.At.Y]) (b := ((x17.At.X == x7.At.X) && (x17.At.Y == x7.At.Y))) rfl) ?_
  refine DGo.nil (by kernel_rfl) ?_
  refine nx_n ?_
  refine swp_cond (b := ((x17.At.X == x7.At.X) && (x17.At.Y == x7.At.Y))) (by kernel_rfl) (fun hb => ?_) (fun hb => ?_)
  replace h := cond_t hb h
  refine swp_seq ?_
  refine swp_reg ?_
  refine SRun.ck tbok 1 ⟨48, [(2, vb false)], []⟩ ?_
  refine SRun.nil ?_
  refine nx_n ?_
  refine swp_ret ?_
  replace h := Option.some.inj h
  subst h
  exact q_br (q_rr (q_rr (q_br (q_br (q_rr (q_rr (q_br (q_rr (q_fr (fin1 (by kernel_rfl) (finV rfl SV.flat_of (holds_t (by kernel_rfl)))))))))))))
  replace h := cond_f hb h
  refine swp_skip ?_
  replace h := Option.some.inj h
  subst h
  exact q_bn (q_l (Le.sub0))
  refine swp_reg ?_
  refine SRun.ck tbok 3 ⟨48, [(0, vl eLabel aList), (3, vi s3.1), (4, .ref 4 0), (5, vi (w64 (s13.1 + 1)))], [(4, .box [vi x7.At.X, vi x7.At.Y, vi x7.Length, vi x7.Priority])]⟩ ?_
  refine SRun.nil ?_
  replace h := Option.some.inj h
  subst h
  exact q_l (Le.sub0)
  replace h := cond_f hb h
  refine swp_exit ?_
  replace h := Option.some.inj h
  subst h
  exact nx_e (q_re (q_bh (q_bn (q_l (Le.sub0)))))
  refine swp_reg ?_
  refine SRun.ck tbok 3 ⟨48, [(0, vl eLabel aList), (3, vi (w64 (s3.1 + 1)))], []⟩ ?_
  refine SRun.nil ?_
  replace h := Option.some.inj h
  subst h
  exact q_l (Le.sub0)
  replace h := cond_f hb h
  refine swp_exit ?_
  replace h := Option.some.inj h
  subst h
  exact nx_e (q_re (q_bh (q_l (Le.sub0))))
  refine swp_seq ?_
  refine swp_reg ?_
  refine SRun.ck tbok 4 ⟨48, [(2, vb (decide ((aList.length : Int) ≤ 6)))], []⟩ ?_
  refine SRun.nil ?_
  refine nx_n ?_
  refine swp_ret ?_
  replace h := Option.some.inj h
  subst h
  exact q_fr (fin1 (by kernel_rfl) (finV rfl SV.flat_of (holds_t (by kernel_rfl))))
theorem ents29 : Ents Try.prog 29 := ents_of Try.func29 (by kernel_rfl) rfl
noncomputable def spec_l33Covers (aL : Label) (aPosition : Int) (aP : Point) : Option (Bool) :=
  (((bif ((aPosition == 1) || (aPosition == 2)) then some (w64 (0 - (w64 (aP.X - aL.At.X)))) else some (w64 (aP.X - aL.At.X)))).bind fun (j1 : Int) => (((bif (decide (aPosition > 1)) then some (w64 (0 - (w64 (aP.Y - aL.At.Y)))) else some (w64 (aP.Y - aL.At.Y)))).bind fun (j3 : Int) => (((bif (decide (aPosition < 4)) then (bif (j3 == 1) then ((spec_l01In j1 1 aL.Length).bind fun x5 => some x5) else some false) else some false)).bind fun (j6 : Bool) => some j6)))
set_option maxRecDepth 100000 in
set_option maxHeartbeats 4000000 in
theorem spec_l33Covers_run (aL : Label) (aPosition : Int) (aP : Point) (r : Bool) (h : spec_l33Covers aL aPosition aP = some r) : SCall Try.prog 73 [.v (.agg [vi aL.At.X, vi aL.At.Y, vi aL.Length, vi aL.Priority]), .v (vi aPosition), .v (.agg [vi aP.X, vi aP.Y])] ⟨[.v (vb r)], [], false⟩ := by
  refine scall_in Try.func73 rfl [(.tmp 6)] rfl (fun r => ⟨[.v (vb r)], [], false⟩) (r := r) ?_
  unfold spec_l33Covers at h
  refine swp_seq ?_
  refine swp_reg ?_
  refine SRun.ck tbok 3 ⟨45, [(1, vi aPosition), (3, .ref 3 0), (5, .ref 5 0)], [(3, .box [vi aL.At.X, vi aL.At.Y, vi aL.Length, vi aL.Priority]), (5, .box [vi aP.X, vi aP.Y])]⟩ ?_
  refine SRun.nil ?_
  refine nx_n ?_
  refine swp_seq ?_
  refine swp_dr mixed ?_
  refine DGo.chunk' tbok 14 (σ' := ⟨45, [(8, vi (w64 (aP.Y - aL.At.Y))), (7, vi (w64 (aP.X - aL.At.X))), (20, vi (w64 (aP.Y - aL.At.Y))), (19, vi aL.At.Y), (18, .ref 3 1), (17, .ref 3 0), (16, vi aP.Y), (15, .ref 5 1), (14, vi (w64 (aP.X - aL.At.X))), (13, vi aL.At.X), (12, .ref 3 0), (11, .ref 3 0), (10, vi aP.X), (9, .ref 5 0), (1, vi aPosition), (3, .ref 3 0), (5, .ref 5 0)], [(3, .box [vi aL.At.X, vi aL.At.Y, vi aL.Length, vi aL.Priority]), (5, .box [vi aP.X, vi aP.Y])]⟩) (by kernel_rfl) ?_
  refine DGo.nil (by kernel_rfl) ?_
  refine nx_n ?_
  refine swp_seq ?_
  refine swp_seq ?_
  refine swp_regP ⟨45, [(1, vi aPosition), (3, .ref 3 0), (7, vi (w64 (aP.X - aL.At.X))), (8, vi (w64 (aP.Y - aL.At.Y))), (26, vb ((aPosition == 1) || (aPosition == 2)))], [(3, .box [vi aL.At.X, vi aL.At.Y, vi aL.Length, vi aL.Priority])]⟩ ?_ ?_
  refine SRun.ck tbok 3 ⟨45, [(1, vi aPosition), (3, .ref 3 0), (7, vi (w64 (aP.X - aL.At.X))), (8, vi (w64 (aP.Y - aL.At.Y))), (23, vb (aPosition == 1))], [(3, .box [vi aL.At.X, vi aL.At.Y, vi aL.Length, vi aL.Priority])]⟩ ?_
  generalize (aPosition == 1) = bb
  cases bb
  refine SRun.ck tbok 3 ⟨45, [(1, vi aPosition), (3, .ref 3 0), (7, vi (w64 (aP.X - aL.At.X))), (8, vi (w64 (aP.Y - aL.At.Y))), (26, vb (aPosition == 2))], [(3, .box [vi aL.At.X, vi aL.At.Y, vi aL.Length, vi aL.Priority])]⟩ ?_
  exact SRun.nil (Le.sub0)
  refine SRun.ck tbok 3 ⟨45, [(1, vi aPosition), (3, .ref 3 0), (7, vi (w64 (aP.X - aL.At.X))), (8, vi (w64 (aP.Y - aL.At.Y))), (26, vb true)], [(3, .box [vi aL.At.X, vi aL.At.Y, vi aL.Length, vi aL.Priority])]⟩ ?_
  exact SRun.nil (Le.sub0)
  refine swp_seqJ h (fun j1 => ⟨45, [(1, vi aPosition), (3, .ref 3 0), (7, vi j1), (8, vi (w64 (aP.Y - aL.At.Y)))], [(3, .box [vi aL.At.X, vi aL.At.Y, vi aL.Length, vi aL.Priority])]⟩) (fun v2 h => ?_) (fun j1 h => ?_)
  refine swp_cond (b := ((aPosition == 1) || (aPosition == 2))) (by kernel_rfl) (fun hb => ?_) (fun hb => ?_)
  replace h := cond_t hb h
  refine swp_reg ?_
  refine SRun.ck tbok 3 ⟨45, [(1, vi aPosition), (3, .ref 3 0), (7, vi (w64 (0 - (w64 (aP.X - aL.At.X))))), (8, vi (w64 (aP.Y - aL.At.Y)))], [(3, .box [vi aL.At.X, vi aL.At.Y, vi aL.Length, vi aL.Priority])]⟩ ?_
  refine SRun.nil ?_
  replace h := Option.some.inj h
  subst h
  exact q_j (Le.sub0)
  replace h := cond_f hb h
  refine swp_skip ?_
  replace h := Option.some.inj h
  subst h
  exact q_j (Le.sub0)
  refine swp_seq ?_
  refine swp_seq ?_
  refine swp_reg ?_
  refine SRun.ck tbok 2 ⟨45, [(1, vi aPosition), (3, .ref 3 0), (7, vi j1), (8, vi (w64 (aP.Y - aL.At.Y))), (30, vb (decide (aPosition > 1)))], [(3, .box [vi aL.At.X, vi aL.At.Y, vi aL.Length, vi aL.Priority])]⟩ ?_
  refine SRun.nil ?_
  refine nx_n ?_
  refine swp_seqJ h (fun j3 => ⟨45, [(1, vi aPosition), (3, .ref 3 0), (7, vi j1), (8, vi j3)], [(3, .box [vi aL.At.X, vi aL.At.Y, vi aL.Length, vi aL.Priority])]⟩) (fun v4 h => ?_) (fun j3 h => ?_)
  refine swp_cond (b := (decide (aPosition > 1))) (by kernel_rfl) (fun hb => ?_) (fun hb => ?_)
  replace h := cond_t hb h
  refine swp_reg ?_
  refine SRun.ck tbok 3 ⟨45, [(1, vi aPosition), (3, .ref 3 0), (7, vi j1), (8, vi (w64 (0 - (w64 (aP.Y - aL.At.Y)))))], [(3, .box [vi aL.At.X, vi aL.At.Y, vi aL.Length, vi aL.Priority])]⟩ ?_
  refine SRun.nil ?_
  replace h := Option.some.inj h
  subst h
  exact q_j (Le.sub0)
  replace h := cond_f hb h
  refine swp_skip ?_
  replace h := Option.some.inj h
  subst h
  exact q_j (Le.sub0)
  refine swp_seq ?_
  refine swp_regJ h (fun j6 => ⟨45, [(6, vb j6)], []⟩) (fun v7 h => ?_) (fun j6 h => ?_)
  refine SRun.ck tbok 3 ⟨45, [(3, .ref 3 0), (7, vi j1), (8, vi j3), (35, vb (decide (aPosition < 4)))], [(3, .box [vi aL.At.X, vi aL.At.Y, vi aL.Length, vi aL.Priority])]⟩ ?_
  refine SRun.cut [(35, fun b => b)] (b := (decide (aPosition < 4))) (by kernel_rfl) (fun hb => ?_) (fun hb => ?_)
  replace h := cond_t hb h
  refine SRun.ck tbok 4 ⟨45, [(3, .ref 3 0), (7, vi j1), (39, vb (j3 == 1))], [(3, .box [vi aL.At.X, vi aL.At.Y, vi aL.Length, vi aL.Priority])]⟩ ?_
  refine SRun.cut [(39, fun b => b)] (b := (j3 == 1)) (by kernel_rfl) (fun hb => ?_) (fun hb => ?_)
  replace h := cond_t hb h
  refine SRun.ck tbok 3 ⟨45, [(39, vb true), (40, vi j1), (42, vi aL.Length)], []⟩ ?_
  obtain ⟨x5, hx5, h⟩ := bind_some h
  refine SRun.ls (x_lstep_call (f := 55) (caps := []) (xs := [vi j1, vi 1, vi aL.Length]) (ys := [vi j1, vi 1, vi aL.Length]) (res := ⟨[.v (vb x5)], [], false⟩) (x := vb x5) (y := none) rfl ents55 (spec_l01In_run j1 1 aL.Length _ hx5) rfl (by intro hc; cases hc)) ?_
  refine SRun.ck tbok 2 ⟨45, [(6, vb x5)], []⟩ ?_
  refine SRun.nil ?_
  replace h := Option.some.inj h
  subst h
  exact Le.sub0
  replace h := cond_f hb h
  refine SRun.ck tbok 6 ⟨45, [(6, vb false)], []⟩ ?_
  refine SRun.nil ?_
  replace h := Option.some.inj h
  subst h
  exact Le.sub0
  replace h := cond_f hb h
  refine SRun.ck tbok 10 ⟨45, [(6, vb false)], []⟩ ?_
  refine SRun.nil ?_
  replace h := Option.some.inj h
  subst h
  exact Le.sub0
  refine swp_ret ?_
  replace h := Option.some.inj h
  subst h
  exact q_fr (fin1 (by kernel_rfl) (finV rfl SV.flat_of (holds_t (by kernel_rfl))))
theorem ents73 : Ents Try.prog 73 := ents_of Try.func73 (by kernel_rfl) rfl
noncomputable def spec_l33Allowed (aList : (List Label)) (aL : Label) (aPosition : Int) : Option (Bool) :=
  (((forN (aList.length : Int) (fun (i3 : Int) (_ : Unit) => ((at' aList i3).bind fun x7 => ((spec_l33Covers aL aPosition x7.At).bind fun x8 => (bif x8 then some (.inr (.inr false)) else some (.inl ()))))) (fun (_ : Unit) => .inl ()) 0 ())).bind (Sum.elim (fun (_ : Unit) => some true) some))
set_option maxRecDepth 100000 in
set_option maxHeartbeats 4000000 in
theorem spec_l33Allowed_run (aList : (List Label)) (aL : Label) (aPosition : Int) (r : Bool) (h : spec_l33Allowed aList aL aPosition = some r) : SCall Try.prog 62 [.v (vl eLabel aList), .v (.agg [vi aL.At.X, vi aL.At.Y, vi aL.Length, vi aL.Priority]), .v (vi aPosition)] ⟨[.v (vb r)], [], false⟩ := by
  refine scall_in Try.func62 rfl [(.tmp 6)] rfl (fun r => ⟨[.v (vb r)], [], false⟩) (r := r) ?_
  unfold spec_l33Allowed at h
  refine swp_seq ?_
  refine swp_reg ?_
  refine SRun.ck tbok 2 ⟨22, [(0, vl eLabel aList), (2, vi aPosition), (4, .ref 4 0)], [(4, .box [vi aL.At.X, vi aL.At.Y, vi aL.Length, vi aL.Priority])]⟩ ?_
  refine SRun.nil ?_
  refine nx_n ?_
  refine swp_seq ?_
  refine swp_seq ?_
  refine swp_reg ?_
  refine SRun.ck tbok 1 ⟨22, [(0, vl eLabel aList), (2, vi aPosition), (4, .ref 4 0), (7, vi 0)], [(4, .box [vi aL.At.X, vi aL.At.Y, vi aL.Length, vi aL.Priority])]⟩ ?_
  refine SRun.nil ?_
  refine nx_n ?_
  refine swp_seqE (r := r) h (fun j1 => ⟨22, [], []⟩) (fun v2 h => ?_) (fun j1 h => ?_)
  refine swp_blk (a := v2) ?_
  refine swp_lpL (r := v2) (s := (0, ())) _ (fun s3 => ⟨22, [(0, vl eLabel aList), (2, vi aPosition), (4, .ref 4 0), (7, vi s3.1)], [(4, .box [vi aL.At.X, vi aL.At.Y, vi aL.Length, vi aL.Priority])]⟩) _ (Le.sub0) h (fun s3 v4 h => ?_)
  refine swp_seq ?_
  refine swp_seq ?_
  refine swp_reg ?_
  refine SRun.ck tbok 4 ⟨22, [(0, vl eLabel aList), (2, vi aPosition), (4, .ref 4 0), (7, vi s3.1), (11, vb (decide (s3.1 < (aList.length : Int))))], [(4, .box [vi aL.At.X, vi aL.At.Y, vi aL.Length, vi aL.Priority])]⟩ ?_
  refine SRun.nil ?_
  refine nx_n ?_
  refine swp_cond (b := (decide (s3.1 < (aList.length : Int)))) (by kernel_rfl) (fun hb => ?_) (fun hb => ?_)
  replace h := cond_t hb h
  refine swp_skip ?_
  refine nx_n ?_
  refine swp_seq ?_
  refine swp_seqL (r := v4) h (fun j5 => ⟨22, [(0, vl eLabel aList), (2, vi aPosition), (4, .ref 4 0), (7, vi s3.1)], [(4, .box [vi aL.At.X, vi aL.At.Y, vi aL.Length, vi aL.Priority])]⟩) (fun v6 h => ?_) (fun j5 h => ?_)
  refine swp_blk (a := v6) ?_
  refine swp_seq ?_
  refine swp_dr mixed ?_
  refine DGo.chunk' tbok 4 (σ' := ⟨22, [(17, vi s3.1), (16, vl eLabel aList), (15, vi aPosition), (14, .agg [vi aL.At.X, vi aL.At.Y, vi aL.Length, vi aL.Priority]), (0, vl eLabel aList), (2, vi aPosition), (4, .ref 4 0), (7, vi s3.1), (11, vb (decide (s3.1 < (aList.length : Int))))], [(4, .box [vi aL.At.X, vi aL.At.Y, vi aL.Length, vi aL.Priority])]⟩) (by kernel_rfl) ?_
  obtain ⟨x7, hx7, h⟩ := bind_some h
  refine DGo.step (x_index (L := aList) (f := eLabel) (ti := ti27) (tj := ti52) (e := 52) (k := .i64) tbok rfl hx7) ?_
  refine DGo.chunk' tbok 2 (σ' := ⟨22, [(20, .agg [vi x7.At.X, vi x7.At.Y]), (19, .ptr ((eLabel x7).map .tr) 0), (18, .ptr ((eLabel x7).map .tr) 0), (17, vi s3.1), (16, vl eLabel aList), (15, vi aPosition), (14, .agg [vi aL.At.X, vi aL.At.Y, vi aL.Length, vi aL.Priority]), (0, vl eLabel aList), (2, vi aPosition), (4, .ref 4 0), (7, vi s3.1), (11, vb (decide (s3.1 < (aList.length : Int))))], [(4, .box [vi aL.At.X, vi aL.At.Y, vi aL.Length, vi aL.Priority])]⟩) (by kernel_rfl) ?_
  obtain ⟨x8, hx8, h⟩ := bind_some h
  refine DGo.step (x_lstep_call (f := 73) (caps := []) (xs := [.agg [vi aL.At.X, vi aL.At.Y, vi aL.Length, vi aL.Priority], vi aPosition, .agg [vi x7.At.X, vi x7.At.Y]]) (ys := [.agg [vi aL.At.X, vi aL.At.Y, vi aL.Length, vi aL.Priority], vi aPosition, .agg [vi x7.At.X, vi x7.At.Y]]) (res := ⟨[.v (vb x8)], [], false⟩) (x := vb x8) (y := none) rfl ents73 (spec_l33Covers_run aL aPosition x7.At _ hx8) rfl (by intro hc; cases hc)) ?_
  refine DGo.nil (by kernel_rfl) ?_
  refine nx_n ?_
  refine swp_cond (b := x8) (by kernel_rfl) (fun hb => ?_) (fun hb => ?_)
  replace h := cond_t hb h
  refine swp_seq ?_
  refine swp_reg ?_
  refine SRun.ck tbok 1 ⟨22, [(6, vb false)], []⟩ ?_
  refine SRun.nil ?_
  refine nx_n ?_
  refine swp_ret ?_
  replace h := Option.some.inj h
  subst h
  exact q_br (q_rr (q_rr (q_br (q_rr (q_fr (fin1 (by kernel_rfl) (finV rfl SV.flat_of (holds_t (by kernel_rfl)))))))))
  replace h := cond_f hb h
  refine swp_skip ?_
  replace h := Option.some.inj h
  subst h
  exact q_bn (q_l (Le.sub0))
  refine swp_reg ?_
  refine SRun.ck tbok 3 ⟨22, [(0, vl eLabel aList), (2, vi aPosition), (4, .ref 4 0), (7, vi (w64 (s3.1 + 1)))], [(4, .box [vi aL.At.X, vi aL.At.Y, vi aL.Length, vi aL.Priority])]⟩ ?_
  refine SRun.nil ?_
  replace h := Option.some.inj h
  subst h
  exact q_l (Le.sub0)
  replace h := cond_f hb h
  refine swp_exit ?_
  replace h := Option.some.inj h
  subst h
  exact nx_e (q_re (q_bh (q_l (Le.sub0))))
  refine swp_seq ?_
  refine swp_reg ?_
  refine SRun.ck tbok 1 ⟨22, [(6, vb true)], []⟩ ?_
  refine SRun.nil ?_
  refine nx_n ?_
  refine swp_ret ?_
  replace h := Option.some.inj h
  subst h
  exact q_fr (fin1 (by kernel_rfl) (finV rfl SV.flat_of (holds_t (by kernel_rfl))))
theorem ents62 : Ents Try.prog 62 := ents_of Try.func62 (by kernel_rfl) rfl
noncomputable def spec_l33Points (aL : Label) (aPosition : Int) : Option ((List Point)) :=
  (((forH (fun (i3 : Int) (_ : (List Point)) => (decide (i3 ≤ (w64 (aL.At.X + aL.Length))))) (fun (i3 : Int) (s3 : (List Point)) => (forH (fun (i7 : Int) (_ : (List Point)) => (decide (i7 ≤ (w64 (aL.At.Y + 1))))) (fun (i7 : Int) (s7 : (List Point)) => ((spec_l33Covers aL aPosition (Point.mk i3 i7)).bind fun x11 => (bif x11 then ((app' s7 ([(Point.mk i3 i7)] : List Point)).bind fun x12 => some x12) else some s7))) (fun (s7 : (List Point)) => s7) (w64 (aL.At.Y - 1)) s3)) (fun (s3 : (List Point)) => s3) (w64 (aL.At.X - aL.Length)) ([] : List Point))).bind fun (j1 : (List Point)) => some j1)
set_option maxRecDepth 100000 in
set_option maxHeartbeats 4000000 in
theorem spec_l33Points_run (aL : Label) (aPosition : Int) (r : (List Point)) (h : spec_l33Points aL aPosition = some r) : SCall Try.prog 72 [.v (.agg [vi aL.At.X, vi aL.At.Y, vi aL.Length, vi aL.Priority]), .v (vi aPosition)] ⟨[.own 50 2 r.length (r.map ePoint)], [], false⟩ := by
  refine scall_in Try.func72 rfl [(.tmp 4)] rfl (fun r => ⟨[.own 50 2 r.length (r.map ePoint)], [], false⟩) (r := r) ?_
  unfold spec_l33Points at h
  refine swp_seq ?_
  refine swp_reg ?_
  refine SRun.ck tbok 2 ⟨50, [(1, vi aPosition), (2, .ref 2 0)], [(2, .box [vi aL.At.X, vi aL.At.Y, vi aL.Length, vi aL.Priority])]⟩ ?_
  refine SRun.nil ?_
  refine nx_n ?_
  refine swp_seq ?_
  refine swp_reg ?_
  refine SRun.ck tbok 2 ⟨50, [(1, vi aPosition), (2, .ref 2 0), (5, .own 9)], [(2, .box [vi aL.At.X, vi aL.At.Y, vi aL.Length, vi aL.Priority]), (9, .arr 50 2 ([] : List Point).length (([] : List Point).map ePoint))]⟩ ?_
  refine SRun.nil ?_
  refine nx_n ?_
  refine swp_seq ?_
  refine swp_seq ?_
  refine swp_reg ?_
  refine SRun.ck tbok 7 ⟨50, [(1, vi aPosition), (2, .ref 2 0), (5, .own 9), (6, vi (w64 (aL.At.X - aL.Length)))], [(2, .box [vi aL.At.X, vi aL.At.Y, vi aL.Length, vi aL.Priority]), (9, .arr 50 2 ([] : List Point).length (([] : List Point).map ePoint))]⟩ ?_
  refine SRun.nil ?_
  refine nx_n ?_
  refine swp_seqJ h (fun j1 => ⟨50, [(5, .own 5)], [(5, .arr 50 2 j1.length (j1.map ePoint))]⟩) (fun v2 h => ?_) (fun j1 h => ?_)
  refine swp_blk (a := v2) ?_
  refine swp_lpL (r := v2) (s := ((w64 (aL.At.X - aL.Length)), ([] : List Point))) _ (fun s3 => ⟨50, [(1, vi aPosition), (2, .ref 2 0), (5, .own 5), (6, vi s3.1)], [(2, .box [vi aL.At.X, vi aL.At.Y, vi aL.Length, vi aL.Priority]), (5, .arr 50 2 s3.2.length (s3.2.map ePoint))]⟩) _ ((Le.sub' ([(1, vi aPosition), (2, .ref 2 0), (5, .own 9), (6, vi (w64 (aL.At.X - aL.Length)))] : List (Nat × SV)) ([(2, .box [vi aL.At.X, vi aL.At.Y, vi aL.Length, vi aL.Priority]), (9, .arr 50 2 ([] : List Point).length (([] : List Point).map ePoint))] : List (Nat × SO)) (by kernel_rfl) (by kernel_rfl)).trans ((Le.ren' (d := 9) (e := 5) (by kernel_rfl) (by kernel_rfl) (by kernel_rfl)).trans (Le.sub0))) h (fun s3 v4 h => ?_)
  refine swp_seq ?_
  refine swp_seq ?_
  refine swp_reg ?_
  refine SRun.ck tbok 8 ⟨50, [(1, vi aPosition), (2, .ref 2 0), (5, .own 5), (6, vi s3.1), (23, vb (decide (s3.1 ≤ (w64 (aL.At.X + aL.Length)))))], [(2, .box [vi aL.At.X, vi aL.At.Y, vi aL.Length, vi aL.Priority]), (5, .arr 50 2 s3.2.length (s3.2.map ePoint))]⟩ ?_
  refine SRun.nil ?_
  refine nx_n ?_
  refine swp_cond (b := (decide (s3.1 ≤ (w64 (aL.At.X + aL.Length))))) (by kernel_rfl) (fun hb => ?_) (fun hb => ?_)
  replace h := cond_t hb h
  refine swp_skip ?_
  refine nx_n ?_
  refine swp_seq ?_
  refine swp_seqJ h (fun j5 => ⟨50, [(1, vi aPosition), (2, .ref 2 0), (5, .own 5), (6, vi s3.1)], [(2, .box [vi aL.At.X, vi aL.At.Y, vi aL.Length, vi aL.Priority]), (5, .arr 50 2 j5.length (j5.map ePoint))]⟩) (fun v6 h => ?_) (fun j5 h => ?_)
  refine swp_blk (a := v6) ?_
  refine swp_seq ?_
  refine swp_reg ?_
  refine SRun.ck tbok 5 ⟨50, [(1, vi aPosition), (2, .ref 2 0), (5, .own 5), (6, vi s3.1), (7, vi (w64 (aL.At.Y - 1)))], [(2, .box [vi aL.At.X, vi aL.At.Y, vi aL.Length, vi aL.Priority]), (5, .arr 50 2 s3.2.length (s3.2.map ePoint))]⟩ ?_
  refine SRun.nil ?_
  refine nx_n ?_
  refine swp_blk (a := v6) ?_
  refine swp_lpL (r := v6) (s := ((w64 (aL.At.Y - 1)), s3.2)) _ (fun s7 => ⟨50, [(1, vi aPosition), (2, .ref 2 0), (5, .own 5), (6, vi s3.1), (7, vi s7.1)], [(2, .box [vi aL.At.X, vi aL.At.Y, vi aL.Length, vi aL.Priority]), (5, .arr 50 2 s7.2.length (s7.2.map ePoint))]⟩) _ (Le.sub0) h (fun s7 v8 h => ?_)
  refine swp_seq ?_
  refine swp_seq ?_
  refine swp_reg ?_
  refine SRun.ck tbok 6 ⟨50, [(1, vi aPosition), (2, .ref 2 0), (5, .own 5), (6, vi s3.1), (7, vi s7.1), (35, vb (decide (s7.1 ≤ (w64 (aL.At.Y + 1)))))], [(2, .box [vi aL.At.X, vi aL.At.Y, vi aL.Length, vi aL.Priority]), (5, .arr 50 2 s7.2.length (s7.2.map ePoint))]⟩ ?_
  refine SRun.nil ?_
  refine nx_n ?_
  refine swp_cond (b := (decide (s7.1 ≤ (w64 (aL.At.Y + 1))))) (by kernel_rfl) (fun hb => ?_) (fun hb => ?_)
  replace h := cond_t hb h
  refine swp_skip ?_
  refine nx_n ?_
  refine swp_seq ?_
  refine swp_seqJ h (fun j9 => ⟨50, [(1, vi aPosition), (2, .ref 2 0), (5, .own 5), (6, vi s3.1), (7, vi s7.1)], [(2, .box [vi aL.At.X, vi aL.At.Y, vi aL.Length, vi aL.Priority]), (5, .arr 50 2 j9.length (j9.map ePoint))]⟩) (fun v10 h => ?_) (fun j9 h => ?_)
  refine swp_blk (a := v10) ?_
  refine swp_seq ?_
  refine swp_reg ?_
  refine SRun.ck tbok 2 ⟨50, [(1, vi aPosition), (2, .ref 2 0), (5, .own 5), (6, vi s3.1), (7, vi s7.1), (38, vi s3.1), (39, vi s7.1)], [(2, .box [vi aL.At.X, vi aL.At.Y, vi aL.Length, vi aL.Priority]), (5, .arr 50 2 s7.2.length (s7.2.map ePoint))]⟩ ?_
  refine SRun.ls (x_lstep_build (v := .agg [vi s3.1, vi s7.1]) tbok rfl) ?_
  refine SRun.ck tbok 1 ⟨50, [(1, vi aPosition), (2, .ref 2 0), (5, .own 5), (6, vi s3.1), (7, vi s7.1), (8, .ref 8 0), (40, .agg [vi s3.1, vi s7.1])], [(2, .box [vi aL.At.X, vi aL.At.Y, vi aL.Length, vi aL.Priority]), (5, .arr 50 2 s7.2.length (s7.2.map ePoint)), (8, .box [vi 0, vi 0])]⟩ ?_
  refine SRun.estep (x_estep_store (d := 8) (k := 0) (ti := ti50) (cs := [vi 0, vi 0]) (vs := [vi s3.1, vi s7.1]) (v := .agg [vi s3.1, vi s7.1]) tbok rfl rfl) ?_
  refine SRun.nil ?_
  refine nx_n ?_
  refine swp_seq ?_
  refine swp_reg ?_
  refine SRun.ck tbok 3 ⟨50, [(1, vi aPosition), (2, .ref 2 0), (5, .own 5), (6, vi s3.1), (7, vi s7.1), (8, .ref 8 0), (41, .agg [vi aL.At.X, vi aL.At.Y, vi aL.Length, vi aL.Priority]), (42, vi aPosition), (43, .agg [vi s3.1, vi s7.1])], [(2, .box [vi aL.At.X, vi aL.At.Y, vi aL.Length, vi aL.Priority]), (5, .arr 50 2 s7.2.length (s7.2.map ePoint)), (8, .box [vi s3.1, vi s7.1])]⟩ ?_
  obtain ⟨x11, hx11, h⟩ := bind_some h
  refine SRun.ls (x_lstep_call (f := 73) (caps := []) (xs := [.agg [vi aL.At.X, vi aL.At.Y, vi aL.Length, vi aL.Priority], vi aPosition, .agg [vi s3.1, vi s7.1]]) (ys := [.agg [vi aL.At.X, vi aL.At.Y, vi aL.Length, vi aL.Priority], vi aPosition, .agg [vi s3.1, vi s7.1]]) (res := ⟨[.v (vb x11)], [], false⟩) (x := vb x11) (y := none) rfl ents73 (spec_l33Covers_run aL aPosition (Point.mk s3.1 s7.1) _ hx11) rfl (by intro hc; cases hc)) ?_
  refine SRun.nil ?_
  refine nx_n ?_
  refine swp_cond (b := x11) (by kernel_rfl) (fun hb => ?_) (fun hb => ?_)
  replace h := cond_t hb h
  refine swp_reg ?_
  refine SRun.ck tbok 3 ⟨50, [(1, vi aPosition), (2, .ref 2 0), (6, vi s3.1), (7, vi s7.1), (45, .own 5), (47, .own 47)], [(2, .box [vi aL.At.X, vi aL.At.Y, vi aL.Length, vi aL.Priority]), (5, .arr 50 2 s7.2.length (s7.2.map ePoint)), (47, .arr 50 2 ([(Point.mk s3.1 s7.1)] : List Point).length (([(Point.mk s3.1 s7.1)] : List Point).map ePoint))]⟩ ?_
  obtain ⟨x12, hx12, h⟩ := bind_some h
  refine SRun.estep (x_append (f := ePoint) (t := 91) (ti := ti91) (tj := ti50) (zs := [.int .i64 0, .int .i64 0]) (e := 50) (m := 2) (d := 5) (xv := .own 47) hx12 tbok rfl rfl rfl rfl (x_src_o (e := 50))) ?_
  refine SRun.ck tbok 1 ⟨50, [(1, vi aPosition), (2, .ref 2 0), (5, .own 48), (6, vi s3.1), (7, vi s7.1)], [(2, .box [vi aL.At.X, vi aL.At.Y, vi aL.Length, vi aL.Priority]), (48, .arr 50 2 x12.length (x12.map ePoint))]⟩ ?_
  refine SRun.nil ?_
  replace h := Option.some.inj h
  subst h
  exact q_bn (q_j ((Le.sub' ([(1, vi aPosition), (2, .ref 2 0), (5, .own 48), (6, vi s3.1), (7, vi s7.1)] : List (Nat × SV)) ([(2, .box [vi aL.At.X, vi aL.At.Y, vi aL.Length, vi aL.Priority]), (48, .arr 50 2 x12.length (x12.map ePoint))] : List (Nat × SO)) (by kernel_rfl) (by kernel_rfl)).trans ((Le.ren' (d := 48) (e := 5) (by kernel_rfl) (by kernel_rfl) (by kernel_rfl)).trans (Le.sub0))))
  replace h := cond_f hb h
  refine swp_skip ?_
  replace h := Option.some.inj h
  subst h
  exact q_bn (q_j (Le.sub0))
  refine swp_reg ?_
  refine SRun.ck tbok 3 ⟨50, [(1, vi aPosition), (2, .ref 2 0), (5, .own 5), (6, vi s3.1), (7, vi (w64 (s7.1 + 1)))], [(2, .box [vi aL.At.X, vi aL.At.Y, vi aL.Length, vi aL.Priority]), (5, .arr 50 2 j9.length (j9.map ePoint))]⟩ ?_
  refine SRun.nil ?_
  replace h := Option.some.inj h
  subst h
  exact q_l (Le.sub0)
  replace h := cond_f hb h
  refine swp_exit ?_
  replace h := Option.some.inj h
  subst h
  exact nx_e (q_re (q_bh (q_bn (q_j (Le.sub0)))))
  refine swp_reg ?_
  refine SRun.ck tbok 3 ⟨50, [(1, vi aPosition), (2, .ref 2 0), (5, .own 5), (6, vi (w64 (s3.1 + 1)))], [(2, .box [vi aL.At.X, vi aL.At.Y, vi aL.Length, vi aL.Priority]), (5, .arr 50 2 j5.length (j5.map ePoint))]⟩ ?_
  refine SRun.nil ?_
  replace h := Option.some.inj h
  subst h
  exact q_l (Le.sub0)
  replace h := cond_f hb h
  refine swp_exit ?_
  replace h := Option.some.inj h
  subst h
  exact nx_e (q_re (q_bh (q_j (Le.sub0))))
  refine swp_seq ?_
  refine swp_reg ?_
  refine SRun.ck tbok 2 ⟨50, [(4, .own 5)], [(5, .arr 50 2 j1.length (j1.map ePoint))]⟩ ?_
  refine SRun.nil ?_
  refine nx_n ?_
  refine swp_ret ?_
  replace h := Option.some.inj h
  subst h
  exact q_fr (fin1 (by kernel_rfl) (finO (d := 5) (holds_t (by kernel_rfl)) (by kernel_rfl) (flat_map ePoint_flat _) (by kernel_rfl)))
theorem ents72 : Ents Try.prog 72 := ents_of Try.func72 (by kernel_rfl) rfl
noncomputable def spec_l33Clash (aA : Label) (aX : Int) (aB : Label) (aY : Int) : Option (Bool) :=
  ((spec_l33Points aA aX).bind fun x1 => (((forN (x1.length : Int) (fun (i4 : Int) (_ : Unit) => ((at' x1 i4).bind fun x8 => ((spec_l33Covers aB aY x8).bind fun x9 => (bif x9 then some (.inr (.inr true)) else some (.inl ()))))) (fun (_ : Unit) => .inl ()) 0 ())).bind (Sum.elim (fun (_ : Unit) => some false) some)))
set_option maxRecDepth 100000 in
set_option maxHeartbeats 4000000 in
theorem spec_l33Clash_run (aA : Label) (aX : Int) (aB : Label) (aY : Int) (r : Bool) (h : spec_l33Clash aA aX aB aY = some r) : SCall Try.prog 50 [.v (.agg [vi aA.At.X, vi aA.At.Y, vi aA.Length, vi aA.Priority]), .v (vi aX), .v (.agg [vi aB.At.X, vi aB.At.Y, vi aB.Length, vi aB.Priority]), .v (vi aY)] ⟨[.v (vb r)], [], false⟩ := by
  refine scall_in Try.func50 rfl [(.tmp 8)] rfl (fun r => ⟨[.v (vb r)], [], false⟩) (r := r) ?_
  unfold spec_l33Clash at h
  refine swp_seq ?_
  refine swp_reg ?_
  refine SRun.ck tbok 3 ⟨27, [(1, vi aX), (3, vi aY), (4, .ref 4 0), (6, .ref 6 0)], [(4, .box [vi aA.At.X, vi aA.At.Y, vi aA.Length, vi aA.Priority]), (6, .box [vi aB.At.X, vi aB.At.Y, vi aB.Length, vi aB.Priority])]⟩ ?_
  refine SRun.nil ?_
  refine nx_n ?_
  refine swp_seq ?_
  refine swp_reg ?_
  refine SRun.ck tbok 2 ⟨27, [(3, vi aY), (6, .ref 6 0), (11, .agg [vi aA.At.X, vi aA.At.Y, vi aA.Length, vi aA.Priority]), (12, vi aX)], [(6, .box [vi aB.At.X, vi aB.At.Y, vi aB.Length, vi aB.Priority])]⟩ ?_
  obtain ⟨x1, hx1, h⟩ := bind_some h
  refine SRun.ls (x_lstep_call (f := 72) (caps := []) (xs := [.agg [vi aA.At.X, vi aA.At.Y, vi aA.Length, vi aA.Priority], vi aX]) (ys := [.agg [vi aA.At.X, vi aA.At.Y, vi aA.Length, vi aA.Priority], vi aX]) (res := ⟨[.own 50 2 x1.length (x1.map ePoint)], [], false⟩) (x := .own 13) (y := some (.arr 50 2 x1.length (x1.map ePoint))) rfl ents72 (spec_l33Points_run aA aX _ hx1) rfl (by intro hc; cases hc)) ?_
  refine SRun.ck tbok 1 ⟨27, [(3, vi aY), (6, .ref 6 0), (9, .own 13)], [(6, .box [vi aB.At.X, vi aB.At.Y, vi aB.Length, vi aB.Priority]), (13, .arr 50 2 x1.length (x1.map ePoint))]⟩ ?_
  refine SRun.nil ?_
  refine nx_n ?_
  refine swp_seq ?_
  refine swp_seq ?_
  refine swp_reg ?_
  refine SRun.ck tbok 1 ⟨27, [(3, vi aY), (6, .ref 6 0), (9, .own 13), (10, vi 0)], [(6, .box [vi aB.At.X, vi aB.At.Y, vi aB.Length, vi aB.Priority]), (13, .arr 50 2 x1.length (x1.map ePoint))]⟩ ?_
  refine SRun.nil ?_
  refine nx_n ?_
  refine swp_seqE (r := r) h (fun j2 => ⟨27, [], []⟩) (fun v3 h => ?_) (fun j2 h => ?_)
  refine swp_blk (a := v3) ?_
  refine swp_lpL (r := v3) (s := (0, ())) _ (fun s4 => ⟨27, [(3, vi aY), (6, .ref 6 0), (9, .own 9), (10, vi s4.1)], [(6, .box [vi aB.At.X, vi aB.At.Y, vi aB.Length, vi aB.Priority]), (9, .arr 50 2 x1.length (x1.map ePoint))]⟩) _ ((Le.sub' ([(3, vi aY), (6, .ref 6 0), (9, .own 13), (10, vi 0)] : List (Nat × SV)) ([(6, .box [vi aB.At.X, vi aB.At.Y, vi aB.Length, vi aB.Priority]), (13, .arr 50 2 x1.length (x1.map ePoint))] : List (Nat × SO)) (by kernel_rfl) (by kernel_rfl)).trans ((Le.ren' (d := 13) (e := 9) (by kernel_rfl) (by kernel_rfl) (by kernel_rfl)).trans (Le.sub0))) h (fun s4 v5 h => ?_)
  refine swp_seq ?_
  refine swp_seq ?_
  refine swp_reg ?_
  refine SRun.ck tbok 4 ⟨27, [(3, vi aY), (6, .ref 6 0), (9, .own 9), (10, vi s4.1), (17, vb (decide (s4.1 < (x1.length : Int))))], [(6, .box [vi aB.At.X, vi aB.At.Y, vi aB.Length, vi aB.Priority]), (9, .arr 50 2 x1.length (x1.map ePoint))]⟩ ?_
  refine SRun.nil ?_
  refine nx_n ?_
  refine swp_cond (b := (decide (s4.1 < (x1.length : Int)))) (by kernel_rfl) (fun hb => ?_) (fun hb => ?_)
  replace h := cond_t hb h
  refine swp_skip ?_
  refine nx_n ?_
  refine swp_seq ?_
  refine swp_seqL (r := v5) h (fun j6 => ⟨27, [(3, vi aY), (6, .ref 6 0), (9, .own 9), (10, vi s4.1)], [(6, .box [vi aB.At.X, vi aB.At.Y, vi aB.Length, vi aB.Priority]), (9, .arr 50 2 x1.length (x1.map ePoint))]⟩) (fun v7 h => ?_) (fun j6 h => ?_)
  refine swp_blk (a := v7) ?_
  refine swp_seq ?_
  refine swp_dr mixed ?_
  refine DGo.chunk' tbok 4 (σ' := ⟨27, [(23, vi s4.1), (22, .own 9), (21, vi aY), (20, .agg [vi aB.At.X, vi aB.At.Y, vi aB.Length, vi aB.Priority]), (3, vi aY), (6, .ref 6 0), (9, .own 9), (10, vi s4.1), (17, vb (decide (s4.1 < (x1.length : Int))))], [(6, .box [vi aB.At.X, vi aB.At.Y, vi aB.Length, vi aB.Priority]), (9, .arr 50 2 x1.length (x1.map ePoint))]⟩) (by kernel_rfl) ?_
  obtain ⟨x8, hx8, h⟩ := bind_some h
  refine DGo.step (x_index_own (d := 9) (L := x1) (f := ePoint) (ti := ti91) (tj := ti50) (e := 50) (e' := 50) (m := 2) (k := .i64) tbok rfl hx8) ?_
  refine DGo.step (x_load_own (d := 9) (m := 2) (j := 0) (L := x1) (f := ePoint) (ti := ti50) (e := 50) (v := .agg [vi x8.X, vi x8.Y]) tbok rfl hx8) ?_
  obtain ⟨x9, hx9, h⟩ := bind_some h
  refine DGo.step (x_lstep_call (f := 73) (caps := []) (xs := [.agg [vi aB.At.X, vi aB.At.Y, vi aB.Length, vi aB.Priority], vi aY, .agg [vi x8.X, vi x8.Y]]) (ys := [.agg [vi aB.At.X, vi aB.At.Y, vi aB.Length, vi aB.Priority], vi aY, .agg [vi x8.X, vi x8.Y]]) (res := ⟨[.v (vb x9)], [], false⟩) (x := vb x9) (y := none) rfl ents73 (spec_l33Covers_run aB aY x8 _ hx9) rfl (by intro hc; cases hc)) ?_
  refine DGo.nil (by kernel_rfl) ?_
  refine nx_n ?_
  refine swp_cond (b := x9) (by kernel_rfl) (fun hb => ?_) (fun hb => ?_)
  replace h := cond_t hb h
  refine swp_seq ?_
  refine swp_reg ?_
  refine SRun.ck tbok 1 ⟨27, [(8, vb true)], []⟩ ?_
  refine SRun.nil ?_
  refine nx_n ?_
  refine swp_ret ?_
  replace h := Option.some.inj h
  subst h
  exact q_br (q_rr (q_rr (q_br (q_rr (q_fr (fin1 (by kernel_rfl) (finV rfl SV.flat_of (holds_t (by kernel_rfl)))))))))
  replace h := cond_f hb h
  refine swp_skip ?_
  replace h := Option.some.inj h
  subst h
  exact q_bn (q_l (Le.sub0))
  refine swp_reg ?_
  refine SRun.ck tbok 3 ⟨27, [(3, vi aY), (6, .ref 6 0), (9, .own 9), (10, vi (w64 (s4.1 + 1)))], [(6, .box [vi aB.At.X, vi aB.At.Y, vi aB.Length, vi aB.Priority]), (9, .arr 50 2 x1.length (x1.map ePoint))]⟩ ?_
  refine SRun.nil ?_
  replace h := Option.some.inj h
  subst h
  exact q_l (Le.sub0)
  replace h := cond_f hb h
  refine swp_exit ?_
  replace h := Option.some.inj h
  subst h
  exact nx_e (q_re (q_bh (q_l (Le.sub0))))
  refine swp_seq ?_
  refine swp_reg ?_
  refine SRun.ck tbok 1 ⟨27, [(8, vb false)], []⟩ ?_
  refine SRun.nil ?_
  refine nx_n ?_
  refine swp_ret ?_
  replace h := Option.some.inj h
  subst h
  exact q_fr (fin1 (by kernel_rfl) (finV rfl SV.flat_of (holds_t (by kernel_rfl))))
theorem ents50 : Ents Try.prog 50 := ents_of Try.func50 (by kernel_rfl) rfl
noncomputable def spec_l33Fits (aList : (List Label)) (aPlacement : (List Int)) (aIndex : Int) (aPosition : Int) : Option (Bool) :=
  ((at' aList aIndex).bind fun x1 => ((spec_l33Allowed aList x1 aPosition).bind fun x2 => (bif (!x2) then some false else (((forN (aPlacement.length : Int) (fun (i5 : Int) (_ : Unit) => (((bif (i5 != aIndex) then ((at' aList i5).bind fun x9 => ((at' aPlacement i5).bind fun x10 => ((at' aList aIndex).bind fun x11 => ((spec_l33Clash x9 x10 x11 aPosition).bind fun x12 => some x12)))) else some false)).bind fun (j13 : Bool) => (bif j13 then some (.inr (.inr false)) else some (.inl ())))) (fun (_ : Unit) => .inl ()) 0 ())).bind (Sum.elim (fun (_ : Unit) => some true) some)))))
set_option maxRecDepth 100000 in
set_option maxHeartbeats 4000000 in
theorem spec_l33Fits_run (aList : (List Label)) (aPlacement : (List Int)) (aIndex : Int) (aPosition : Int) (r : Bool) (h : spec_l33Fits aList aPlacement aIndex aPosition = some r) : SCall Try.prog 38 [.v (vl eLabel aList), .v (vl (eI .i64) aPlacement), .v (vi aIndex), .v (vi aPosition)] ⟨[.v (vb r)], [], false⟩ := by
  refine scall_in Try.func38 rfl [(.tmp 8)] rfl (fun r => ⟨[.v (vb r)], [], false⟩) (r := r) ?_
  unfold spec_l33Fits at h
  refine swp_seq ?_
  refine swp_reg ?_
  refine SRun.ck tbok 1 ⟨43, [(0, vl eLabel aList), (1, vl (eI .i64) aPlacement), (2, vi aIndex), (3, vi aPosition)], []⟩ ?_
  refine SRun.nil ?_
  refine nx_n ?_
  refine swp_seq ?_
  refine swp_seq ?_
  refine swp_reg ?_
  refine SRun.ck tbok 3 ⟨43, [(0, vl eLabel aList), (1, vl (eI .i64) aPlacement), (2, vi aIndex), (3, vi aPosition), (10, vl eLabel aList), (11, vl eLabel aList), (12, vi aIndex)], []⟩ ?_
  obtain ⟨x1, hx1, h⟩ := bind_some h
  refine SRun.ls (x_index (L := aList) (f := eLabel) (ti := ti27) (tj := ti52) (e := 52) (k := .i64) tbok rfl hx1) ?_
  refine SRun.ck tbok 2 ⟨43, [(0, vl eLabel aList), (1, vl (eI .i64) aPlacement), (2, vi aIndex), (3, vi aPosition), (10, vl eLabel aList), (14, .agg [vi x1.At.X, vi x1.At.Y, vi x1.Length, vi x1.Priority]), (15, vi aPosition)], []⟩ ?_
  obtain ⟨x2, hx2, h⟩ := bind_some h
  refine SRun.ls (x_lstep_call (f := 62) (caps := []) (xs := [vl eLabel aList, .agg [vi x1.At.X, vi x1.At.Y, vi x1.Length, vi x1.Priority], vi aPosition]) (ys := [vl eLabel aList, .agg [vi x1.At.X, vi x1.At.Y, vi x1.Length, vi x1.Priority], vi aPosition]) (res := ⟨[.v (vb x2)], [], false⟩) (x := vb x2) (y := none) rfl ents62 (spec_l33Allowed_run aList x1 aPosition _ hx2) rfl (by intro hc; cases hc)) ?_
  refine SRun.ck tbok 1 ⟨43, [(0, vl eLabel aList), (1, vl (eI .i64) aPlacement), (2, vi aIndex), (3, vi aPosition), (17, vb (!x2))], []⟩ ?_
  refine SRun.nil ?_
  refine nx_n ?_
  refine swp_cond (b := (!x2)) (by kernel_rfl) (fun hb => ?_) (fun hb => ?_)
  replace h := cond_t hb h
  refine swp_seq ?_
  refine swp_reg ?_
  refine SRun.ck tbok 1 ⟨43, [(8, vb false)], []⟩ ?_
  refine SRun.nil ?_
  refine nx_n ?_
  refine swp_ret ?_
  replace h := Option.some.inj h
  subst h
  exact nx_r (q_fr (fin1 (by kernel_rfl) (finV rfl SV.flat_of (holds_t (by kernel_rfl)))))
  replace h := cond_f hb h
  refine swp_skip ?_
  refine nx_n ?_
  refine swp_seq ?_
  refine swp_seq ?_
  refine swp_reg ?_
  refine SRun.ck tbok 1 ⟨43, [(0, vl eLabel aList), (1, vl (eI .i64) aPlacement), (2, vi aIndex), (3, vi aPosition), (9, vi 0)], []⟩ ?_
  refine SRun.nil ?_
  refine nx_n ?_
  refine swp_seqE (r := r) h (fun j3 => ⟨43, [], []⟩) (fun v4 h => ?_) (fun j3 h => ?_)
  refine swp_blk (a := v4) ?_
  refine swp_lpL (r := v4) (s := (0, ())) _ (fun s5 => ⟨43, [(0, vl eLabel aList), (1, vl (eI .i64) aPlacement), (2, vi aIndex), (3, vi aPosition), (9, vi s5.1)], []⟩) _ (Le.sub0) h (fun s5 v6 h => ?_)
  refine swp_seq ?_
  refine swp_seq ?_
  refine swp_reg ?_
  refine SRun.ck tbok 4 ⟨43, [(0, vl eLabel aList), (1, vl (eI .i64) aPlacement), (2, vi aIndex), (3, vi aPosition), (9, vi s5.1), (21, vb (decide (s5.1 < (aPlacement.length : Int))))], []⟩ ?_
  refine SRun.nil ?_
  refine nx_n ?_
  refine swp_cond (b := (decide (s5.1 < (aPlacement.length : Int)))) (by kernel_rfl) (fun hb => ?_) (fun hb => ?_)
  replace h := cond_t hb h
  refine swp_skip ?_
  refine nx_n ?_
  refine swp_seq ?_
  refine swp_seqL (r := v6) h (fun j7 => ⟨43, [(0, vl eLabel aList), (1, vl (eI .i64) aPlacement), (2, vi aIndex), (3, vi aPosition), (9, vi s5.1)], []⟩) (fun v8 h => ?_) (fun j7 h => ?_)
  refine swp_blk (a := v8) ?_
  refine swp_seq ?_
  refine swp_drJ mixed h (fun j13 => ⟨43, [(0, vl eLabel aList), (1, vl (eI .i64) aPlacement), (2, vi aIndex), (3, vi aPosition), (9, vi s5.1), (42, vb j13)], []⟩) (fun v14 h => ?_) (fun j13 h => ?_)
  refine DGo.chunk' tbok 4 (σ' := ⟨43, [(27, vb (s5.1 != aIndex)), (26, vb (s5.1 != aIndex)), (25, vi aIndex), (24, vi s5.1), (0, vl eLabel aList), (1, vl (eI .i64) aPlacement), (2, vi aIndex), (3, vi aPosition), (9, vi s5.1), (21, vb (decide (s5.1 < (aPlacement.length : Int))))], []⟩) (by kernel_rfl) ?_
  refine DGo.cut [(27, fun b => b), (26, fun b => b)] (b := (s5.1 != aIndex)) (by kernel_rfl) (fun hb => ?_) (fun hb => ?_)
  replace h := cond_t hb h
  refine DGo.chunk' tbok 2 (σ' := ⟨43, [(29, vi s5.1), (28, vl eLabel aList), (27, vb true), (26, vb true), (25, vi aIndex), (24, vi s5.1), (0, vl eLabel aList), (1, vl (eI .i64) aPlacement), (2, vi aIndex), (3, vi aPosition), (9, vi s5.1), (21, vb (decide (s5.1 < (aPlacement.length : Int))))], []⟩) (by kernel_rfl) ?_
  obtain ⟨x9, hx9, h⟩ := bind_some h
  refine DGo.step (x_index (L := aList) (f := eLabel) (ti := ti27) (tj := ti52) (e := 52) (k := .i64) tbok rfl hx9) ?_
  refine DGo.chunk' tbok 3 (σ' := ⟨43, [(33, vi s5.1), (32, vl (eI .i64) aPlacement), (31, .agg [vi x9.At.X, vi x9.At.Y, vi x9.Length, vi x9.Priority]), (30, .ptr ((eLabel x9).map .tr) 0), (29, vi s5.1), (28, vl eLabel aList), (27, vb true), (26, vb true), (25, vi aIndex), (24, vi s5.1), (0, vl eLabel aList), (1, vl (eI .i64) aPlacement), (2, vi aIndex), (3, vi aPosition), (9, vi s5.1), (21, vb (decide (s5.1 < (aPlacement.length : Int))))], []⟩) (by kernel_rfl) ?_
  obtain ⟨x10, hx10, h⟩ := bind_some h
  refine DGo.step (x_index (L := aPlacement) (f := (eI .i64)) (ti := ti24) (tj := ti2) (e := 2) (k := .i64) tbok rfl hx10) ?_
  refine DGo.chunk' tbok 3 (σ' := ⟨43, [(37, vi aIndex), (36, vl eLabel aList), (35, vi x10), (34, .ptr (((eI .i64) x10).map .tr) 0), (33, vi s5.1), (32, vl (eI .i64) aPlacement), (31, .agg [vi x9.At.X, vi x9.At.Y, vi x9.Length, vi x9.Priority]), (30, .ptr ((eLabel x9).map .tr) 0), (29, vi s5.1), (28, vl eLabel aList), (27, vb true), (26, vb true), (25, vi aIndex), (24, vi s5.1), (0, vl eLabel aList), (1, vl (eI .i64) aPlacement), (2, vi aIndex), (3, vi aPosition), (9, vi s5.1), (21, vb (decide (s5.1 < (aPlacement.length : Int))))], []⟩) (by kernel_rfl) ?_
  obtain ⟨x11, hx11, h⟩ := bind_some h
  refine DGo.step (x_index (L := aList) (f := eLabel) (ti := ti27) (tj := ti52) (e := 52) (k := .i64) tbok rfl hx11) ?_
  refine DGo.chunk' tbok 2 (σ' := ⟨43, [(40, vi aPosition), (39, .agg [vi x11.At.X, vi x11.At.Y, vi x11.Length, vi x11.Priority]), (38, .ptr ((eLabel x11).map .tr) 0), (37, vi aIndex), (36, vl eLabel aList), (35, vi x10), (34, .ptr (((eI .i64) x10).map .tr) 0), (33, vi s5.1), (32, vl (eI .i64) aPlacement), (31, .agg [vi x9.At.X, vi x9.At.Y, vi x9.Length, vi x9.Priority]), (30, .ptr ((eLabel x9).map .tr) 0), (29, vi s5.1), (28, vl eLabel aList), (27, vb true), (26, vb true), (25, vi aIndex), (24, vi s5.1), (0, vl eLabel aList), (1, vl (eI .i64) aPlacement), (2, vi aIndex), (3, vi aPosition), (9, vi s5.1), (21, vb (decide (s5.1 < (aPlacement.length : Int))))], []⟩) (by kernel_rfl) ?_
  obtain ⟨x12, hx12, h⟩ := bind_some h
  refine DGo.step (x_lstep_call (f := 50) (caps := []) (xs := [.agg [vi x9.At.X, vi x9.At.Y, vi x9.Length, vi x9.Priority], vi x10, .agg [vi x11.At.X, vi x11.At.Y, vi x11.Length, vi x11.Priority], vi aPosition]) (ys := [.agg [vi x9.At.X, vi x9.At.Y, vi x9.Length, vi x9.Priority], vi x10, .agg [vi x11.At.X, vi x11.At.Y, vi x11.Length, vi x11.Priority], vi aPosition]) (res := ⟨[.v (vb x12)], [], false⟩) (x := vb x12) (y := none) rfl ents50 (spec_l33Clash_run x9 x10 x11 aPosition _ hx12) rfl (by intro hc; cases hc)) ?_
  refine DGo.chunk' tbok 1 (σ' := ⟨43, [(42, vb x12), (41, vb x12), (40, vi aPosition), (39, .agg [vi x11.At.X, vi x11.At.Y, vi x11.Length, vi x11.Priority]), (38, .ptr ((eLabel x11).map .tr) 0), (37, vi aIndex), (36, vl eLabel aList), (35, vi x10), (34, .ptr (((eI .i64) x10).map .tr) 0), (33, vi s5.1), (32, vl (eI .i64) aPlacement), (31, .agg [vi x9.At.X, vi x9.At.Y, vi x9.Length, vi x9.Priority]), (30, .ptr ((eLabel x9).map .tr) 0), (29, vi s5.1), (28, vl eLabel aList), (27, vb true), (26, vb true), (25, vi aIndex), (24, vi s5.1), (0, vl eLabel aList), (1, vl (eI .i64) aPlacement), (2, vi aIndex), (3, vi aPosition), (9, vi s5.1), (21, vb (decide (s5.1 < (aPlacement.length : Int))))], []⟩) (by kernel_rfl) ?_
  refine DGo.nil (by kernel_rfl) ?_
  replace h := Option.some.inj h
  subst h
  exact Le.sub0
  replace h := cond_f hb h
  refine DGo.chunk' tbok 15 (σ' := ⟨43, [(42, vb false), (41, .tup []), (40, .tup []), (39, .tup []), (38, .tup []), (37, .tup []), (36, .tup []), (35, .tup []), (34, .tup []), (33, .tup []), (32, .tup []), (31, .tup []), (30, .tup []), (29, .tup []), (28, .tup []), (27, vb false), (26, vb false), (25, vi aIndex), (24, vi s5.1), (0, vl eLabel aList), (1, vl (eI .i64) aPlacement), (2, vi aIndex), (3, vi aPosition), (9, vi s5.1), (21, vb (decide (s5.1 < (aPlacement.length : Int))))], []⟩) (by kernel_rfl) ?_
  refine DGo.nil (by kernel_rfl) ?_
  replace h := Option.some.inj h
  subst h
  exact Le.sub0
  refine swp_cond (b := j13) (by kernel_rfl) (fun hb => ?_) (fun hb => ?_)
  replace h := cond_t hb h
  refine swp_seq ?_
  refine swp_reg ?_
  refine SRun.ck tbok 1 ⟨43, [(8, vb false)], []⟩ ?_
  refine SRun.nil ?_
  refine nx_n ?_
  refine swp_ret ?_
  replace h := Option.some.inj h
  subst h
  exact q_br (q_rr (q_rr (q_br (q_rr (q_fr (fin1 (by kernel_rfl) (finV rfl SV.flat_of (holds_t (by kernel_rfl)))))))))
  replace h := cond_f hb h
  refine swp_skip ?_
  replace h := Option.some.inj h
  subst h
  exact q_bn (q_l (Le.sub0))
  refine swp_reg ?_
  refine SRun.ck tbok 3 ⟨43, [(0, vl eLabel aList), (1, vl (eI .i64) aPlacement), (2, vi aIndex), (3, vi aPosition), (9, vi (w64 (s5.1 + 1)))], []⟩ ?_
  refine SRun.nil ?_
  replace h := Option.some.inj h
  subst h
  exact q_l (Le.sub0)
  replace h := cond_f hb h
  refine swp_exit ?_
  replace h := Option.some.inj h
  subst h
  exact nx_e (q_re (q_bh (q_l (Le.sub0))))
  refine swp_seq ?_
  refine swp_reg ?_
  refine SRun.ck tbok 1 ⟨43, [(8, vb true)], []⟩ ?_
  refine SRun.nil ?_
  refine nx_n ?_
  refine swp_ret ?_
  replace h := Option.some.inj h
  subst h
  exact q_fr (fin1 (by kernel_rfl) (finV rfl SV.flat_of (holds_t (by kernel_rfl))))
theorem ents38 : Ents Try.prog 38 := ents_of Try.func38 (by kernel_rfl) rfl
noncomputable def spec_GreedyPlacement (aList : (List Label)) : Option ((List Int) × Int) :=
  ((spec_AreLabels aList).bind fun x1 => (bif (!x1) then some (([] : List Int), 1) else (((forS (aList.length : Int) (fun (_ : Int) (s4 : (List Int)) => ((app' s4 ([4] : List Int)).bind fun x8 => some x8)) (fun (s4 : (List Int)) => s4) 0 ([] : List Int))).bind fun (j2 : (List Int)) => (((loop (fun (s11 : Int × (List Int)) => (bif (decide (s11.1 ≥ 1)) then (((forS (aList.length : Int) (fun (i15 : Int) (s15 : (List Int)) => ((at' aList i15).bind fun x19 => (bif (x19.Priority != s11.1) then some s15 else (forN 4 (fun (i20 : Int) (s20 : (List Int)) => ((spec_l33Fits aList s20 i15 i20).bind fun x24 => (bif x24 then ((at' s20 i15).bind fun _ => some (.inr (List.set s20 (Int.toNat i15) i20))) else some (.inl s20)))) (fun (s20 : (List Int)) => s20) 0 s15)))) (fun (s15 : (List Int)) => s15) 0 s11.2)).bind fun (j13 : (List Int)) => some (.inl ((w64 (s11.1 - 1)), j13))) else some (.inr s11.2))) (9, j2))).bind fun (j9 : (List Int)) => some (j9, 0)))))
set_option maxRecDepth 100000 in
set_option maxHeartbeats 4000000 in
theorem spec_GreedyPlacement_run (aList : (List Label)) (r : (List Int) × Int) (h : spec_GreedyPlacement aList = some r) : SCall Try.prog 15 [.v (vl eLabel aList)] ⟨[.own 2 1 r.1.length (r.1.map (eI .i64)), .v (vi r.2)], [], false⟩ := by
  refine scall_in Try.func15 rfl [(.tmp 2), (.tmp 3)] rfl (fun r => ⟨[.own 2 1 r.1.length (r.1.map (eI .i64)), .v (vi r.2)], [], false⟩) (r := r) ?_
  unfold spec_GreedyPlacement at h
  refine swp_seq ?_
  refine swp_reg ?_
  refine SRun.ck tbok 2 ⟨53, [(0, vl eLabel aList)], []⟩ ?_
  refine SRun.nil ?_
  refine nx_n ?_
  refine swp_seq ?_
  refine swp_seq ?_
  refine swp_reg ?_
  refine SRun.ck tbok 1 ⟨53, [(0, vl eLabel aList), (9, vl eLabel aList)], []⟩ ?_
  obtain ⟨x1, hx1, h⟩ := bind_some h
  refine SRun.ls (x_lstep_call (f := 29) (caps := []) (xs := [vl eLabel aList]) (ys := [vl eLabel aList]) (res := ⟨[.v (vb x1)], [], false⟩) (x := vb x1) (y := none) rfl ents29 (spec_AreLabels_run aList _ hx1) rfl (by intro hc; cases hc)) ?_
  refine SRun.ck tbok 1 ⟨53, [(0, vl eLabel aList), (11, vb (!x1))], []⟩ ?_
  refine SRun.nil ?_
  refine nx_n ?_
  refine swp_cond (b := (!x1)) (by kernel_rfl) (fun hb => ?_) (fun hb => ?_)
  replace h := cond_t hb h
  refine swp_seq ?_
  refine swp_reg ?_
  refine SRun.ck tbok 2 ⟨53, [(2, .own 2), (3, vi 1)], [(2, .arr 2 1 ([] : List Int).length (([] : List Int).map (eI .i64)))]⟩ ?_
  refine SRun.nil ?_
  refine nx_n ?_
  refine swp_ret ?_
  replace h := Option.some.inj h
  subst h
  exact nx_r (q_fr (fin2 (by kernel_rfl) (finO (d := 2) (holds_t (by kernel_rfl)) (by kernel_rfl) (flat_map (eI_flat .i64) _) (by kernel_rfl)) (finV rfl SV.flat_of (holds_t (by kernel_rfl)))))
  replace h := cond_f hb h
  refine swp_skip ?_
  refine nx_n ?_
  refine swp_seq ?_
  refine swp_reg ?_
  refine SRun.ck tbok 2 ⟨53, [(0, vl eLabel aList), (4, .own 12)], [(12, .arr 2 1 ([] : List Int).length (([] : List Int).map (eI .i64)))]⟩ ?_
  refine SRun.nil ?_
  refine nx_n ?_
  refine swp_seq ?_
  refine swp_seq ?_
  refine swp_reg ?_
  refine SRun.ck tbok 1 ⟨53, [(0, vl eLabel aList), (4, .own 12), (5, vi 0)], [(12, .arr 2 1 ([] : List Int).length (([] : List Int).map (eI .i64)))]⟩ ?_
  refine SRun.nil ?_
  refine nx_n ?_
  refine swp_seqJ h (fun j2 => ⟨53, [(0, vl eLabel aList), (4, .own 4)], [(4, .arr 2 1 j2.length (j2.map (eI .i64)))]⟩) (fun v3 h => ?_) (fun j2 h => ?_)
  refine swp_blk (a := v3) ?_
  refine swp_lpL (r := v3) (s := (0, ([] : List Int))) _ (fun s4 => ⟨53, [(0, vl eLabel aList), (4, .own 4), (5, vi s4.1)], [(4, .arr 2 1 s4.2.length (s4.2.map (eI .i64)))]⟩) _ ((Le.sub' ([(0, vl eLabel aList), (4, .own 12), (5, vi 0)] : List (Nat × SV)) ([(12, .arr 2 1 ([] : List Int).length (([] : List Int).map (eI .i64)))] : List (Nat × SO)) (by kernel_rfl) (by kernel_rfl)).trans ((Le.ren' (d := 12) (e := 4) (by kernel_rfl) (by kernel_rfl) (by kernel_rfl)).trans (Le.sub0))) h (fun s4 v5 h => ?_)
  refine swp_seq ?_
  refine swp_seq ?_
  refine swp_reg ?_
  refine SRun.ck tbok 4 ⟨53, [(0, vl eLabel aList), (4, .own 4), (5, vi s4.1), (16, vb (decide (s4.1 < (aList.length : Int))))], [(4, .arr 2 1 s4.2.length (s4.2.map (eI .i64)))]⟩ ?_
  refine SRun.nil ?_
  refine nx_n ?_
  refine swp_cond (b := (decide (s4.1 < (aList.length : Int)))) (by kernel_rfl) (fun hb => ?_) (fun hb => ?_)
  replace h := cond_t hb h
  refine swp_skip ?_
  refine nx_n ?_
  refine swp_seq ?_
  refine swp_seqJ h (fun j6 => ⟨53, [(0, vl eLabel aList), (4, .own 4), (5, vi s4.1)], [(4, .arr 2 1 j6.length (j6.map (eI .i64)))]⟩) (fun v7 h => ?_) (fun j6 h => ?_)
  refine swp_blk (a := v7) ?_
  refine swp_reg ?_
  refine SRun.ck tbok 2 ⟨53, [(0, vl eLabel aList), (5, vi s4.1), (19, .own 4), (20, .own 20)], [(4, .arr 2 1 s4.2.length (s4.2.map (eI .i64))), (20, .arr 2 1 ([4] : List Int).length (([4] : List Int).map (eI .i64)))]⟩ ?_
  obtain ⟨x8, hx8, h⟩ := bind_some h
  refine SRun.estep (x_append (f := (eI .i64)) (t := 24) (ti := ti24) (tj := ti2) (zs := [.int .i64 0]) (e := 2) (m := 1) (d := 4) (xv := .own 20) hx8 tbok rfl rfl rfl rfl (x_src_o (e := 2))) ?_
  refine SRun.ck tbok 1 ⟨53, [(0, vl eLabel aList), (4, .own 21), (5, vi s4.1)], [(21, .arr 2 1 x8.length (x8.map (eI .i64)))]⟩ ?_
  refine SRun.nil ?_
  replace h := Option.some.inj h
  subst h
  exact q_bn (q_j ((Le.sub' ([(0, vl eLabel aList), (4, .own 21), (5, vi s4.1)] : List (Nat × SV)) ([(21, .arr 2 1 x8.length (x8.map (eI .i64)))] : List (Nat × SO)) (by kernel_rfl) (by kernel_rfl)).trans ((Le.ren' (d := 21) (e := 4) (by kernel_rfl) (by kernel_rfl) (by kernel_rfl)).trans (Le.sub0))))
  refine swp_reg ?_
  refine SRun.ck tbok 3 ⟨53, [(0, vl eLabel aList), (4, .own 4), (5, vi (w64 (s4.1 + 1)))], [(4, .arr 2 1 j6.length (j6.map (eI .i64)))]⟩ ?_
  refine SRun.nil ?_
  replace h := Option.some.inj h
  subst h
  exact q_l (Le.sub0)
  replace h := cond_f hb h
  refine swp_exit ?_
  replace h := Option.some.inj h
  subst h
  exact nx_e (q_re (q_bh (q_j (Le.sub0))))
  refine swp_seq ?_
  refine swp_seq ?_
  refine swp_reg ?_
  refine SRun.ck tbok 1 ⟨53, [(0, vl eLabel aList), (4, .own 4), (6, vi 9)], [(4, .arr 2 1 j2.length (j2.map (eI .i64)))]⟩ ?_
  refine SRun.nil ?_
  refine nx_n ?_
  refine swp_seqJ h (fun j9 => ⟨53, [(4, .own 4)], [(4, .arr 2 1 j9.length (j9.map (eI .i64)))]⟩) (fun v10 h => ?_) (fun j9 h => ?_)
  refine swp_blk (a := v10) ?_
  refine swp_lpL (r := v10) (s := (9, j2)) _ (fun s11 => ⟨53, [(0, vl eLabel aList), (4, .own 4), (6, vi s11.1)], [(4, .arr 2 1 s11.2.length (s11.2.map (eI .i64)))]⟩) _ (Le.sub0) h (fun s11 v12 h => ?_)
  refine swp_seq ?_
  refine swp_seq ?_
  refine swp_reg ?_
  refine SRun.ck tbok 2 ⟨53, [(0, vl eLabel aList), (4, .own 4), (6, vi s11.1), (23, vb (decide (s11.1 ≥ 1)))], [(4, .arr 2 1 s11.2.length (s11.2.map (eI .i64)))]⟩ ?_
  refine SRun.nil ?_
  refine nx_n ?_
  refine swp_cond (b := (decide (s11.1 ≥ 1))) (by kernel_rfl) (fun hb => ?_) (fun hb => ?_)
  replace h := cond_t hb h
  refine swp_skip ?_
  refine nx_n ?_
  refine swp_seq ?_
  refine swp_seqJ h (fun j13 => ⟨53, [(0, vl eLabel aList), (4, .own 4), (6, vi s11.1)], [(4, .arr 2 1 j13.length (j13.map (eI .i64)))]⟩) (fun v14 h => ?_) (fun j13 h => ?_)
  refine swp_blk (a := v14) ?_
  refine swp_seq ?_
  refine swp_reg ?_
  refine SRun.ck tbok 1 ⟨53, [(0, vl eLabel aList), (4, .own 4), (6, vi s11.1), (7, vi 0)], [(4, .arr 2 1 s11.2.length (s11.2.map (eI .i64)))]⟩ ?_
  refine SRun.nil ?_
  refine nx_n ?_
  refine swp_blk (a := v14) ?_
  refine swp_lpL (r := v14) (s := (0, s11.2)) _ (fun s15 => ⟨53, [(0, vl eLabel aList), (4, .own 4), (6, vi s11.1), (7, vi s15.1)], [(4, .arr 2 1 s15.2.length (s15.2.map (eI .i64)))]⟩) _ (Le.sub0) h (fun s15 v16 h => ?_)
  refine swp_seq ?_
  refine swp_seq ?_
  refine swp_reg ?_
  refine SRun.ck tbok 4 ⟨53, [(0, vl eLabel aList), (4, .own 4), (6, vi s11.1), (7, vi s15.1), (29, vb (decide (s15.1 < (aList.length : Int))))], [(4, .arr 2 1 s15.2.length (s15.2.map (eI .i64)))]⟩ ?_
  refine SRun.nil ?_
  refine nx_n ?_
  refine swp_cond (b := (decide (s15.1 < (aList.length : Int)))) (by kernel_rfl) (fun hb => ?_) (fun hb => ?_)
  replace h := cond_t hb h
  refine swp_skip ?_
  refine nx_n ?_
  refine swp_seq ?_
  refine swp_seqJ h (fun j17 => ⟨53, [(0, vl eLabel aList), (4, .own 4), (6, vi s11.1), (7, vi s15.1)], [(4, .arr 2 1 j17.length (j17.map (eI .i64)))]⟩) (fun v18 h => ?_) (fun j17 h => ?_)
  refine swp_blk (a := v18) ?_
  refine swp_seq ?_
  refine swp_seq ?_
  refine swp_reg ?_
  refine SRun.ck tbok 2 ⟨53, [(0, vl eLabel aList), (4, .own 4), (6, vi s11.1), (7, vi s15.1), (32, vl eLabel aList), (33, vi s15.1)], [(4, .arr 2 1 s15.2.length (s15.2.map (eI .i64)))]⟩ ?_
  obtain ⟨x19, hx19, h⟩ := bind_some h
  refine SRun.ls (x_index (L := aList) (f := eLabel) (ti := ti27) (tj := ti52) (e := 52) (k := .i64) tbok rfl hx19) ?_
  refine SRun.ck tbok 4 ⟨53, [(0, vl eLabel aList), (4, .own 4), (6, vi s11.1), (7, vi s15.1), (38, vb (x19.Priority != s11.1))], [(4, .arr 2 1 s15.2.length (s15.2.map (eI .i64)))]⟩ ?_
  refine SRun.nil ?_
  refine nx_n ?_
  refine swp_cond (b := (x19.Priority != s11.1)) (by kernel_rfl) (fun hb => ?_) (fun hb => ?_)
  replace h := cond_t hb h
  refine swp_exit ?_
  replace h := Option.some.inj h
  subst h
  exact nx_e (q_bh (q_j (Le.sub0)))
  replace h := cond_f hb h
  refine swp_skip ?_
  refine nx_n ?_
  refine swp_seq ?_
  refine swp_reg ?_
  refine SRun.ck tbok 1 ⟨53, [(0, vl eLabel aList), (4, .own 4), (6, vi s11.1), (7, vi s15.1), (8, vi 0)], [(4, .arr 2 1 s15.2.length (s15.2.map (eI .i64)))]⟩ ?_
  refine SRun.nil ?_
  refine nx_n ?_
  refine swp_blk (a := v18) ?_
  refine swp_lpL (r := v18) (s := (0, s15.2)) _ (fun s20 => ⟨53, [(0, vl eLabel aList), (4, .own 4), (6, vi s11.1), (7, vi s15.1), (8, vi s20.1)], [(4, .arr 2 1 s20.2.length (s20.2.map (eI .i64)))]⟩) _ (Le.sub0) h (fun s20 v21 h => ?_)
  refine swp_seq ?_
  refine swp_seq ?_
  refine swp_reg ?_
  refine SRun.ck tbok 2 ⟨53, [(0, vl eLabel aList), (4, .own 4), (6, vi s11.1), (7, vi s15.1), (8, vi s20.1), (40, vb (decide (s20.1 < 4)))], [(4, .arr 2 1 s20.2.length (s20.2.map (eI .i64)))]⟩ ?_
  refine SRun.nil ?_
  refine nx_n ?_
  refine swp_cond (b := (decide (s20.1 < 4))) (by kernel_rfl) (fun hb => ?_) (fun hb => ?_)
  replace h := cond_t hb h
  refine swp_skip ?_
  refine nx_n ?_
  refine swp_seq ?_
  refine swp_seqL (r := v21) h (fun j22 => ⟨53, [(0, vl eLabel aList), (4, .own 4), (6, vi s11.1), (7, vi s15.1), (8, vi s20.1)], [(4, .arr 2 1 j22.length (j22.map (eI .i64)))]⟩) (fun v23 h => ?_) (fun j22 h => ?_)
  refine swp_blk (a := v23) ?_
  refine swp_seq ?_
  refine swp_reg ?_
  refine SRun.ck tbok 4 ⟨53, [(0, vl eLabel aList), (4, .own 4), (6, vi s11.1), (7, vi s15.1), (8, vi s20.1), (43, vl eLabel aList), (44, .own 4), (45, vi s15.1), (46, vi s20.1)], [(4, .arr 2 1 s20.2.length (s20.2.map (eI .i64)))]⟩ ?_
  obtain ⟨x24, hx24, h⟩ := bind_some h
  refine SRun.ls (x_lstep_call (f := 38) (caps := []) (xs := [vl eLabel aList, .own 4, vi s15.1, vi s20.1]) (ys := [vl eLabel aList, vl (eI .i64) s20.2, vi s15.1, vi s20.1]) (res := ⟨[.v (vb x24)], [], false⟩) (x := vb x24) (y := none) rfl ents38 (spec_l33Fits_run aList s20.2 s15.1 s20.1 _ hx24) rfl (by intro hc; cases hc)) ?_
  refine SRun.nil ?_
  refine nx_n ?_
  refine swp_cond (b := x24) (by kernel_rfl) (fun hb => ?_) (fun hb => ?_)
  replace h := cond_t hb h
  refine swp_seq ?_
  refine swp_reg ?_
  refine SRun.ck tbok 3 ⟨53, [(0, vl eLabel aList), (4, .own 4), (6, vi s11.1), (7, vi s15.1), (48, .own 4), (49, vi s15.1), (50, vi s20.1)], [(4, .arr 2 1 s20.2.length (s20.2.map (eI .i64)))]⟩ ?_
  obtain ⟨x25, hx25, h⟩ := bind_some h
  refine SRun.ls (x_index_own (d := 4) (L := s20.2) (f := (eI .i64)) (ti := ti24) (tj := ti2) (e := 2) (e' := 2) (m := 1) (k := .i64) tbok rfl hx25) ?_
  refine SRun.estep (x_store_own (d := 4) (m := 1) (j := 0) (L := s20.2) (f := (eI .i64)) (x := s20.1) (z := x25) (ti := ti2) (e := 2) (ts := [.int .i64 s20.1]) (vs := [vi s20.1]) (v := vi s20.1) tbok rfl rfl hx25) ?_
  refine SRun.nil ?_
  refine nx_n ?_
  refine swp_exit ?_
  replace h := Option.some.inj h
  subst h
  exact q_bm rfl (q_re (q_re (q_bh (q_bn (q_j (Le.sub0))))))
  replace h := cond_f hb h
  refine swp_skip ?_
  replace h := Option.some.inj h
  subst h
  exact q_bn (q_l (Le.sub0))
  refine swp_reg ?_
  refine SRun.ck tbok 3 ⟨53, [(0, vl eLabel aList), (4, .own 4), (6, vi s11.1), (7, vi s15.1), (8, vi (w64 (s20.1 + 1)))], [(4, .arr 2 1 j22.length (j22.map (eI .i64)))]⟩ ?_
  refine SRun.nil ?_
  replace h := Option.some.inj h
  subst h
  exact q_l (Le.sub0)
  replace h := cond_f hb h
  refine swp_exit ?_
  replace h := Option.some.inj h
  subst h
  exact nx_e (q_re (q_bh (q_bn (q_j (Le.sub0)))))
  refine swp_reg ?_
  refine SRun.ck tbok 3 ⟨53, [(0, vl eLabel aList), (4, .own 4), (6, vi s11.1), (7, vi (w64 (s15.1 + 1)))], [(4, .arr 2 1 j17.length (j17.map (eI .i64)))]⟩ ?_
  refine SRun.nil ?_
  replace h := Option.some.inj h
  subst h
  exact q_l (Le.sub0)
  replace h := cond_f hb h
  refine swp_exit ?_
  replace h := Option.some.inj h
  subst h
  exact nx_e (q_re (q_bh (q_bn (q_j (Le.sub0)))))
  refine swp_reg ?_
  refine SRun.ck tbok 3 ⟨53, [(0, vl eLabel aList), (4, .own 4), (6, vi (w64 (s11.1 - 1)))], [(4, .arr 2 1 j13.length (j13.map (eI .i64)))]⟩ ?_
  refine SRun.nil ?_
  replace h := Option.some.inj h
  subst h
  exact q_l (Le.sub0)
  replace h := cond_f hb h
  refine swp_exit ?_
  replace h := Option.some.inj h
  subst h
  exact nx_e (q_re (q_bh (q_j (Le.sub0))))
  refine swp_seq ?_
  refine swp_reg ?_
  refine SRun.ck tbok 3 ⟨53, [(2, .own 4), (3, vi 0)], [(4, .arr 2 1 j9.length (j9.map (eI .i64)))]⟩ ?_
  refine SRun.nil ?_
  refine nx_n ?_
  refine swp_ret ?_
  replace h := Option.some.inj h
  subst h
  exact q_fr (fin2 (by kernel_rfl) (finO (d := 4) (holds_t (by kernel_rfl)) (by kernel_rfl) (flat_map (eI_flat .i64) _) (by kernel_rfl)) (finV rfl SV.flat_of (holds_t (by kernel_rfl))))
theorem ents15 : Ents Try.prog 15 := ents_of Try.func15 (by kernel_rfl) rfl
noncomputable def impl_within (aX : Int) (aLow : Int) (aHigh : Int) : Option (Bool) :=
  some ((decide (aX ≥ aLow)) && (decide (aX ≤ aHigh)))
set_option maxRecDepth 100000 in
set_option maxHeartbeats 4000000 in
theorem impl_within_run (aX : Int) (aLow : Int) (aHigh : Int) (r : Bool) (h : impl_within aX aLow aHigh = some r) : SCall Try.prog 52 [.v (vi aX), .v (vi aLow), .v (vi aHigh)] ⟨[.v (vb r)], [], false⟩ := by
  refine scall_in Try.func52 rfl [(.tmp 6)] rfl (fun r => ⟨[.v (vb r)], [], false⟩) (r := r) ?_
  unfold impl_within at h
  refine swp_seq ?_
  refine swp_reg ?_
  refine SRun.ck tbok 1 ⟨15, [(0, vi aX), (1, vi aLow), (2, vi aHigh)], []⟩ ?_
  refine SRun.nil ?_
  refine nx_n ?_
  refine swp_seq ?_
  refine swp_regP ⟨15, [(6, vb ((decide (aX ≥ aLow)) && (decide (aX ≤ aHigh))))], []⟩ ?_ ?_
  refine SRun.ck tbok 4 ⟨15, [(0, vi aX), (2, vi aHigh), (10, vb (decide (aX ≥ aLow)))], []⟩ ?_
  generalize (decide (aX ≥ aLow)) = bb
  cases bb
  refine SRun.ck tbok 5 ⟨15, [(6, vb false)], []⟩ ?_
  exact SRun.nil (Le.sub0)
  refine SRun.ck tbok 5 ⟨15, [(6, vb (decide (aX ≤ aHigh)))], []⟩ ?_
  exact SRun.nil (Le.sub0)
  refine swp_ret ?_
  replace h := Option.some.inj h
  subst h
  exact q_fr (fin1 (by kernel_rfl) (finV rfl SV.flat_of (holds_t (by kernel_rfl))))
theorem ents52 : Ents Try.prog 52 := ents_of Try.func52 (by kernel_rfl) rfl
noncomputable def impl_IsPoint (aP : Point) : Option (Bool) :=
  ((((impl_within aP.X (-1000) 1000).bind fun x1 => (bif x1 then ((impl_within aP.Y (-1000) 1000).bind fun x2 => some x2) else some false))).bind fun (j3 : Bool) => some j3)
set_option maxRecDepth 100000 in
set_option maxHeartbeats 4000000 in
theorem impl_IsPoint_run (aP : Point) (r : Bool) (h : impl_IsPoint aP = some r) : SCall Try.prog 51 [.v (.agg [vi aP.X, vi aP.Y])] ⟨[.v (vb r)], [], false⟩ := by
  refine scall_in Try.func51 rfl [(.tmp 2)] rfl (fun r => ⟨[.v (vb r)], [], false⟩) (r := r) ?_
  unfold impl_IsPoint at h
  refine swp_seq ?_
  refine swp_reg ?_
  refine SRun.ck tbok 2 ⟨11, [(1, .ref 1 0)], [(1, .box [vi aP.X, vi aP.Y])]⟩ ?_
  refine SRun.nil ?_
  refine nx_n ?_
  refine swp_seq ?_
  refine swp_regJ h (fun j3 => ⟨11, [(2, vb j3)], []⟩) (fun v4 h => ?_) (fun j3 h => ?_)
  refine SRun.ck tbok 2 ⟨11, [(1, .ref 1 0), (4, vi aP.X)], [(1, .box [vi aP.X, vi aP.Y])]⟩ ?_
  obtain ⟨x1, hx1, h⟩ := bind_some h
  refine SRun.ls (x_lstep_call (f := 52) (caps := []) (xs := [vi aP.X, vi (-1000), vi 1000]) (ys := [vi aP.X, vi (-1000), vi 1000]) (res := ⟨[.v (vb x1)], [], false⟩) (x := vb x1) (y := none) rfl ents52 (impl_within_run aP.X (-1000) 1000 _ hx1) rfl (by intro hc; cases hc)) ?_
  refine SRun.ck tbok 1 ⟨11, [(1, .ref 1 0), (6, vb x1)], [(1, .box [vi aP.X, vi aP.Y])]⟩ ?_
  refine SRun.cut [(6, fun b => b)] (b := x1) (by kernel_rfl) (fun hb => ?_) (fun hb => ?_)
  replace h := cond_t hb h
  refine SRun.ck tbok 2 ⟨11, [(6, vb true), (8, vi aP.Y)], []⟩ ?_
  obtain ⟨x2, hx2, h⟩ := bind_some h
  refine SRun.ls (x_lstep_call (f := 52) (caps := []) (xs := [vi aP.Y, vi (-1000), vi 1000]) (ys := [vi aP.Y, vi (-1000), vi 1000]) (res := ⟨[.v (vb x2)], [], false⟩) (x := vb x2) (y := none) rfl ents52 (impl_within_run aP.Y (-1000) 1000 _ hx2) rfl (by intro hc; cases hc)) ?_
  refine SRun.ck tbok 2 ⟨11, [(2, vb x2)], []⟩ ?_
  refine SRun.nil ?_
  replace h := Option.some.inj h
  subst h
  exact Le.sub0
  replace h := cond_f hb h
  refine SRun.ck tbok 5 ⟨11, [(2, vb false)], []⟩ ?_
  refine SRun.nil ?_
  replace h := Option.some.inj h
  subst h
  exact Le.sub0
  refine swp_ret ?_
  replace h := Option.some.inj h
  subst h
  exact q_fr (fin1 (by kernel_rfl) (finV rfl SV.flat_of (holds_t (by kernel_rfl))))
theorem ents51 : Ents Try.prog 51 := ents_of Try.func51 (by kernel_rfl) rfl
noncomputable def impl_isAt_1 (aL : Label) (c0 : Point) : Option (Bool) :=
  some ((aL.At.X == c0.X) && (aL.At.Y == c0.Y))
set_option maxRecDepth 100000 in
set_option maxHeartbeats 4000000 in
theorem impl_isAt_1_run (aL : Label) (c0 : Point) (r : Bool) (h : impl_isAt_1 aL c0 = some r) : SCall Try.prog 75 [.v (.agg [vi aL.At.X, vi aL.At.Y, vi aL.Length, vi aL.Priority]), .v (.ptr [vi c0.X, vi c0.Y] 0)] ⟨[.v (vb r)], [], false⟩ := by
  refine scall_in Try.func75 rfl [(.tmp 3)] rfl (fun r => ⟨[.v (vb r)], [], false⟩) (r := r) ?_
  unfold impl_isAt_1 at h
  refine swp_seq ?_
  refine swp_reg ?_
  refine SRun.ck tbok 2 ⟨8, [(1, .ptr [vi c0.X, vi c0.Y] 0), (2, .ref 2 0)], [(2, .box [vi aL.At.X, vi aL.At.Y, vi aL.Length, vi aL.Priority])]⟩ ?_
  refine SRun.nil ?_
  refine nx_n ?_
  refine swp_seq ?_
  refine swp_reg ?_
  refine SRun.ck tbok 3 ⟨8, [(5, .agg [vi aL.At.X, vi aL.At.Y]), (6, .agg [vi c0.X, vi c0.Y])], []⟩ ?_
  refine SRun.ls (x_lstep_eq tbok false (xs := [vi aL.At.X, vi aL.At.Y]) (ys := [vi c0.X, vi c0.Y]) (b := ((aL.At.X == c0.X) && (aL.At.Y == c0.Y))) rfl) ?_
  refine SRun.ck tbok 1 ⟨8, [(3, vb ((aL.At.X == c0.X) && (aL.At.Y == c0.Y)))], []⟩ ?_
  refine SRun.nil ?_
  refine nx_n ?_
  refine swp_ret ?_
  replace h := Option.some.inj h
  subst h
  exact q_fr (fin1 (by kernel_rfl) (finV rfl SV.flat_of (holds_t (by kernel_rfl))))
theorem ents75 : Ents Try.prog 75 := ents_of Try.func75 (by kernel_rfl) rfl
noncomputable def slices_IndexFunc_Label_impl_isAt_1 (aS : (List Label)) (aF0 : Point) : Option (Int) :=
  (((forN (aS.length : Int) (fun (i3 : Int) (_ : Unit) => ((at' aS i3).bind fun x7 => ((impl_isAt_1 x7 aF0).bind fun x8 => (bif x8 then some (.inr (.inr i3)) else some (.inl ()))))) (fun (_ : Unit) => .inl ()) 0 ())).bind (Sum.elim (fun (_ : Unit) => some (-1)) some))
set_option maxRecDepth 100000 in
set_option maxHeartbeats 4000000 in
theorem slices_IndexFunc_Label_impl_isAt_1_run (aS : (List Label)) (aF0 : Point) (r : Int) (h : slices_IndexFunc_Label_impl_isAt_1 aS aF0 = some r) : SCall Try.prog 83 [.v (vl eLabel aS), .v (.clo 75 [.ptr [vi aF0.X, vi aF0.Y] 0])] ⟨[.v (vi r)], [], false⟩ := by
  refine scall_in Try.func83 rfl [(.tmp 4)] rfl (fun r => ⟨[.v (vi r)], [], false⟩) (r := r) ?_
  unfold slices_IndexFunc_Label_impl_isAt_1 at h
  refine swp_seq ?_
  refine swp_reg ?_
  refine SRun.ck tbok 1 ⟨19, [(0, vl eLabel aS), (1, .clo 75 [.ptr [vi aF0.X, vi aF0.Y] 0])], []⟩ ?_
  refine SRun.nil ?_
  refine nx_n ?_
  refine swp_seq ?_
  refine swp_seq ?_
  refine swp_reg ?_
  refine SRun.ck tbok 3 ⟨19, [(0, vl eLabel aS), (1, .clo 75 [.ptr [vi aF0.X, vi aF0.Y] 0]), (7, vi (aS.length : Int)), (8, vi 0)], []⟩ ?_
  refine SRun.nil ?_
  refine nx_n ?_
  refine swp_seqE (r := r) h (fun j1 => ⟨19, [], []⟩) (fun v2 h => ?_) (fun j1 h => ?_)
  refine swp_blk (a := v2) ?_
  refine swp_lpL (r := v2) (s := (0, ())) _ (fun s3 => ⟨19, [(0, vl eLabel aS), (1, .clo 75 [.ptr [vi aF0.X, vi aF0.Y] 0]), (7, vi (aS.length : Int)), (8, vi s3.1)], []⟩) _ (Le.sub0) h (fun s3 v4 h => ?_)
  refine swp_seq ?_
  refine swp_reg ?_
  refine SRun.ck tbok 1 ⟨19, [(0, vl eLabel aS), (1, .clo 75 [.ptr [vi aF0.X, vi aF0.Y] 0]), (7, vi (aS.length : Int)), (8, vi s3.1), (9, vb (decide (s3.1 < (aS.length : Int))))], []⟩ ?_
  refine SRun.nil ?_
  refine nx_n ?_
  refine swp_seq ?_
  refine swp_cond (b := (decide (s3.1 < (aS.length : Int)))) (by kernel_rfl) (fun hb => ?_) (fun hb => ?_)
  replace h := cond_t hb h
  refine swp_skip ?_
  refine nx_n ?_
  refine swp_seq ?_
  refine swp_seqL (r := v4) h (fun j5 => ⟨19, [(0, vl eLabel aS), (1, .clo 75 [.ptr [vi aF0.X, vi aF0.Y] 0]), (7, vi (aS.length : Int)), (8, vi s3.1)], []⟩) (fun v6 h => ?_) (fun j5 h => ?_)
  refine swp_blk (a := v6) ?_
  refine swp_seq ?_
  refine swp_reg ?_
  refine SRun.ck tbok 2 ⟨19, [(0, vl eLabel aS), (1, .clo 75 [.ptr [vi aF0.X, vi aF0.Y] 0]), (5, vi s3.1), (7, vi (aS.length : Int)), (8, vi s3.1)], []⟩ ?_
  refine SRun.nil ?_
  refine nx_n ?_
  refine swp_seq ?_
  refine swp_reg ?_
  refine SRun.ck tbok 3 ⟨19, [(0, vl eLabel aS), (1, .clo 75 [.ptr [vi aF0.X, vi aF0.Y] 0]), (5, vi s3.1), (7, vi (aS.length : Int)), (8, vi s3.1), (11, .clo 75 [.ptr [vi aF0.X, vi aF0.Y] 0]), (12, vl eLabel aS), (13, vi s3.1)], []⟩ ?_
  obtain ⟨x7, hx7, h⟩ := bind_some h
  refine SRun.ls (x_index (L := aS) (f := eLabel) (ti := ti27) (tj := ti52) (e := 52) (k := .i64) tbok rfl hx7) ?_
  refine SRun.ck tbok 1 ⟨19, [(0, vl eLabel aS), (1, .clo 75 [.ptr [vi aF0.X, vi aF0.Y] 0]), (5, vi s3.1), (7, vi (aS.length : Int)), (8, vi s3.1), (11, .clo 75 [.ptr [vi aF0.X, vi aF0.Y] 0]), (15, .agg [vi x7.At.X, vi x7.At.Y, vi x7.Length, vi x7.Priority])], []⟩ ?_
  obtain ⟨x8, hx8, h⟩ := bind_some h
  refine SRun.ls (x_lstep_call (f := 75) (caps := [.ptr [vi aF0.X, vi aF0.Y] 0]) (xs := [.agg [vi x7.At.X, vi x7.At.Y, vi x7.Length, vi x7.Priority]]) (ys := [.agg [vi x7.At.X, vi x7.At.Y, vi x7.Length, vi x7.Priority], .ptr [vi aF0.X, vi aF0.Y] 0]) (res := ⟨[.v (vb x8)], [], false⟩) (x := vb x8) (y := none) rfl ents75 (impl_isAt_1_run x7 aF0 _ hx8) rfl (by intro hc; cases hc)) ?_
  refine SRun.nil ?_
  refine nx_n ?_
  refine swp_cond (b := x8) (by kernel_rfl) (fun hb => ?_) (fun hb => ?_)
  replace h := cond_t hb h
  refine swp_seq ?_
  refine swp_reg ?_
  refine SRun.ck tbok 2 ⟨19, [(4, vi s3.1)], []⟩ ?_
  refine SRun.nil ?_
  refine nx_n ?_
  refine swp_ret ?_
  replace h := Option.some.inj h
  subst h
  exact q_br (q_rr (q_rr (q_br (q_rr (q_fr (fin1 (by kernel_rfl) (finV rfl SV.flat_of (holds_t (by kernel_rfl)))))))))
  replace h := cond_f hb h
  refine swp_skip ?_
  replace h := Option.some.inj h
  subst h
  exact q_bn (q_l (Le.sub0))
  refine swp_reg ?_
  refine SRun.ck tbok 2 ⟨19, [(0, vl eLabel aS), (1, .clo 75 [.ptr [vi aF0.X, vi aF0.Y] 0]), (7, vi (aS.length : Int)), (8, vi (w64 (s3.1 + 1)))], []⟩ ?_
  refine SRun.nil ?_
  replace h := Option.some.inj h
  subst h
  exact q_l (Le.sub0)
  replace h := cond_f hb h
  refine swp_exit ?_
  replace h := Option.some.inj h
  subst h
  exact nx_e (q_re (q_bh (q_l (Le.sub0))))
  refine swp_seq ?_
  refine swp_reg ?_
  refine SRun.ck tbok 1 ⟨19, [(4, vi (-1))], []⟩ ?_
  refine SRun.nil ?_
  refine nx_n ?_
  refine swp_ret ?_
  replace h := Option.some.inj h
  subst h
  exact q_fr (fin1 (by kernel_rfl) (finV rfl SV.flat_of (holds_t (by kernel_rfl))))
theorem ents83 : Ents Try.prog 83 := ents_of Try.func83 (by kernel_rfl) rfl
noncomputable def slices_ContainsFunc_Label_impl_isAt_1 (aS : (List Label)) (aF0 : Point) : Option (Bool) :=
  ((slices_IndexFunc_Label_impl_isAt_1 aS aF0).bind fun x1 => some (decide (x1 ≥ 0)))
set_option maxRecDepth 100000 in
set_option maxHeartbeats 4000000 in
theorem slices_ContainsFunc_Label_impl_isAt_1_run (aS : (List Label)) (aF0 : Point) (r : Bool) (h : slices_ContainsFunc_Label_impl_isAt_1 aS aF0 = some r) : SCall Try.prog 74 [.v (vl eLabel aS), .v (.clo 75 [.ptr [vi aF0.X, vi aF0.Y] 0])] ⟨[.v (vb r)], [], false⟩ := by
  refine scall_in Try.func74 rfl [(.tmp 4)] rfl (fun r => ⟨[.v (vb r)], [], false⟩) (r := r) ?_
  unfold slices_ContainsFunc_Label_impl_isAt_1 at h
  refine swp_seq ?_
  refine swp_reg ?_
  refine SRun.ck tbok 1 ⟨9, [(0, vl eLabel aS), (1, .clo 75 [.ptr [vi aF0.X, vi aF0.Y] 0])], []⟩ ?_
  refine SRun.nil ?_
  refine nx_n ?_
  refine swp_seq ?_
  refine swp_reg ?_
  refine SRun.ck tbok 2 ⟨9, [(5, vl eLabel aS), (6, .clo 75 [.ptr [vi aF0.X, vi aF0.Y] 0])], []⟩ ?_
  obtain ⟨x1, hx1, h⟩ := bind_some h
  refine SRun.ls (x_lstep_call (f := 83) (caps := []) (xs := [vl eLabel aS, .clo 75 [.ptr [vi aF0.X, vi aF0.Y] 0]]) (ys := [vl eLabel aS, .clo 75 [.ptr [vi aF0.X, vi aF0.Y] 0]]) (res := ⟨[.v (vi x1)], [], false⟩) (x := vi x1) (y := none) rfl ents83 (slices_IndexFunc_Label_impl_isAt_1_run aS aF0 _ hx1) rfl (by intro hc; cases hc)) ?_
  refine SRun.ck tbok 2 ⟨9, [(4, vb (decide (x1 ≥ 0)))], []⟩ ?_
  refine SRun.nil ?_
  refine nx_n ?_
  refine swp_ret ?_
  replace h := Option.some.inj h
  subst h
  exact q_fr (fin1 (by kernel_rfl) (finV rfl SV.flat_of (holds_t (by kernel_rfl))))
theorem ents74 : Ents Try.prog 74 := ents_of Try.func74 (by kernel_rfl) rfl
noncomputable def impl_isAt (aList : (List Label)) (aP : Point) : Option (Bool) :=
  ((slices_ContainsFunc_Label_impl_isAt_1 aList aP).bind fun x1 => some x1)
set_option maxRecDepth 100000 in
set_option maxHeartbeats 4000000 in
theorem impl_isAt_run (aList : (List Label)) (aP : Point) (r : Bool) (h : impl_isAt aList aP = some r) : SCall Try.prog 53 [.v (vl eLabel aList), .v (.agg [vi aP.X, vi aP.Y])] ⟨[.v (vb r)], [], false⟩ := by
  refine scall_in Try.func53 rfl [(.tmp 4)] rfl (fun r => ⟨[.v (vb r)], [], false⟩) (r := r) ?_
  unfold impl_isAt at h
  refine swp_seq ?_
  refine swp_reg ?_
  refine SRun.ck tbok 2 ⟨8, [(0, vl eLabel aList), (3, .ref 3 0)], [(3, .box [vi aP.X, vi aP.Y])]⟩ ?_
  refine SRun.nil ?_
  refine nx_n ?_
  refine swp_seq ?_
  refine swp_reg ?_
  refine SRun.ck tbok 2 ⟨8, [(5, vl eLabel aList), (6, .clo 75 [.ref 3 0])], [(3, .box [vi aP.X, vi aP.Y])]⟩ ?_
  obtain ⟨x1, hx1, h⟩ := bind_some h
  refine SRun.ls (x_lstep_call (f := 74) (caps := []) (xs := [vl eLabel aList, .clo 75 [.ref 3 0]]) (ys := [vl eLabel aList, .clo 75 [.ptr [vi aP.X, vi aP.Y] 0]]) (res := ⟨[.v (vb x1)], [], false⟩) (x := vb x1) (y := none) rfl ents74 (slices_ContainsFunc_Label_impl_isAt_1_run aList aP _ hx1) rfl (by intro hc; cases hc)) ?_
  refine SRun.ck tbok 1 ⟨8, [(4, vb x1)], []⟩ ?_
  refine SRun.nil ?_
  refine nx_n ?_
  refine swp_ret ?_
  replace h := Option.some.inj h
  subst h
  exact q_fr (fin1 (by kernel_rfl) (finV rfl SV.flat_of (holds_t (by kernel_rfl))))
theorem ents53 : Ents Try.prog 53 := ents_of Try.func53 (by kernel_rfl) rfl
noncomputable def impl_AreLabels (aList : (List Label)) : Option (Bool) :=
  (((forN (aList.length : Int) (fun (i3 : Int) (_ : Unit) => ((at' aList i3).bind fun x7 => ((((impl_IsPoint x7.At).bind fun x8 => (bif (!x8) then some true else ((impl_within x7.Length 1 20).bind fun x9 => (bif (!x9) then some true else ((impl_within x7.Priority 1 9).bind fun x10 => (bif (!x10) then some true else ((part' aList 0 i3).bind fun x11 => ((impl_isAt x11 x7.At).bind fun x12 => some x12))))))))).bind fun (j13 : Bool) => (bif j13 then some (.inr (.inr false)) else some (.inl ()))))) (fun (_ : Unit) => .inl ()) 0 ())).bind (Sum.elim (fun (_ : Unit) => some (decide ((aList.length : Int) ≤ 6))) some))
set_option maxRecDepth 100000 in
set_option maxHeartbeats 4000000 in
theorem impl_AreLabels_run (aList : (List Label)) (r : Bool) (h : impl_AreLabels aList = some r) : SCall Try.prog 28 [.v (vl eLabel aList)] ⟨[.v (vb r)], [], false⟩ := by
  refine scall_in Try.func28 rfl [(.tmp 2)] rfl (fun r => ⟨[.v (vb r)], [], false⟩) (r := r) ?_
  unfold impl_AreLabels at h
  refine swp_seq ?_
  refine swp_reg ?_
  refine SRun.ck tbok 1 ⟨40, [(0, vl eLabel aList)], []⟩ ?_
  refine SRun.nil ?_
  refine nx_n ?_
  refine swp_seq ?_
  refine swp_seq ?_
  refine swp_reg ?_
  refine SRun.ck tbok 3 ⟨40, [(0, vl eLabel aList), (5, vl eLabel aList), (6, vi (aList.length : Int)), (7, vi 0)], []⟩ ?_
  refine SRun.nil ?_
  refine nx_n ?_
  refine swp_seqE (r := r) h (fun j1 => ⟨40, [(0, vl eLabel aList)], []⟩) (fun v2 h => ?_) (fun j1 h => ?_)
  refine swp_blk (a := v2) ?_
  refine swp_lpL (r := v2) (s := (0, ())) _ (fun s3 => ⟨40, [(0, vl eLabel aList), (5, vl eLabel aList), (6, vi (aList.length : Int)), (7, vi s3.1)], []⟩) _ (Le.sub0) h (fun s3 v4 h => ?_)
  refine swp_seq ?_
  refine swp_reg ?_
  refine SRun.ck tbok 1 ⟨40, [(0, vl eLabel aList), (5, vl eLabel aList), (6, vi (aList.length : Int)), (7, vi s3.1), (8, vb (decide (s3.1 < (aList.length : Int))))], []⟩ ?_
  refine SRun.nil ?_
  refine nx_n ?_
  refine swp_seq ?_
  refine swp_cond (b := (decide (s3.1 < (aList.length : Int)))) (by kernel_rfl) (fun hb => ?_) (fun hb => ?_)
  replace h := cond_t hb h
  refine swp_skip ?_
  refine nx_n ?_
  refine swp_seq ?_
  refine swp_seqL (r := v4) h (fun j5 => ⟨40, [(0, vl eLabel aList), (5, vl eLabel aList), (6, vi (aList.length : Int)), (7, vi s3.1)], []⟩) (fun v6 h => ?_) (fun j5 h => ?_)
  refine swp_blk (a := v6) ?_
  refine swp_seq ?_
  refine swp_reg ?_
  refine SRun.ck tbok 1 ⟨40, [(0, vl eLabel aList), (5, vl eLabel aList), (6, vi (aList.length : Int)), (7, vi s3.1), (9, vi s3.1)], []⟩ ?_
  obtain ⟨x7, hx7, h⟩ := bind_some h
  refine SRun.ls (x_index (L := aList) (f := eLabel) (ti := ti27) (tj := ti52) (e := 52) (k := .i64) tbok rfl hx7) ?_
  refine SRun.ck tbok 3 ⟨40, [(0, vl eLabel aList), (3, vi s3.1), (4, .ref 4 0), (5, vl eLabel aList), (6, vi (aList.length : Int)), (7, vi s3.1), (11, .agg [vi x7.At.X, vi x7.At.Y, vi x7.Length, vi x7.Priority])], [(4, .box [vi 0, vi 0, vi 0, vi 0])]⟩ ?_
  refine SRun.estep (x_estep_store (d := 4) (k := 0) (ti := ti52) (cs := [vi 0, vi 0, vi 0, vi 0]) (vs := [vi x7.At.X, vi x7.At.Y, vi x7.Length, vi x7.Priority]) (v := .agg [vi x7.At.X, vi x7.At.Y, vi x7.Length, vi x7.Priority]) tbok rfl rfl) ?_
  refine SRun.nil ?_
  refine nx_n ?_
  refine swp_seq ?_
  refine swp_drJ mixed h (fun j13 => ⟨40, [(0, vl eLabel aList), (5, vl eLabel aList), (6, vi (aList.length : Int)), (7, vi s3.1), (35, vb j13)], []⟩) (fun v14 h => ?_) (fun j13 h => ?_)
  refine DGo.chunk' tbok 2 (σ' := ⟨40, [(13, .agg [vi x7.At.X, vi x7.At.Y]), (12, .ref 4 0), (0, vl eLabel aList), (3, vi s3.1), (4, .ref 4 0), (5, vl eLabel aList), (6, vi (aList.length : Int)), (7, vi s3.1), (11, .agg [vi x7.At.X, vi x7.At.Y, vi x7.Length, vi x7.Priority])], [(4, .box [vi x7.At.X, vi x7.At.Y, vi x7.Length, vi x7.Priority])]⟩) (by kernel_rfl) ?_
  obtain ⟨x8, hx8, h⟩ := bind_some h
  refine DGo.step (x_lstep_call (f := 51) (caps := []) (xs := [.agg [vi x7.At.X, vi x7.At.Y]]) (ys := [.agg [vi x7.At.X, vi x7.At.Y]]) (res := ⟨[.v (vb x8)], [], false⟩) (x := vb x8) (y := none) rfl ents51 (impl_IsPoint_run x7.At _ hx8) rfl (by intro hc; cases hc)) ?_
  refine DGo.chunk' tbok 2 (σ' := ⟨40, [(16, vb (!x8)), (15, vb (!x8)), (14, vb x8), (13, .agg [vi x7.At.X, vi x7.At.Y]), (12, .ref 4 0), (0, vl eLabel aList), (3, vi s3.1), (4, .ref 4 0), (5, vl eLabel aList), (6, vi (aList.length : Int)), (7, vi s3.1), (11, .agg [vi x7.At.X, vi x7.At.Y, vi x7.Length, vi x7.Priority])], [(4, .box [vi x7.At.X, vi x7.At.Y, vi x7.Length, vi x7.Priority])]⟩) (by kernel_rfl) ?_
  refine DGo.cut [(16, fun b => b), (15, fun b => b)] (b := (!x8)) (by kernel_rfl) (fun hb => ?_) (fun hb => ?_)
  replace h := cond_t hb h
  refine DGo.chunk' tbok 19 (σ' := ⟨40, [(35, vb true), (34, .tup []), (33, .tup []), (32, .tup []), (31, .tup []), (30, .tup []), (29, .tup []), (28, vb true), (27, vb true), (26, .tup []), (25, .tup []), (24, .tup []), (23, .tup []), (22, vb true), (21, vb true), (20, .tup []), (19, .tup []), (18, .tup []), (17, .tup []), (16, vb true), (15, vb true), (14, vb x8), (13, .agg [vi x7.At.X, vi x7.At.Y]), (12, .ref 4 0), (0, vl eLabel aList), (3, vi s3.1), (4, .ref 4 0), (5, vl eLabel aList), (6, vi (aList.length : Int)), (7, vi s3.1), (11, .agg [vi x7.At.X, vi x7.At.Y, vi x7.Length, vi x7.Priority])], [(4, .box [vi x7.At.X, vi x7.At.Y, vi x7.Length, vi x7.Priority])]⟩) (by kernel_rfl) ?_
  refine DGo.nil (by kernel_rfl) ?_
  replace h := Option.some.inj h
  subst h
  exact Le.sub0
  replace h := cond_f hb h
  refine DGo.chunk' tbok 2 (σ' := ⟨40, [(18, vi x7.Length), (17, .ref 4 2), (16, vb false), (15, vb false), (14, vb x8), (13, .agg [vi x7.At.X, vi x7.At.Y]), (12, .ref 4 0), (0, vl eLabel aList), (3, vi s3.1), (4, .ref 4 0), (5, vl eLabel aList), (6, vi (aList.length : Int)), (7, vi s3.1), (11, .agg [vi x7.At.X, vi x7.At.Y, vi x7.Length, vi x7.Priority])], [(4, .box [vi x7.At.X, vi x7.At.Y, vi x7.Length, vi x7.Priority])]⟩) (by kernel_rfl) ?_
  obtain ⟨x9, hx9, h⟩ := bind_some h
  refine DGo.step (x_lstep_call (f := 52) (caps := []) (xs := [vi x7.Length, vi 1, vi 20]) (ys := [vi x7.Length, vi 1, vi 20]) (res := ⟨[.v (vb x9)], [], false⟩) (x := vb x9) (y := none) rfl ents52 (impl_within_run x7.Length 1 20 _ hx9) rfl (by intro hc; cases hc)) ?_
  refine DGo.chunk' tbok 3 (σ' := ⟨40, [(22, vb (!x9)), (21, vb (!x9)), (20, vb (!x9)), (19, vb x9), (18, vi x7.Length), (17, .ref 4 2), (16, vb false), (15, vb false), (14, vb x8), (13, .agg [vi x7.At.X, vi x7.At.Y]), (12, .ref 4 0), (0, vl eLabel aList), (3, vi s3.1), (4, .ref 4 0), (5, vl eLabel aList), (6, vi (aList.length : Int)), (7, vi s3.1), (11, .agg [vi x7.At.X, vi x7.At.Y, vi x7.Length, vi x7.Priority])], [(4, .box [vi x7.At.X, vi x7.At.Y, vi x7.Length, vi x7.Priority])]⟩) (by kernel_rfl) ?_
  refine DGo.cut [(22, fun b => b), (21, fun b => b), (20, fun b => b)] (b := (!x9)) (by kernel_rfl) (fun hb => ?_) (fun hb => ?_)
  replace h := cond_t hb h
  refine DGo.chunk' tbok 13 (σ' := ⟨40, [(35, vb true), (34, .tup []), (33, .tup []), (32, .tup []), (31, .tup []), (30, .tup []), (29, .tup []), (28, vb true), (27, vb true), (26, .tup []), (25, .tup []), (24, .tup []), (23, .tup []), (22, vb true), (21, vb true), (20, vb true), (19, vb x9), (18, vi x7.Length), (17, .ref 4 2), (16, vb false), (15, vb false), (14, vb x8), (13, .agg [vi x7.At.X, vi x7.At.Y]), (12, .ref 4 0), (0, vl eLabel aList), (3, vi s3.1), (4, .ref 4 0), (5, vl eLabel aList), (6, vi (aList.length : Int)), (7, vi s3.1), (11, .agg [vi x7.At.X, vi x7.At.Y, vi x7.Length, vi x7.Priority])], [(4, .box [vi x7.At.X, vi x7.At.Y, vi x7.Length, vi x7.Priority])]⟩) (by kernel_rfl) ?_
  refine DGo.nil (by kernel_rfl) ?_
  replace h := Option.some.inj h
  subst h
  exact Le.sub0
  replace h := cond_f hb h
  refine DGo.chunk' tbok 2 (σ' := ⟨40, [(24, vi x7.Priority), (23, .ref 4 3), (22, vb false), (21, vb false), (20, vb false), (19, vb x9), (18, vi x7.Length), (17, .ref 4 2), (16, vb false), (15, vb false), (14, vb x8), (13, .agg [vi x7.At.X, vi x7.At.Y]), (12, .ref 4 0), (0, vl eLabel aList), (3, vi s3.1), (4, .ref 4 0), (5, vl eLabel aList), (6, vi (aList.length : Int)), (7, vi s3.1), (11, .agg [vi x7.At.X, vi x7.At.Y, vi x7.Length, vi x7.Priority])], [(4, .box [vi x7.At.X, vi x7.At.Y, vi x7.Length, vi x7.Priority])]⟩) (by kernel_rfl) ?_
  obtain ⟨x10, hx10, h⟩ := bind_some h
  refine DGo.step (x_lstep_call (f := 52) (caps := []) (xs := [vi x7.Priority, vi 1, vi 9]) (ys := [vi x7.Priority, vi 1, vi 9]) (res := ⟨[.v (vb x10)], [], false⟩) (x := vb x10) (y := none) rfl ents52 (impl_within_run x7.Priority 1 9 _ hx10) rfl (by intro hc; cases hc)) ?_
  refine DGo.chunk' tbok 3 (σ' := ⟨40, [(28, vb (!x10)), (27, vb (!x10)), (26, vb (!x10)), (25, vb x10), (24, vi x7.Priority), (23, .ref 4 3), (22, vb false), (21, vb false), (20, vb false), (19, vb x9), (18, vi x7.Length), (17, .ref 4 2), (16, vb false), (15, vb false), (14, vb x8), (13, .agg [vi x7.At.X, vi x7.At.Y]), (12, .ref 4 0), (0, vl eLabel aList), (3, vi s3.1), (4, .ref 4 0), (5, vl eLabel aList), (6, vi (aList.length : Int)), (7, vi s3.1), (11, .agg [vi x7.At.X, vi x7.At.Y, vi x7.Length, vi x7.Priority])], [(4, .box [vi x7.At.X, vi x7.At.Y, vi x7.Length, vi x7.Priority])]⟩) (by kernel_rfl) ?_
  refine DGo.cut [(28, fun b => b), (27, fun b => b), (26, fun b => b)] (b := (!x10)) (by kernel_rfl) (fun hb => ?_) (fun hb => ?_)
  replace h := cond_t hb h
  refine DGo.chunk' tbok 7 (σ' := ⟨40, [(35, vb true), (34, .tup []), (33, .tup []), (32, .tup []), (31, .tup []), (30, .tup []), (29, .tup []), (28, vb true), (27, vb true), (26, vb true), (25, vb x10), (24, vi x7.Priority), (23, .ref 4 3), (22, vb false), (21, vb false), (20, vb false), (19, vb x9), (18, vi x7.Length), (17, .ref 4 2), (16, vb false), (15, vb false), (14, vb x8), (13, .agg [vi x7.At.X, vi x7.At.Y]), (12, .ref 4 0), (0, vl eLabel aList), (3, vi s3.1), (4, .ref 4 0), (5, vl eLabel aList), (6, vi (aList.length : Int)), (7, vi s3.1), (11, .agg [vi x7.At.X, vi x7.At.Y, vi x7.Length, vi x7.Priority])], [(4, .box [vi x7.At.X, vi x7.At.Y, vi x7.Length, vi x7.Priority])]⟩) (by kernel_rfl) ?_
  refine DGo.nil (by kernel_rfl) ?_
  replace h := Option.some.inj h
  subst h
  exact Le.sub0
  replace h := cond_f hb h
  refine DGo.chunk' tbok 2 (σ' := ⟨40, [(30, vi s3.1), (29, vl eLabel aList), (28, vb false), (27, vb false), (26, vb false), (25, vb x10), (24, vi x7.Priority), (23, .ref 4 3), (22, vb false), (21, vb false), (20, vb false), (19, vb x9), (18, vi x7.Length), (17, .ref 4 2), (16, vb false), (15, vb false), (14, vb x8), (13, .agg [vi x7.At.X, vi x7.At.Y]), (12, .ref 4 0), (0, vl eLabel aList), (3, vi s3.1), (4, .ref 4 0), (5, vl eLabel aList), (6, vi (aList.length : Int)), (7, vi s3.1), (11, .agg [vi x7.At.X, vi x7.At.Y, vi x7.Length, vi x7.Priority])], [(4, .box [vi x7.At.X, vi x7.At.Y, vi x7.Length, vi x7.Priority])]⟩) (by kernel_rfl) ?_
  obtain ⟨x11, hx11, h⟩ := bind_some h
  refine DGo.step (x_slice (m := 4) (f := eLabel) (ti := ti27) (tj := ti52) (e := 52) hx11 (fun _ => rfl) tbok rfl) ?_
  refine DGo.chunk' tbok 2 (σ' := ⟨40, [(33, .agg [vi x7.At.X, vi x7.At.Y]), (32, .ref 4 0), (31, vl eLabel x11), (30, vi s3.1), (29, vl eLabel aList), (28, vb false), (27, vb false), (26, vb false), (25, vb x10), (24, vi x7.Priority), (23, .ref 4 3), (22, vb false), (21, vb false), (20, vb false), (19, vb x9), (18, vi x7.Length), (17, .ref 4 2), (16, vb false), (15, vb false), (14, vb x8), (13, .agg [vi x7.At.X, vi x7.At.Y]), (12, .ref 4 0), (0, vl eLabel aList), (3, vi s3.1), (4, .ref 4 0), (5, vl eLabel aList), (6, vi (aList.length : Int)), (7, vi s3.1), (11, .agg [vi x7.At.X, vi x7.At.Y, vi x7.Length, vi x7.Priority])], [(4, .box [vi x7.At.X, vi x7.At.Y, vi x7.Length, vi x7.Priority])]⟩) (by kernel_rfl) ?_
  obtain ⟨x12, hx12, h⟩ := bind_some h
  refine DGo.step (x_lstep_call (f := 53) (caps := []) (xs := [vl eLabel x11, .agg [vi x7.At.X, vi x7.At.Y]]) (ys := [vl eLabel x11, .agg [vi x7.At.X, vi x7.At.Y]]) (res := ⟨[.v (vb x12)], [], false⟩) (x := vb x12) (y := none) rfl ents53 (impl_isAt_run x11 x7.At _ hx12) rfl (by intro hc; cases hc)) ?_
  refine DGo.chunk' tbok 1 (σ' := ⟨40, [(35, vb x12), (34, vb x12), (33, .agg [vi x7.At.X, vi x7.At.Y]), (32, .ref 4 0), (31, vl eLabel x11), (30, vi s3.1), (29, vl eLabel aList), (28, vb false), (27, vb false), (26, vb false), (25, vb x10), (24, vi x7.Priority), (23, .ref 4 3), (22, vb false), (21, vb false), (20, vb false), (19, vb x9), (18, vi x7.Length), (17, .ref 4 2), (16, vb false), (15, vb false), (14, vb x8), (13, .agg [vi x7.At.X, vi x7.At.Y]), (12, .ref 4 0), (0, vl eLabel aList), (3, vi s3.1), (4, .ref 4 0), (5, vl eLabel aList), (6, vi (aList.length : Int)), (7, vi s3.1), (11, .agg [vi x7.At.X, vi x7.At.Y, vi x7.Length, vi x7.Priority])], [(4, .box [vi x7.At.X, vi x7.At.Y, vi x7.Length, vi x7.Priority])]⟩) (by kernel_rfl) ?_
  refine DGo.nil (by kernel_rfl) ?_
  replace h := Option.some.inj h
  subst h
  exact Le.sub0
  refine swp_cond (b := j13) (by kernel_rfl) (fun hb => ?_) (fun hb => ?_)
  replace h := cond_t hb h
  refine swp_seq ?_
  refine swp_reg ?_
  refine SRun.ck tbok 1 ⟨40, [(2, vb false)], []⟩ ?_
  refine SRun.nil ?_
  refine nx_n ?_
  refine swp_ret ?_
  replace h := Option.some.inj h
  subst h
  exact q_br (q_rr (q_rr (q_br (q_rr (q_fr (fin1 (by kernel_rfl) (finV rfl SV.flat_of (holds_t (by kernel_rfl)))))))))
  replace h := cond_f hb h
  refine swp_skip ?_
  replace h := Option.some.inj h
  subst h
  exact q_bn (q_l (Le.sub0))
  refine swp_reg ?_
  refine SRun.ck tbok 2 ⟨40, [(0, vl eLabel aList), (5, vl eLabel aList), (6, vi (aList.length : Int)), (7, vi (w64 (s3.1 + 1)))], []⟩ ?_
  refine SRun.nil ?_
  replace h := Option.some.inj h
  subst h
  exact q_l (Le.sub0)
  replace h := cond_f hb h
  refine swp_exit ?_
  replace h := Option.some.inj h
  subst h
  exact nx_e (q_re (q_bh (q_l (Le.sub0))))
  refine swp_seq ?_
  refine swp_reg ?_
  refine SRun.ck tbok 4 ⟨40, [(2, vb (decide ((aList.length : Int) ≤ 6)))], []⟩ ?_
  refine SRun.nil ?_
  refine nx_n ?_
  refine swp_ret ?_
  replace h := Option.some.inj h
  subst h
  exact q_fr (fin1 (by kernel_rfl) (finV rfl SV.flat_of (holds_t (by kernel_rfl))))
theorem ents28 : Ents Try.prog 28 := ents_of Try.func28 (by kernel_rfl) rfl

theorem ents32 : Ents Try.prog 32 := ents_of Try.func32 (by kernel_rfl) rfl
noncomputable def cmp_isNaN_int64 (aX : Int) : Option (Bool) :=
  some (aX != aX)
set_option maxRecDepth 100000 in
set_option maxHeartbeats 4000000 in
theorem cmp_isNaN_int64_run (aX : Int) (r : Bool) (h : cmp_isNaN_int64 aX = some r) : SCall Try.prog 64 [.v (vi aX)] ⟨[.v (vb r)], [], false⟩ := by
  refine scall_in Try.func64 rfl [(.tmp 2)] rfl (fun r => ⟨[.v (vb r)], [], false⟩) (r := r) ?_
  unfold cmp_isNaN_int64 at h
  refine swp_seq ?_
  refine swp_reg ?_
  refine SRun.ck tbok 1 ⟨6, [(0, vi aX)], []⟩ ?_
  refine SRun.nil ?_
  refine nx_n ?_
  refine swp_seq ?_
  refine swp_reg ?_
  refine SRun.ck tbok 4 ⟨6, [(2, vb (aX != aX))], []⟩ ?_
  refine SRun.nil ?_
  refine nx_n ?_
  refine swp_ret ?_
  replace h := Option.some.inj h
  subst h
  exact q_fr (fin1 (by kernel_rfl) (finV rfl SV.flat_of (holds_t (by kernel_rfl))))
theorem ents64 : Ents Try.prog 64 := ents_of Try.func64 (by kernel_rfl) rfl
noncomputable def cmp_Compare_int64 (aX : Int) (aY : Int) : Option (Int) :=
  ((cmp_isNaN_int64 aX).bind fun x1 => ((cmp_isNaN_int64 aY).bind fun x2 => (bif x1 then (bif x2 then some 0 else some (-1)) else (bif x2 then some 1 else (bif (decide (aX < aY)) then some (-1) else (bif (decide (aX > aY)) then some 1 else some 0))))))
set_option maxRecDepth 100000 in
set_option maxHeartbeats 4000000 in
theorem cmp_Compare_int64_run (aX : Int) (aY : Int) (r : Int) (h : cmp_Compare_int64 aX aY = some r) : SCall Try.prog 41 [.v (vi aX), .v (vi aY)] ⟨[.v (vi r)], [], false⟩ := by
  refine scall_in Try.func41 rfl [(.tmp 4)] rfl (fun r => ⟨[.v (vi r)], [], false⟩) (r := r) ?_
  unfold cmp_Compare_int64 at h
  refine swp_seq ?_
  refine swp_reg ?_
  refine SRun.ck tbok 1 ⟨20, [(0, vi aX), (1, vi aY)], []⟩ ?_
  refine SRun.nil ?_
  refine nx_n ?_
  refine swp_seq ?_
  refine swp_reg ?_
  refine SRun.ck tbok 1 ⟨20, [(0, vi aX), (1, vi aY), (7, vi aX)], []⟩ ?_
  obtain ⟨x1, hx1, h⟩ := bind_some h
  refine SRun.ls (x_lstep_call (f := 64) (caps := []) (xs := [vi aX]) (ys := [vi aX]) (res := ⟨[.v (vb x1)], [], false⟩) (x := vb x1) (y := none) rfl ents64 (cmp_isNaN_int64_run aX _ hx1) rfl (by intro hc; cases hc)) ?_
  refine SRun.ck tbok 1 ⟨20, [(0, vi aX), (1, vi aY), (5, vb x1)], []⟩ ?_
  refine SRun.nil ?_
  refine nx_n ?_
  refine swp_seq ?_
  refine swp_reg ?_
  refine SRun.ck tbok 1 ⟨20, [(0, vi aX), (1, vi aY), (5, vb x1), (9, vi aY)], []⟩ ?_
  obtain ⟨x2, hx2, h⟩ := bind_some h
  refine SRun.ls (x_lstep_call (f := 64) (caps := []) (xs := [vi aY]) (ys := [vi aY]) (res := ⟨[.v (vb x2)], [], false⟩) (x := vb x2) (y := none) rfl ents64 (cmp_isNaN_int64_run aY _ hx2) rfl (by intro hc; cases hc)) ?_
  refine SRun.ck tbok 1 ⟨20, [(0, vi aX), (1, vi aY), (5, vb x1), (6, vb x2)], []⟩ ?_
  refine SRun.nil ?_
  refine nx_n ?_
  refine swp_seq ?_
  refine swp_seq ?_
  refine swp_reg ?_
  refine SRun.ck tbok 1 ⟨20, [(0, vi aX), (1, vi aY), (6, vb x2), (11, vb x1)], []⟩ ?_
  refine SRun.nil ?_
  refine nx_n ?_
  refine swp_cond (b := x1) (by kernel_rfl) (fun hb => ?_) (fun hb => ?_)
  replace h := cond_t hb h
  refine swp_seq ?_
  refine swp_seq ?_
  refine swp_reg ?_
  refine SRun.ck tbok 1 ⟨20, [(12, vb x2)], []⟩ ?_
  refine SRun.nil ?_
  refine nx_n ?_
  refine swp_cond (b := x2) (by kernel_rfl) (fun hb => ?_) (fun hb => ?_)
  replace h := cond_t hb h
  refine swp_seq ?_
  refine swp_reg ?_
  refine SRun.ck tbok 1 ⟨20, [(4, vi 0)], []⟩ ?_
  refine SRun.nil ?_
  refine nx_n ?_
  refine swp_ret ?_
  replace h := Option.some.inj h
  subst h
  exact nx_r (nx_r (q_fr (fin1 (by kernel_rfl) (finV rfl SV.flat_of (holds_t (by kernel_rfl))))))
  replace h := cond_f hb h
  refine swp_skip ?_
  refine nx_n ?_
  refine swp_seq ?_
  refine swp_reg ?_
  refine SRun.ck tbok 1 ⟨20, [(4, vi (-1))], []⟩ ?_
  refine SRun.nil ?_
  refine nx_n ?_
  refine swp_ret ?_
  replace h := Option.some.inj h
  subst h
  exact nx_r (q_fr (fin1 (by kernel_rfl) (finV rfl SV.flat_of (holds_t (by kernel_rfl)))))
  replace h := cond_f hb h
  refine swp_skip ?_
  refine nx_n ?_
  refine swp_seq ?_
  refine swp_seq ?_
  refine swp_reg ?_
  refine SRun.ck tbok 1 ⟨20, [(0, vi aX), (1, vi aY), (13, vb x2)], []⟩ ?_
  refine SRun.nil ?_
  refine nx_n ?_
  refine swp_cond (b := x2) (by kernel_rfl) (fun hb => ?_) (fun hb => ?_)
  replace h := cond_t hb h
  refine swp_seq ?_
  refine swp_reg ?_
  refine SRun.ck tbok 1 ⟨20, [(4, vi 1)], []⟩ ?_
  refine SRun.nil ?_
  refine nx_n ?_
  refine swp_ret ?_
  replace h := Option.some.inj h
  subst h
  exact nx_r (q_fr (fin1 (by kernel_rfl) (finV rfl SV.flat_of (holds_t (by kernel_rfl)))))
  replace h := cond_f hb h
  refine swp_skip ?_
  refine nx_n ?_
  refine swp_seq ?_
  refine swp_seq ?_
  refine swp_reg ?_
  refine SRun.ck tbok 3 ⟨20, [(0, vi aX), (1, vi aY), (16, vb (decide (aX < aY)))], []⟩ ?_
  refine SRun.nil ?_
  refine nx_n ?_
  refine swp_cond (b := (decide (aX < aY))) (by kernel_rfl) (fun hb => ?_) (fun hb => ?_)
  replace h := cond_t hb h
  refine swp_seq ?_
  refine swp_reg ?_
  refine SRun.ck tbok 1 ⟨20, [(4, vi (-1))], []⟩ ?_
  refine SRun.nil ?_
  refine nx_n ?_
  refine swp_ret ?_
  replace h := Option.some.inj h
  subst h
  exact nx_r (q_fr (fin1 (by kernel_rfl) (finV rfl SV.flat_of (holds_t (by kernel_rfl)))))
  replace h := cond_f hb h
  refine swp_skip ?_
  refine nx_n ?_
  refine swp_seq ?_
  refine swp_seq ?_
  refine swp_reg ?_
  refine SRun.ck tbok 3 ⟨20, [(19, vb (decide (aX > aY)))], []⟩ ?_
  refine SRun.nil ?_
  refine nx_n ?_
  refine swp_cond (b := (decide (aX > aY))) (by kernel_rfl) (fun hb => ?_) (fun hb => ?_)
  replace h := cond_t hb h
  refine swp_seq ?_
  refine swp_reg ?_
  refine SRun.ck tbok 1 ⟨20, [(4, vi 1)], []⟩ ?_
  refine SRun.nil ?_
  refine nx_n ?_
  refine swp_ret ?_
  replace h := Option.some.inj h
  subst h
  exact nx_r (q_fr (fin1 (by kernel_rfl) (finV rfl SV.flat_of (holds_t (by kernel_rfl)))))
  replace h := cond_f hb h
  refine swp_skip ?_
  refine nx_n ?_
  refine swp_seq ?_
  refine swp_reg ?_
  refine SRun.ck tbok 1 ⟨20, [(4, vi 0)], []⟩ ?_
  refine SRun.nil ?_
  refine nx_n ?_
  refine swp_ret ?_
  replace h := Option.some.inj h
  subst h
  exact q_fr (fin1 (by kernel_rfl) (finV rfl SV.flat_of (holds_t (by kernel_rfl))))
theorem ents41 : Ents Try.prog 41 := ents_of Try.func41 (by kernel_rfl) rfl
noncomputable def impl_GreedyPlacement_1 (aI : Int) (aK : Int) (c0 : (List Label)) : Option (Int) :=
  ((at' c0 aK).bind fun x1 => ((at' c0 aI).bind fun x2 => ((cmp_Compare_int64 x1.Priority x2.Priority).bind fun x3 => some x3)))
set_option maxRecDepth 100000 in
set_option maxHeartbeats 4000000 in
theorem impl_GreedyPlacement_1_run (aI : Int) (aK : Int) (c0 : (List Label)) (r : Int) (h : impl_GreedyPlacement_1 aI aK c0 = some r) : SCall Try.prog 40 [.v (vi aI), .v (vi aK), .v (.ptr [vl eLabel c0] 0)] ⟨[.v (vi r)], [], false⟩ := by
  refine scall_in Try.func40 rfl [(.tmp 5)] rfl (fun r => ⟨[.v (vi r)], [], false⟩) (r := r) ?_
  unfold impl_GreedyPlacement_1 at h
  refine swp_seq ?_
  refine swp_reg ?_
  refine SRun.ck tbok 1 ⟨17, [(0, vi aI), (1, vi aK), (2, .ptr [vl eLabel c0] 0)], []⟩ ?_
  refine SRun.nil ?_
  refine nx_n ?_
  refine swp_seq ?_
  refine swp_dr mixed ?_
  refine DGo.chunk' tbok 2 (σ' := ⟨17, [(7, vi aK), (6, vl eLabel c0), (0, vi aI), (1, vi aK), (2, .ptr [vl eLabel c0] 0)], []⟩) (by kernel_rfl) ?_
  obtain ⟨x1, hx1, h⟩ := bind_some h
  refine DGo.step (x_index (L := c0) (f := eLabel) (ti := ti27) (tj := ti52) (e := 52) (k := .i64) tbok rfl hx1) ?_
  refine DGo.chunk' tbok 4 (σ' := ⟨17, [(12, vi aI), (11, vl eLabel c0), (10, vi x1.Priority), (9, .ptr ((eLabel x1).map .tr) 3), (8, .ptr ((eLabel x1).map .tr) 0), (7, vi aK), (6, vl eLabel c0), (0, vi aI), (1, vi aK), (2, .ptr [vl eLabel c0] 0)], []⟩) (by kernel_rfl) ?_
  obtain ⟨x2, hx2, h⟩ := bind_some h
  refine DGo.step (x_index (L := c0) (f := eLabel) (ti := ti27) (tj := ti52) (e := 52) (k := .i64) tbok rfl hx2) ?_
  refine DGo.chunk' tbok 2 (σ' := ⟨17, [(15, vi x2.Priority), (14, .ptr ((eLabel x2).map .tr) 3), (13, .ptr ((eLabel x2).map .tr) 0), (12, vi aI), (11, vl eLabel c0), (10, vi x1.Priority), (9, .ptr ((eLabel x1).map .tr) 3), (8, .ptr ((eLabel x1).map .tr) 0), (7, vi aK), (6, vl eLabel c0), (0, vi aI), (1, vi aK), (2, .ptr [vl eLabel c0] 0)], []⟩) (by kernel_rfl) ?_
  obtain ⟨x3, hx3, h⟩ := bind_some h
  refine DGo.step (x_lstep_call (f := 41) (caps := []) (xs := [vi x1.Priority, vi x2.Priority]) (ys := [vi x1.Priority, vi x2.Priority]) (res := ⟨[.v (vi x3)], [], false⟩) (x := vi x3) (y := none) rfl ents41 (cmp_Compare_int64_run x1.Priority x2.Priority _ hx3) rfl (by intro hc; cases hc)) ?_
  refine DGo.chunk' tbok 1 (σ' := ⟨17, [(5, vi x3), (16, vi x3), (15, vi x2.Priority), (14, .ptr ((eLabel x2).map .tr) 3), (13, .ptr ((eLabel x2).map .tr) 0), (12, vi aI), (11, vl eLabel c0), (10, vi x1.Priority), (9, .ptr ((eLabel x1).map .tr) 3), (8, .ptr ((eLabel x1).map .tr) 0), (7, vi aK), (6, vl eLabel c0), (0, vi aI), (1, vi aK), (2, .ptr [vl eLabel c0] 0)], []⟩) (by kernel_rfl) ?_
  refine DGo.nil (by kernel_rfl) ?_
  refine nx_n ?_
  refine swp_ret ?_
  replace h := Option.some.inj h
  subst h
  exact q_fr (fin1 (by kernel_rfl) (finV rfl SV.flat_of (holds_t (by kernel_rfl))))
theorem ents40 : Ents Try.prog 40 := ents_of Try.func40 (by kernel_rfl) rfl
noncomputable def slices_insertionSortCmpFunc_int_impl_GreedyPlacement_1 (aData : (List Int)) (aA : Int) (aB : Int) (aCmp0 : (List Label)) : Option ((List Int)) :=
  (forS aB (fun (i1 : Int) (s1 : (List Int)) => (loop (fun (s5 : Int × (List Int)) => (((bif (decide (s5.1 > aA)) then ((at' s5.2 s5.1).bind fun x7 => ((at' s5.2 (w64 (s5.1 - 1))).bind fun x8 => ((impl_GreedyPlacement_1 x7 x8 aCmp0).bind fun x9 => some (decide (x9 < 0))))) else some false)).bind fun (j10 : Bool) => (bif j10 then ((((at' s5.2 (w64 (s5.1 - 1))).bind fun x14 => ((at' s5.2 s5.1).bind fun x15 => ((at' s5.2 s5.1).bind fun _ => ((at' (List.set s5.2 (Int.toNat s5.1) x14) (w64 (s5.1 - 1))).bind fun _ => some (List.set (List.set s5.2 (Int.toNat s5.1) x14) (Int.toNat (w64 (s5.1 - 1))) x15)))))).bind fun (j12 : (List Int)) => some (.inl ((w64 (s5.1 - 1)), j12))) else some (.inr s5.2)))) (i1, s1))) (fun (s1 : (List Int)) => s1) (w64 (aA + 1)) aData)
set_option maxRecDepth 100000 in
set_option maxHeartbeats 4000000 in
theorem slices_insertionSortCmpFunc_int_impl_GreedyPlacement_1_run (aData : (List Int)) (aA : Int) (aB : Int) (aCmp0 : (List Label)) (r : (List Int)) (h : slices_insertionSortCmpFunc_int_impl_GreedyPlacement_1 aData aA aB aCmp0 = some r) : SCall Try.prog 79 [.o (.arr 3 1 aData.length (aData.map (eI .i64))), .v (vi aA), .v (vi aB), .v (.clo 40 [.ptr [vl eLabel aCmp0] 0])] ⟨[], [(0, .arr 3 1 r.length (r.map (eI .i64)))], false⟩ := by
  refine scall_in Try.func79 rfl [] rfl (fun r => ⟨[], [(0, .arr 3 1 r.length (r.map (eI .i64)))], false⟩) (r := r) ?_
  unfold slices_insertionSortCmpFunc_int_impl_GreedyPlacement_1 at h
  refine swp_seq ?_
  refine swp_reg ?_
  refine SRun.ck tbok 3 ⟨53, [(0, .own 1000000), (1, vi aA), (2, vi aB), (3, .clo 40 [.ptr [vl eLabel aCmp0] 0]), (8, vi (w64 (aA + 1)))], [(1000000, .arr 3 1 aData.length (aData.map (eI .i64)))]⟩ ?_
  refine SRun.nil ?_
  refine nx_n ?_
  refine swp_blk (a := r) ?_
  refine swp_lpL (r := r) (s := ((w64 (aA + 1)), aData)) _ (fun s1 => ⟨53, [(0, .own 1000000), (1, vi aA), (2, vi aB), (3, .clo 40 [.ptr [vl eLabel aCmp0] 0]), (8, vi s1.1)], [(1000000, .arr 3 1 s1.2.length (s1.2.map (eI .i64)))]⟩) _ (Le.sub0) h (fun s1 v2 h => ?_)
  refine swp_seq ?_
  refine swp_seq ?_
  refine swp_reg ?_
  refine SRun.ck tbok 3 ⟨53, [(0, .own 1000000), (1, vi aA), (2, vi aB), (3, .clo 40 [.ptr [vl eLabel aCmp0] 0]), (8, vi s1.1), (14, vb (decide (s1.1 < aB)))], [(1000000, .arr 3 1 s1.2.length (s1.2.map (eI .i64)))]⟩ ?_
  refine SRun.nil ?_
  refine nx_n ?_
  refine swp_cond (b := (decide (s1.1 < aB))) (by kernel_rfl) (fun hb => ?_) (fun hb => ?_)
  replace h := cond_t hb h
  refine swp_skip ?_
  refine nx_n ?_
  refine swp_seq ?_
  refine swp_seqJ h (fun j3 => ⟨53, [(0, .own 1000000), (1, vi aA), (2, vi aB), (3, .clo 40 [.ptr [vl eLabel aCmp0] 0]), (8, vi s1.1)], [(1000000, .arr 3 1 j3.length (j3.map (eI .i64)))]⟩) (fun v4 h => ?_) (fun j3 h => ?_)
  refine swp_blk (a := v4) ?_
  refine swp_seq ?_
  refine swp_reg ?_
  refine SRun.ck tbok 2 ⟨53, [(0, .own 1000000), (1, vi aA), (2, vi aB), (3, .clo 40 [.ptr [vl eLabel aCmp0] 0]), (8, vi s1.1), (9, vi s1.1)], [(1000000, .arr 3 1 s1.2.length (s1.2.map (eI .i64)))]⟩ ?_
  refine SRun.nil ?_
  refine nx_n ?_
  refine swp_blk (a := v4) ?_
  refine swp_lpL (r := v4) (s := (s1.1, s1.2)) _ (fun s5 => ⟨53, [(0, .own 1000000), (1, vi aA), (2, vi aB), (3, .clo 40 [.ptr [vl eLabel aCmp0] 0]), (8, vi s1.1), (9, vi s5.1)], [(1000000, .arr 3 1 s5.2.length (s5.2.map (eI .i64)))]⟩) _ (Le.sub0) h (fun s5 v6 h => ?_)
  refine swp_seq ?_
  refine swp_seq ?_
  refine swp_drJ mixed h (fun j10 => ⟨53, [(0, .own 1000000), (1, vi aA), (2, vi aB), (3, .clo 40 [.ptr [vl eLabel aCmp0] 0]), (8, vi s1.1), (9, vi s5.1), (34, vb j10)], [(1000000, .arr 3 1 s5.2.length (s5.2.map (eI .i64)))]⟩) (fun v11 h => ?_) (fun j10 h => ?_)
  refine DGo.chunk' tbok 4 (σ' := ⟨53, [(21, vb (decide (s5.1 > aA))), (20, vb (decide (s5.1 > aA))), (19, vi aA), (18, vi s5.1), (0, .own 1000000), (1, vi aA), (2, vi aB), (3, .clo 40 [.ptr [vl eLabel aCmp0] 0]), (8, vi s1.1), (9, vi s5.1)], [(1000000, .arr 3 1 s5.2.length (s5.2.map (eI .i64)))]⟩) (by kernel_rfl) ?_
  refine DGo.cut [(21, fun b => b), (20, fun b => b)] (b := (decide (s5.1 > aA))) (by kernel_rfl) (fun hb => ?_) (fun hb => ?_)
  replace h := cond_t hb h
  refine DGo.chunk' tbok 3 (σ' := ⟨53, [(24, vi s5.1), (23, .own 1000000), (22, .clo 40 [.ptr [vl eLabel aCmp0] 0]), (21, vb true), (20, vb true), (19, vi aA), (18, vi s5.1), (0, .own 1000000), (1, vi aA), (2, vi aB), (3, .clo 40 [.ptr [vl eLabel aCmp0] 0]), (8, vi s1.1), (9, vi s5.1)], [(1000000, .arr 3 1 s5.2.length (s5.2.map (eI .i64)))]⟩) (by kernel_rfl) ?_
  obtain ⟨x7, hx7, h⟩ := bind_some h
  refine DGo.step (x_index_own (d := 1000000) (L := s5.2) (f := (eI .i64)) (ti := ti64) (tj := ti3) (e := 3) (e' := 3) (m := 1) (k := .i64) tbok rfl hx7) ?_
  refine DGo.step (x_load_own (d := 1000000) (m := 1) (j := 0) (L := s5.2) (f := (eI .i64)) (ti := ti3) (e := 3) (v := vi x7) tbok rfl hx7) ?_
  refine DGo.chunk' tbok 3 (σ' := ⟨53, [(29, vi (w64 (s5.1 - 1))), (28, vi s5.1), (27, .own 1000000), (26, vi x7), (25, .eref 1000000 1 (Int.toNat s5.1) 0), (24, vi s5.1), (23, .own 1000000), (22, .clo 40 [.ptr [vl eLabel aCmp0] 0]), (21, vb true), (20, vb true), (19, vi aA), (18, vi s5.1), (0, .own 1000000), (1, vi aA), (2, vi aB), (3, .clo 40 [.ptr [vl eLabel aCmp0] 0]), (8, vi s1.1), (9, vi s5.1)], [(1000000, .arr 3 1 s5.2.length (s5.2.map (eI .i64)))]⟩) (by kernel_rfl) ?_
  obtain ⟨x8, hx8, h⟩ := bind_some h
  refine DGo.step (x_index_own (d := 1000000) (L := s5.2) (f := (eI .i64)) (ti := ti64) (tj := ti3) (e := 3) (e' := 3) (m := 1) (k := .i64) tbok rfl hx8) ?_
  refine DGo.step (x_load_own (d := 1000000) (m := 1) (j := 0) (L := s5.2) (f := (eI .i64)) (ti := ti3) (e := 3) (v := vi x8) tbok rfl hx8) ?_
  obtain ⟨x9, hx9, h⟩ := bind_some h
  refine DGo.step (x_lstep_call (f := 40) (caps := [.ptr [vl eLabel aCmp0] 0]) (xs := [vi x7, vi x8]) (ys := [vi x7, vi x8, .ptr [vl eLabel aCmp0] 0]) (res := ⟨[.v (vi x9)], [], false⟩) (x := vi x9) (y := none) rfl ents40 (impl_GreedyPlacement_1_run x7 x8 aCmp0 _ hx9) rfl (by intro hc; cases hc)) ?_
  refine DGo.chunk' tbok 2 (σ' := ⟨53, [(34, vb (decide (x9 < 0))), (33, vb (decide (x9 < 0))), (32, vi x9), (31, vi x8), (30, .eref 1000000 1 (Int.toNat (w64 (s5.1 - 1))) 0), (29, vi (w64 (s5.1 - 1))), (28, vi s5.1), (27, .own 1000000), (26, vi x7), (25, .eref 1000000 1 (Int.toNat s5.1) 0), (24, vi s5.1), (23, .own 1000000), (22, .clo 40 [.ptr [vl eLabel aCmp0] 0]), (21, vb true), (20, vb true), (19, vi aA), (18, vi s5.1), (0, .own 1000000), (1, vi aA), (2, vi aB), (3, .clo 40 [.ptr [vl eLabel aCmp0] 0]), (8, vi s1.1), (9, vi s5.1)], [(1000000, .arr 3 1 s5.2.length (s5.2.map (eI .i64)))]⟩) (by kernel_rfl) ?_
  refine DGo.nil (by kernel_rfl) ?_
  replace h := Option.some.inj h
  subst h
  exact Le.sub0
  replace h := cond_f hb h
  refine DGo.chunk' tbok 13 (σ' := ⟨53, [(34, vb false), (33, .tup []), (32, .tup []), (31, .tup []), (30, .tup []), (29, .tup []), (28, .tup []), (27, .tup []), (26, .tup []), (25, .tup []), (24, .tup []), (23, .tup []), (22, .tup []), (21, vb false), (20, vb false), (19, vi aA), (18, vi s5.1), (0, .own 1000000), (1, vi aA), (2, vi aB), (3, .clo 40 [.ptr [vl eLabel aCmp0] 0]), (8, vi s1.1), (9, vi s5.1)], [(1000000, .arr 3 1 s5.2.length (s5.2.map (eI .i64)))]⟩) (by kernel_rfl) ?_
  refine DGo.nil (by kernel_rfl) ?_
  replace h := Option.some.inj h
  subst h
  exact Le.sub0
  refine swp_cond (b := j10) (by kernel_rfl) (fun hb => ?_) (fun hb => ?_)
  replace h := cond_t hb h
  refine swp_skip ?_
  refine nx_n ?_
  refine swp_seq ?_
  refine swp_seqJ h (fun j12 => ⟨53, [(0, .own 1000000), (1, vi aA), (2, vi aB), (3, .clo 40 [.ptr [vl eLabel aCmp0] 0]), (8, vi s1.1), (9, vi s5.1)], [(1000000, .arr 3 1 j12.length (j12.map (eI .i64)))]⟩) (fun v13 h => ?_) (fun j12 h => ?_)
  refine swp_blk (a := v13) ?_
  obtain ⟨x14, hx14, h⟩ := bind_some h
  obtain ⟨x15, hx15, h⟩ := bind_some h
  obtain ⟨x16, hx16, h⟩ := bind_some h
  obtain ⟨x17, hx17, h⟩ := bind_some h
  refine swp_dr mixed ?_
  refine DGo.enum (σE := ⟨53, [(0, .own 1000000), (1, vi aA), (2, vi aB), (3, .clo 40 [.ptr [vl eLabel aCmp0] 0]), (8, vi s1.1), (9, vi s5.1)], [(1000000, .arr 3 1 (List.set (List.set s5.2 (Int.toNat s5.1) x14) (Int.toNat (w64 (s5.1 - 1))) x15).length ((List.set (List.set s5.2 (Int.toNat s5.1) x14) (Int.toNat (w64 (s5.1 - 1))) x15).map (eI .i64)))]⟩) (n := 18) (L0 := #[false, false, false, false, false, false, false, false, false, false, false, false, false, false, false, false, false, false]) (by kernel_rfl) (by kernel_rfl) (fun K hk => ?_) ?_
  refine DE.share (fuel := 0) (L := #[true, true, true, true, true, true, true, true, true, true, true, true, true, true, true, true, true, true]) (σ := ⟨53, [(0, .own 1000000), (1, vi aA), (2, vi aB), (3, .clo 40 [.ptr [vl eLabel aCmp0] 0]), (8, vi s1.1), (9, vi s5.1)], [(1000000, .arr 3 1 (List.set (List.set s5.2 (Int.toNat s5.1) x14) (Int.toNat (w64 (s5.1 - 1))) x15).length ((List.set (List.set s5.2 (Int.toNat s5.1) x14) (Int.toNat (w64 (s5.1 - 1))) x15).map (eI .i64)))]⟩) ?_ (fun d37 => ?_)
  exact DE.done (by kernel_rfl) hk
  refine DE.share (fuel := 1) (L := #[true, true, true, true, true, true, true, true, true, true, true, true, true, true, true, true, true, false]) (σ := ⟨53, [(0, .own 1000000), (1, vi aA), (2, vi aB), (3, .clo 40 [.ptr [vl eLabel aCmp0] 0]), (8, vi s1.1), (9, vi s5.1), (50, vi x15), (52, .eref 1000000 1 (Int.toNat (w64 (s5.1 - 1))) 0)], [(1000000, .arr 3 1 (List.set s5.2 (Int.toNat s5.1) x14).length ((List.set s5.2 (Int.toNat s5.1) x14).map (eI .i64)))]⟩) ?_ (fun d36 => ?_)
  exact DE.all [17] (by kernel_rfl) (by simp) (List.forall_mem_cons.2 ⟨DEs.mk (i := 17) (L' := #[true, true, true, true, true, true, true, true, true, true, true, true, true, true, true, true, true, true]) rfl (EStep.le (x_store_own (d := 1000000) (m := 1) (j := 0) (L := (List.set s5.2 (Int.toNat s5.1) x14)) (f := (eI .i64)) (x := x15) (z := x17) (ti := ti3) (e := 3) (ts := [.int .i64 x15]) (vs := [vi x15]) (v := vi x15) tbok rfl rfl hx17) Le.sub0) (by kernel_rfl) d37, (fun _ h => absurd h List.not_mem_nil)⟩)
  refine DE.share (fuel := 2) (L := #[true, true, true, true, true, true, true, true, true, true, true, true, true, true, true, true, false, false]) (σ := ⟨53, [(0, .own 1000000), (1, vi aA), (2, vi aB), (3, .clo 40 [.ptr [vl eLabel aCmp0] 0]), (8, vi s1.1), (9, vi s5.1), (39, .own 1000000), (41, vi (w64 (s5.1 - 1))), (50, vi x15)], [(1000000, .arr 3 1 (List.set s5.2 (Int.toNat s5.1) x14).length ((List.set s5.2 (Int.toNat s5.1) x14).map (eI .i64)))]⟩) ?_ (fun d35 => ?_)
  exact DE.all [16] (by kernel_rfl) (by simp) (List.forall_mem_cons.2 ⟨DEs.mk (i := 16) (L' := #[true, true, true, true, true, true, true, true, true, true, true, true, true, true, true, true, true, false]) rfl (EStep.le (EStep.ofL (x_index_own (d := 1000000) (L := (List.set s5.2 (Int.toNat s5.1) x14)) (f := (eI .i64)) (ti := ti64) (tj := ti3) (e := 3) (e' := 3) (m := 1) (k := .i64) tbok rfl hx17) (by kernel_rfl)) Le.sub0) (by kernel_rfl) d36, (fun _ h => absurd h List.not_mem_nil)⟩)
  refine DE.share (fuel := 3) (L := #[true, true, true, true, false, true, true, true, true, true, true, true, true, true, true, true, false, false]) (σ := ⟨53, [(0, .own 1000000), (1, vi aA), (2, vi aB), (3, .clo 40 [.ptr [vl eLabel aCmp0] 0]), (8, vi s1.1), (9, vi s5.1), (39, .own 1000000), (40, vi s5.1), (50, vi x15)], [(1000000, .arr 3 1 (List.set s5.2 (Int.toNat s5.1) x14).length ((List.set s5.2 (Int.toNat s5.1) x14).map (eI .i64)))]⟩) ?_ (fun d34 => ?_)
  exact DE.all [4] (by kernel_rfl) (by simp) (List.forall_mem_cons.2 ⟨DEs.mk (i := 4) (L' := #[true, true, true, true, true, true, true, true, true, true, true, true, true, true, true, true, false, false]) rfl (EStep.le (EStep.ofN2 tbok (σ' := ⟨53, [(41, vi (w64 (s5.1 - 1))), (0, .own 1000000), (1, vi aA), (2, vi aB), (3, .clo 40 [.ptr [vl eLabel aCmp0] 0]), (8, vi s1.1), (9, vi s5.1), (39, .own 1000000), (40, vi s5.1), (50, vi x15)], [(1000000, .arr 3 1 (List.set s5.2 (Int.toNat s5.1) x14).length ((List.set s5.2 (Int.toNat s5.1) x14).map (eI .i64)))]⟩) (by kernel_rfl)) Le.sub0) (by kernel_rfl) d35, (fun _ h => absurd h List.not_mem_nil)⟩)
  refine DE.share (fuel := 3) (L := #[true, true, true, true, true, true, true, true, true, true, true, true, true, true, true, false, false, false]) (σ := ⟨53, [(0, .own 1000000), (1, vi aA), (2, vi aB), (3, .clo 40 [.ptr [vl eLabel aCmp0] 0]), (8, vi s1.1), (9, vi s5.1), (39, .own 1000000), (41, vi (w64 (s5.1 - 1))), (46, vi x14), (50, vi x15), (51, .eref 1000000 1 (Int.toNat s5.1) 0)], [(1000000, .arr 3 1 s5.2.length (s5.2.map (eI .i64)))]⟩) ?_ (fun d33 => ?_)
  exact DE.all [15] (by kernel_rfl) (by simp) (List.forall_mem_cons.2 ⟨DEs.mk (i := 15) (L' := #[true, true, true, true, true, true, true, true, true, true, true, true, true, true, true, true, false, false]) rfl (EStep.le (x_store_own (d := 1000000) (m := 1) (j := 0) (L := s5.2) (f := (eI .i64)) (x := x14) (z := x16) (ti := ti3) (e := 3) (ts := [.int .i64 x14]) (vs := [vi x14]) (v := vi x14) tbok rfl rfl hx16) Le.sub0) (by kernel_rfl) d35, (fun _ h => absurd h List.not_mem_nil)⟩)
  refine DE.share (fuel := 4) (L := #[true, true, true, true, false, true, true, true, true, true, true, true, true, true, true, false, false, false]) (σ := ⟨53, [(0, .own 1000000), (1, vi aA), (2, vi aB), (3, .clo 40 [.ptr [vl eLabel aCmp0] 0]), (8, vi s1.1), (9, vi s5.1), (39, .own 1000000), (40, vi s5.1), (46, vi x14), (50, vi x15), (51, .eref 1000000 1 (Int.toNat s5.1) 0)], [(1000000, .arr 3 1 s5.2.length (s5.2.map (eI .i64)))]⟩) ?_ (fun d32 => ?_)
  exact DE.all [4, 15] (by kernel_rfl) (by simp) (List.forall_mem_cons.2 ⟨DEs.mk (i := 4) (L' := #[true, true, true, true, true, true, true, true, true, true, true, true, true, true, true, false, false, false]) rfl (EStep.le (EStep.ofN2 tbok (σ' := ⟨53, [(41, vi (w64 (s5.1 - 1))), (0, .own 1000000), (1, vi aA), (2, vi aB), (3, .clo 40 [.ptr [vl eLabel aCmp0] 0]), (8, vi s1.1), (9, vi s5.1), (39, .own 1000000), (40, vi s5.1), (46, vi x14), (50, vi x15), (51, .eref 1000000 1 (Int.toNat s5.1) 0)], [(1000000, .arr 3 1 s5.2.length (s5.2.map (eI .i64)))]⟩) (by kernel_rfl)) Le.sub0) (by kernel_rfl) d33, (List.forall_mem_cons.2 ⟨DEs.mk (i := 15) (L' := #[true, true, true, true, false, true, true, true, true, true, true, true, true, true, true, true, false, false]) rfl (EStep.le (x_store_own (d := 1000000) (m := 1) (j := 0) (L := s5.2) (f := (eI .i64)) (x := x14) (z := x16) (ti := ti3) (e := 3) (ts := [.int .i64 x14]) (vs := [vi x14]) (v := vi x14) tbok rfl rfl hx16) Le.sub0) (by kernel_rfl) d34, (fun _ h => absurd h List.not_mem_nil)⟩)⟩)
  refine DE.share (fuel := 4) (L := #[true, true, true, true, true, true, true, true, true, true, true, true, true, true, false, false, false, false]) (σ := ⟨53, [(0, .own 1000000), (1, vi aA), (2, vi aB), (3, .clo 40 [.ptr [vl eLabel aCmp0] 0]), (8, vi s1.1), (9, vi s5.1), (37, .own 1000000), (38, vi s5.1), (39, .own 1000000), (41, vi (w64 (s5.1 - 1))), (46, vi x14), (50, vi x15)], [(1000000, .arr 3 1 s5.2.length (s5.2.map (eI .i64)))]⟩) ?_ (fun d31 => ?_)
  exact DE.all [14] (by kernel_rfl) (by simp) (List.forall_mem_cons.2 ⟨DEs.mk (i := 14) (L' := #[true, true, true, true, true, true, true, true, true, true, true, true, true, true, true, false, false, false]) rfl (EStep.le (EStep.ofL (x_index_own (d := 1000000) (L := s5.2) (f := (eI .i64)) (ti := ti64) (tj := ti3) (e := 3) (e' := 3) (m := 1) (k := .i64) tbok rfl hx16) (by kernel_rfl)) Le.sub0) (by kernel_rfl) d33, (fun _ h => absurd h List.not_mem_nil)⟩)
  refine DE.share (fuel := 5) (L := #[true, true, true, true, false, true, true, true, true, true, true, true, true, true, false, false, false, false]) (σ := ⟨53, [(0, .own 1000000), (1, vi aA), (2, vi aB), (3, .clo 40 [.ptr [vl eLabel aCmp0] 0]), (8, vi s1.1), (9, vi s5.1), (37, .own 1000000), (38, vi s5.1), (39, .own 1000000), (40, vi s5.1), (46, vi x14), (50, vi x15)], [(1000000, .arr 3 1 s5.2.length (s5.2.map (eI .i64)))]⟩) ?_ (fun d30 => ?_)
  exact DE.all [4, 14] (by kernel_rfl) (by simp) (List.forall_mem_cons.2 ⟨DEs.mk (i := 4) (L' := #[true, true, true, true, true, true, true, true, true, true, true, true, true, true, false, false, false, false]) rfl (EStep.le (EStep.ofN2 tbok (σ' := ⟨53, [(41, vi (w64 (s5.1 - 1))), (0, .own 1000000), (1, vi aA), (2, vi aB), (3, .clo 40 [.ptr [vl eLabel aCmp0] 0]), (8, vi s1.1), (9, vi s5.1), (37, .own 1000000), (38, vi s5.1), (39, .own 1000000), (40, vi s5.1), (46, vi x14), (50, vi x15)], [(1000000, .arr 3 1 s5.2.length (s5.2.map (eI .i64)))]⟩) (by kernel_rfl)) Le.sub0) (by kernel_rfl) d31, (List.forall_mem_cons.2 ⟨DEs.mk (i := 14) (L' := #[true, true, true, true, false, true, true, true, true, true, true, true, true, true, true, false, false, false]) rfl (EStep.le (EStep.ofL (x_index_own (d := 1000000) (L := s5.2) (f := (eI .i64)) (ti := ti64) (tj := ti3) (e := 3) (e' := 3) (m := 1) (k := .i64) tbok rfl hx16) (by kernel_rfl)) Le.sub0) (by kernel_rfl) d32, (fun _ h => absurd h List.not_mem_nil)⟩)⟩)
  refine DE.share (fuel := 5) (L := #[true, true, true, true, true, true, true, true, true, false, true, true, true, true, false, false, false, false]) (σ := ⟨53, [(0, .own 1000000), (1, vi aA), (2, vi aB), (3, .clo 40 [.ptr [vl eLabel aCmp0] 0]), (8, vi s1.1), (9, vi s5.1), (37, .own 1000000), (38, vi s5.1), (39, .own 1000000), (41, vi (w64 (s5.1 - 1))), (45, .eref 1000000 1 (Int.toNat (w64 (s5.1 - 1))) 0), (50, vi x15)], [(1000000, .arr 3 1 s5.2.length (s5.2.map (eI .i64)))]⟩) ?_ (fun d29 => ?_)
  exact DE.all [9] (by kernel_rfl) (by simp) (List.forall_mem_cons.2 ⟨DEs.mk (i := 9) (L' := #[true, true, true, true, true, true, true, true, true, true, true, true, true, true, false, false, false, false]) rfl (EStep.le (EStep.ofL (x_load_own (d := 1000000) (m := 1) (j := 0) (L := s5.2) (f := (eI .i64)) (ti := ti3) (e := 3) (v := vi x14) tbok rfl hx14) (by kernel_rfl)) Le.sub0) (by kernel_rfl) d31, (fun _ h => absurd h List.not_mem_nil)⟩)
  refine DE.share (fuel := 5) (L := #[true, true, true, true, true, true, true, true, true, true, true, true, true, false, false, false, false, false]) (σ := ⟨53, [(0, .own 1000000), (1, vi aA), (2, vi aB), (3, .clo 40 [.ptr [vl eLabel aCmp0] 0]), (8, vi s1.1), (9, vi s5.1), (37, .own 1000000), (38, vi s5.1), (39, .own 1000000), (41, vi (w64 (s5.1 - 1))), (46, vi x14), (49, .eref 1000000 1 (Int.toNat s5.1) 0)], [(1000000, .arr 3 1 s5.2.length (s5.2.map (eI .i64)))]⟩) ?_ (fun d28 => ?_)
  exact DE.all [13] (by kernel_rfl) (by simp) (List.forall_mem_cons.2 ⟨DEs.mk (i := 13) (L' := #[true, true, true, true, true, true, true, true, true, true, true, true, true, true, false, false, false, false]) rfl (EStep.le (EStep.ofL (x_load_own (d := 1000000) (m := 1) (j := 0) (L := s5.2) (f := (eI .i64)) (ti := ti3) (e := 3) (v := vi x15) tbok rfl hx15) (by kernel_rfl)) Le.sub0) (by kernel_rfl) d31, (fun _ h => absurd h List.not_mem_nil)⟩)
  refine DE.share (fuel := 6) (L := #[true, true, true, true, false, true, true, true, true, false, true, true, true, true, false, false, false, false]) (σ := ⟨53, [(0, .own 1000000), (1, vi aA), (2, vi aB), (3, .clo 40 [.ptr [vl eLabel aCmp0] 0]), (8, vi s1.1), (9, vi s5.1), (37, .own 1000000), (38, vi s5.1), (39, .own 1000000), (40, vi s5.1), (45, .eref 1000000 1 (Int.toNat (w64 (s5.1 - 1))) 0), (50, vi x15)], [(1000000, .arr 3 1 s5.2.length (s5.2.map (eI .i64)))]⟩) ?_ (fun d27 => ?_)
  exact DE.all [4, 9] (by kernel_rfl) (by simp) (List.forall_mem_cons.2 ⟨DEs.mk (i := 4) (L' := #[true, true, true, true, true, true, true, true, true, false, true, true, true, true, false, false, false, false]) rfl (EStep.le (EStep.ofN2 tbok (σ' := ⟨53, [(41, vi (w64 (s5.1 - 1))), (0, .own 1000000), (1, vi aA), (2, vi aB), (3, .clo 40 [.ptr [vl eLabel aCmp0] 0]), (8, vi s1.1), (9, vi s5.1), (37, .own 1000000), (38, vi s5.1), (39, .own 1000000), (40, vi s5.1), (45, .eref 1000000 1 (Int.toNat (w64 (s5.1 - 1))) 0), (50, vi x15)], [(1000000, .arr 3 1 s5.2.length (s5.2.map (eI .i64)))]⟩) (by kernel_rfl)) Le.sub0) (by kernel_rfl) d29, (List.forall_mem_cons.2 ⟨DEs.mk (i := 9) (L' := #[true, true, true, true, false, true, true, true, true, true, true, true, true, true, false, false, false, false]) rfl (EStep.le (EStep.ofL (x_load_own (d := 1000000) (m := 1) (j := 0) (L := s5.2) (f := (eI .i64)) (ti := ti3) (e := 3) (v := vi x14) tbok rfl hx14) (by kernel_rfl)) Le.sub0) (by kernel_rfl) d30, (fun _ h => absurd h List.not_mem_nil)⟩)⟩)
  refine DE.share (fuel := 6) (L := #[true, true, true, true, false, true, true, true, true, true, true, true, true, false, false, false, false, false]) (σ := ⟨53, [(0, .own 1000000), (1, vi aA), (2, vi aB), (3, .clo 40 [.ptr [vl eLabel aCmp0] 0]), (8, vi s1.1), (9, vi s5.1), (37, .own 1000000), (38, vi s5.1), (39, .own 1000000), (40, vi s5.1), (46, vi x14), (49, .eref 1000000 1 (Int.toNat s5.1) 0)], [(1000000, .arr 3 1 s5.2.length (s5.2.map (eI .i64)))]⟩) ?_ (fun d26 => ?_)
  exact DE.all [4, 13] (by kernel_rfl) (by simp) (List.forall_mem_cons.2 ⟨DEs.mk (i := 4) (L' := #[true, true, true, true, true, true, true, true, true, true, true, true, true, false, false, false, false, false]) rfl (EStep.le (EStep.ofN2 tbok (σ' := ⟨53, [(41, vi (w64 (s5.1 - 1))), (0, .own 1000000), (1, vi aA), (2, vi aB), (3, .clo 40 [.ptr [vl eLabel aCmp0] 0]), (8, vi s1.1), (9, vi s5.1), (37, .own 1000000), (38, vi s5.1), (39, .own 1000000), (40, vi s5.1), (46, vi x14), (49, .eref 1000000 1 (Int.toNat s5.1) 0)], [(1000000, .arr 3 1 s5.2.length (s5.2.map (eI .i64)))]⟩) (by kernel_rfl)) Le.sub0) (by kernel_rfl) d28, (List.forall_mem_cons.2 ⟨DEs.mk (i := 13) (L' := #[true, true, true, true, false, true, true, true, true, true, true, true, true, true, false, false, false, false]) rfl (EStep.le (EStep.ofL (x_load_own (d := 1000000) (m := 1) (j := 0) (L := s5.2) (f := (eI .i64)) (ti := ti3) (e := 3) (v := vi x15) tbok rfl hx15) (by kernel_rfl)) Le.sub0) (by kernel_rfl) d30, (fun _ h => absurd h List.not_mem_nil)⟩)⟩)
  refine DE.share (fuel := 6) (L := #[true, true, true, true, true, true, true, true, false, false, true, true, true, true, false, false, false, false]) (σ := ⟨53, [(0, .own 1000000), (1, vi aA), (2, vi aB), (3, .clo 40 [.ptr [vl eLabel aCmp0] 0]), (8, vi s1.1), (9, vi s5.1), (37, .own 1000000), (38, vi s5.1), (39, .own 1000000), (41, vi (w64 (s5.1 - 1))), (42, .own 1000000), (44, vi (w64 (s5.1 - 1))), (50, vi x15)], [(1000000, .arr 3 1 s5.2.length (s5.2.map (eI .i64)))]⟩) ?_ (fun d25 => ?_)
  exact DE.all [8] (by kernel_rfl) (by simp) (List.forall_mem_cons.2 ⟨DEs.mk (i := 8) (L' := #[true, true, true, true, true, true, true, true, true, false, true, true, true, true, false, false, false, false]) rfl (EStep.le (EStep.ofL (x_index_own (d := 1000000) (L := s5.2) (f := (eI .i64)) (ti := ti64) (tj := ti3) (e := 3) (e' := 3) (m := 1) (k := .i64) tbok rfl hx14) (by kernel_rfl)) Le.sub0) (by kernel_rfl) d29, (fun _ h => absurd h List.not_mem_nil)⟩)
  refine DE.share (fuel := 6) (L := #[true, true, true, true, true, true, true, true, true, false, true, true, true, false, false, false, false, false]) (σ := ⟨53, [(0, .own 1000000), (1, vi aA), (2, vi aB), (3, .clo 40 [.ptr [vl eLabel aCmp0] 0]), (8, vi s1.1), (9, vi s5.1), (37, .own 1000000), (38, vi s5.1), (39, .own 1000000), (41, vi (w64 (s5.1 - 1))), (45, .eref 1000000 1 (Int.toNat (w64 (s5.1 - 1))) 0), (49, .eref 1000000 1 (Int.toNat s5.1) 0)], [(1000000, .arr 3 1 s5.2.length (s5.2.map (eI .i64)))]⟩) ?_ (fun d24 => ?_)
  exact DE.all [9, 13] (by kernel_rfl) (by simp) (List.forall_mem_cons.2 ⟨DEs.mk (i := 9) (L' := #[true, true, true, true, true, true, true, true, true, true, true, true, true, false, false, false, false, false]) rfl (EStep.le (EStep.ofL (x_load_own (d := 1000000) (m := 1) (j := 0) (L := s5.2) (f := (eI .i64)) (ti := ti3) (e := 3) (v := vi x14) tbok rfl hx14) (by kernel_rfl)) Le.sub0) (by kernel_rfl) d28, (List.forall_mem_cons.2 ⟨DEs.mk (i := 13) (L' := #[true, true, true, true, true, true, true, true, true, false, true, true, true, true, false, false, false, false]) rfl (EStep.le (EStep.ofL (x_load_own (d := 1000000) (m := 1) (j := 0) (L := s5.2) (f := (eI .i64)) (ti := ti3) (e := 3) (v := vi x15) tbok rfl hx15) (by kernel_rfl)) Le.sub0) (by kernel_rfl) d29, (fun _ h => absurd h List.not_mem_nil)⟩)⟩)
  refine DE.share (fuel := 6) (L := #[true, true, true, true, true, true, true, true, true, true, true, true, false, false, false, false, false, false]) (σ := ⟨53, [(0, .own 1000000), (1, vi aA), (2, vi aB), (3, .clo 40 [.ptr [vl eLabel aCmp0] 0]), (8, vi s1.1), (9, vi s5.1), (37, .own 1000000), (38, vi s5.1), (39, .own 1000000), (41, vi (w64 (s5.1 - 1))), (46, vi x14), (47, .own 1000000), (48, vi s5.1)], [(1000000, .arr 3 1 s5.2.length (s5.2.map (eI .i64)))]⟩) ?_ (fun d23 => ?_)
  exact DE.all [12] (by kernel_rfl) (by simp) (List.forall_mem_cons.2 ⟨DEs.mk (i := 12) (L' := #[true, true, true, true, true, true, true, true, true, true, true, true, true, false, false, false, false, false]) rfl (EStep.le (EStep.ofL (x_index_own (d := 1000000) (L := s5.2) (f := (eI .i64)) (ti := ti64) (tj := ti3) (e := 3) (e' := 3) (m := 1) (k := .i64) tbok rfl hx15) (by kernel_rfl)) Le.sub0) (by kernel_rfl) d28, (fun _ h => absurd h List.not_mem_nil)⟩)
  refine DE.share (fuel := 7) (L := #[true, true, true, true, false, true, true, true, false, false, true, true, true, true, false, false, false, false]) (σ := ⟨53, [(0, .own 1000000), (1, vi aA), (2, vi aB), (3, .clo 40 [.ptr [vl eLabel aCmp0] 0]), (8, vi s1.1), (9, vi s5.1), (37, .own 1000000), (38, vi s5.1), (39, .own 1000000), (40, vi s5.1), (42, .own 1000000), (44, vi (w64 (s5.1 - 1))), (50, vi x15)], [(1000000, .arr 3 1 s5.2.length (s5.2.map (eI .i64)))]⟩) ?_ (fun d22 => ?_)
  exact DE.all [4, 8] (by kernel_rfl) (by simp) (List.forall_mem_cons.2 ⟨DEs.mk (i := 4) (L' := #[true, true, true, true, true, true, true, true, false, false, true, true, true, true, false, false, false, false]) rfl (EStep.le (EStep.ofN2 tbok (σ' := ⟨53, [(41, vi (w64 (s5.1 - 1))), (0, .own 1000000), (1, vi aA), (2, vi aB), (3, .clo 40 [.ptr [vl eLabel aCmp0] 0]), (8, vi s1.1), (9, vi s5.1), (37, .own 1000000), (38, vi s5.1), (39, .own 1000000), (40, vi s5.1), (42, .own 1000000), (44, vi (w64 (s5.1 - 1))), (50, vi x15)], [(1000000, .arr 3 1 s5.2.length (s5.2.map (eI .i64)))]⟩) (by kernel_rfl)) Le.sub0) (by kernel_rfl) d25, (List.forall_mem_cons.2 ⟨DEs.mk (i := 8) (L' := #[true, true, true, true, false, true, true, true, true, false, true, true, true, true, false, false, false, false]) rfl (EStep.le (EStep.ofL (x_index_own (d := 1000000) (L := s5.2) (f := (eI .i64)) (ti := ti64) (tj := ti3) (e := 3) (e' := 3) (m := 1) (k := .i64) tbok rfl hx14) (by kernel_rfl)) Le.sub0) (by kernel_rfl) d27, (fun _ h => absurd h List.not_mem_nil)⟩)⟩)
  refine DE.share (fuel := 7) (L := #[true, true, true, true, false, true, true, true, true, false, true, true, true, false, false, false, false, false]) (σ := ⟨53, [(0, .own 1000000), (1, vi aA), (2, vi aB), (3, .clo 40 [.ptr [vl eLabel aCmp0] 0]), (8, vi s1.1), (9, vi s5.1), (37, .own 1000000), (38, vi s5.1), (39, .own 1000000), (40, vi s5.1), (45, .eref 1000000 1 (Int.toNat (w64 (s5.1 - 1))) 0), (49, .eref 1000000 1 (Int.toNat s5.1) 0)], [(1000000, .arr 3 1 s5.2.length (s5.2.map (eI .i64)))]⟩) ?_ (fun d21 => ?_)
  exact DE.all [4, 9, 13] (by kernel_rfl) (by simp) (List.forall_mem_cons.2 ⟨DEs.mk (i := 4) (L' := #[true, true, true, true, true, true, true, true, true, false, true, true, true, false, false, false, false, false]) rfl (EStep.le (EStep.ofN2 tbok (σ' := ⟨53, [(41, vi (w64 (s5.1 - 1))), (0, .own 1000000), (1, vi aA), (2, vi aB), (3, .clo 40 [.ptr [vl eLabel aCmp0] 0]), (8, vi s1.1), (9, vi s5.1), (37, .own 1000000), (38, vi s5.1), (39, .own 1000000), (40, vi s5.1), (45, .eref 1000000 1 (Int.toNat (w64 (s5.1 - 1))) 0), (49, .eref 1000000 1 (Int.toNat s5.1) 0)], [(1000000, .arr 3 1 s5.2.length (s5.2.map (eI .i64)))]⟩) (by kernel_rfl)) Le.sub0) (by kernel_rfl) d24, (List.forall_mem_cons.2 ⟨DEs.mk (i := 9) (L' := #[true, true, true, true, false, true, true, true, true, true, true, true, true, false, false, false, false, false]) rfl (EStep.le (EStep.ofL (x_load_own (d := 1000000) (m := 1) (j := 0) (L := s5.2) (f := (eI .i64)) (ti := ti3) (e := 3) (v := vi x14) tbok rfl hx14) (by kernel_rfl)) Le.sub0) (by kernel_rfl) d26, (List.forall_mem_cons.2 ⟨DEs.mk (i := 13) (L' := #[true, true, true, true, false, true, true, true, true, false, true, true, true, true, false, false, false, false]) rfl (EStep.le (EStep.ofL (x_load_own (d := 1000000) (m := 1) (j := 0) (L := s5.2) (f := (eI .i64)) (ti := ti3) (e := 3) (v := vi x15) tbok rfl hx15) (by kernel_rfl)) Le.sub0) (by kernel_rfl) d27, (fun _ h => absurd h List.not_mem_nil)⟩)⟩)⟩)
  refine DE.share (fuel := 7) (L := #[true, true, true, true, false, true, true, true, true, true, true, true, false, false, false, false, false, false]) (σ := ⟨53, [(0, .own 1000000), (1, vi aA), (2, vi aB), (3, .clo 40 [.ptr [vl eLabel aCmp0] 0]), (8, vi s1.1), (9, vi s5.1), (37, .own 1000000), (38, vi s5.1), (39, .own 1000000), (40, vi s5.1), (46, vi x14), (47, .own 1000000), (48, vi s5.1)], [(1000000, .arr 3 1 s5.2.length (s5.2.map (eI .i64)))]⟩) ?_ (fun d20 => ?_)
  exact DE.all [4, 12] (by kernel_rfl) (by simp) (List.forall_mem_cons.2 ⟨DEs.mk (i := 4) (L' := #[true, true, true, true, true, true, true, true, true, true, true, true, false, false, false, false, false, false]) rfl (EStep.le (EStep.ofN2 tbok (σ' := ⟨53, [(41, vi (w64 (s5.1 - 1))), (0, .own 1000000), (1, vi aA), (2, vi aB), (3, .clo 40 [.ptr [vl eLabel aCmp0] 0]), (8, vi s1.1), (9, vi s5.1), (37, .own 1000000), (38, vi s5.1), (39, .own 1000000), (40, vi s5.1), (46, vi x14), (47, .own 1000000), (48, vi s5.1)], [(1000000, .arr 3 1 s5.2.length (s5.2.map (eI .i64)))]⟩) (by kernel_rfl)) Le.sub0) (by kernel_rfl) d23, (List.forall_mem_cons.2 ⟨DEs.mk (i := 12) (L' := #[true, true, true, true, false, true, true, true, true, true, true, true, true, false, false, false, false, false]) rfl (EStep.le (EStep.ofL (x_index_own (d := 1000000) (L := s5.2) (f := (eI .i64)) (ti := ti64) (tj := ti3) (e := 3) (e' := 3) (m := 1) (k := .i64) tbok rfl hx15) (by kernel_rfl)) Le.sub0) (by kernel_rfl) d26, (fun _ h => absurd h List.not_mem_nil)⟩)⟩)
  refine DE.share (fuel := 7) (L := #[true, true, true, true, true, true, true, false, false, false, true, true, true, true, false, false, false, false]) (σ := ⟨53, [(0, .own 1000000), (1, vi aA), (2, vi aB), (3, .clo 40 [.ptr [vl eLabel aCmp0] 0]), (8, vi s1.1), (9, vi s5.1), (37, .own 1000000), (38, vi s5.1), (39, .own 1000000), (41, vi (w64 (s5.1 - 1))), (42, .own 1000000), (43, vi s5.1), (50, vi x15)], [(1000000, .arr 3 1 s5.2.length (s5.2.map (eI .i64)))]⟩) ?_ (fun d19 => ?_)
  exact DE.all [7] (by kernel_rfl) (by simp) (List.forall_mem_cons.2 ⟨DEs.mk (i := 7) (L' := #[true, true, true, true, true, true, true, true, false, false, true, true, true, true, false, false, false, false]) rfl (EStep.le (EStep.ofN2 tbok (σ' := ⟨53, [(44, vi (w64 (s5.1 - 1))), (0, .own 1000000), (1, vi aA), (2, vi aB), (3, .clo 40 [.ptr [vl eLabel aCmp0] 0]), (8, vi s1.1), (9, vi s5.1), (37, .own 1000000), (38, vi s5.1), (39, .own 1000000), (41, vi (w64 (s5.1 - 1))), (42, .own 1000000), (43, vi s5.1), (50, vi x15)], [(1000000, .arr 3 1 s5.2.length (s5.2.map (eI .i64)))]⟩) (by kernel_rfl)) Le.sub0) (by kernel_rfl) d25, (fun _ h => absurd h List.not_mem_nil)⟩)
  refine DE.share (fuel := 7) (L := #[true, true, true, true, true, true, true, true, false, false, true, true, true, false, false, false, false, false]) (σ := ⟨53, [(0, .own 1000000), (1, vi aA), (2, vi aB), (3, .clo 40 [.ptr [vl eLabel aCmp0] 0]), (8, vi s1.1), (9, vi s5.1), (37, .own 1000000), (38, vi s5.1), (39, .own 1000000), (41, vi (w64 (s5.1 - 1))), (42, .own 1000000), (44, vi (w64 (s5.1 - 1))), (49, .eref 1000000 1 (Int.toNat s5.1) 0)], [(1000000, .arr 3 1 s5.2.length (s5.2.map (eI .i64)))]⟩) ?_ (fun d18 => ?_)
  exact DE.all [8, 13] (by kernel_rfl) (by simp) (List.forall_mem_cons.2 ⟨DEs.mk (i := 8) (L' := #[true, true, true, true, true, true, true, true, true, false, true, true, true, false, false, false, false, false]) rfl (EStep.le (EStep.ofL (x_index_own (d := 1000000) (L := s5.2) (f := (eI .i64)) (ti := ti64) (tj := ti3) (e := 3) (e' := 3) (m := 1) (k := .i64) tbok rfl hx14) (by kernel_rfl)) Le.sub0) (by kernel_rfl) d24, (List.forall_mem_cons.2 ⟨DEs.mk (i := 13) (L' := #[true, true, true, true, true, true, true, true, false, false, true, true, true, true, false, false, false, false]) rfl (EStep.le (EStep.ofL (x_load_own (d := 1000000) (m := 1) (j := 0) (L := s5.2) (f := (eI .i64)) (ti := ti3) (e := 3) (v := vi x15) tbok rfl hx15) (by kernel_rfl)) Le.sub0) (by kernel_rfl) d25, (fun _ h => absurd h List.not_mem_nil)⟩)⟩)
  refine DE.share (fuel := 7) (L := #[true, true, true, true, true, true, true, true, true, false, true, true, false, false, false, false, false, false]) (σ := ⟨53, [(0, .own 1000000), (1, vi aA), (2, vi aB), (3, .clo 40 [.ptr [vl eLabel aCmp0] 0]), (8, vi s1.1), (9, vi s5.1), (37, .own 1000000), (38, vi s5.1), (39, .own 1000000), (41, vi (w64 (s5.1 - 1))), (45, .eref 1000000 1 (Int.toNat (w64 (s5.1 - 1))) 0), (47, .own 1000000), (48, vi s5.1)], [(1000000, .arr 3 1 s5.2.length (s5.2.map (eI .i64)))]⟩) ?_ (fun d17 => ?_)
  exact DE.all [9, 12] (by kernel_rfl) (by simp) (List.forall_mem_cons.2 ⟨DEs.mk (i := 9) (L' := #[true, true, true, true, true, true, true, true, true, true, true, true, false, false, false, false, false, false]) rfl (EStep.le (EStep.ofL (x_load_own (d := 1000000) (m := 1) (j := 0) (L := s5.2) (f := (eI .i64)) (ti := ti3) (e := 3) (v := vi x14) tbok rfl hx14) (by kernel_rfl)) Le.sub0) (by kernel_rfl) d23, (List.forall_mem_cons.2 ⟨DEs.mk (i := 12) (L' := #[true, true, true, true, true, true, true, true, true, false, true, true, true, false, false, false, false, false]) rfl (EStep.le (EStep.ofL (x_index_own (d := 1000000) (L := s5.2) (f := (eI .i64)) (ti := ti64) (tj := ti3) (e := 3) (e' := 3) (m := 1) (k := .i64) tbok rfl hx15) (by kernel_rfl)) Le.sub0) (by kernel_rfl) d24, (fun _ h => absurd h List.not_mem_nil)⟩)⟩)
  refine DE.share (fuel := 8) (L := #[true, true, true, true, false, true, true, false, false, false, true, true, true, true, false, false, false, false]) (σ := ⟨53, [(0, .own 1000000), (1, vi aA), (2, vi aB), (3, .clo 40 [.ptr [vl eLabel aCmp0] 0]), (8, vi s1.1), (9, vi s5.1), (37, .own 1000000), (38, vi s5.1), (39, .own 1000000), (40, vi s5.1), (42, .own 1000000), (43, vi s5.1), (50, vi x15)], [(1000000, .arr 3 1 s5.2.length (s5.2.map (eI .i64)))]⟩) ?_ (fun d16 => ?_)
  exact DE.all [4, 7] (by kernel_rfl) (by simp) (List.forall_mem_cons.2 ⟨DEs.mk (i := 4) (L' := #[true, true, true, true, true, true, true, false, false, false, true, true, true, true, false, false, false, false]) rfl (EStep.le (EStep.ofN2 tbok (σ' := ⟨53, [(41, vi (w64 (s5.1 - 1))), (0, .own 1000000), (1, vi aA), (2, vi aB), (3, .clo 40 [.ptr [vl eLabel aCmp0] 0]), (8, vi s1.1), (9, vi s5.1), (37, .own 1000000), (38, vi s5.1), (39, .own 1000000), (40, vi s5.1), (42, .own 1000000), (43, vi s5.1), (50, vi x15)], [(1000000, .arr 3 1 s5.2.length (s5.2.map (eI .i64)))]⟩) (by kernel_rfl)) Le.sub0) (by kernel_rfl) d19, (List.forall_mem_cons.2 ⟨DEs.mk (i := 7) (L' := #[true, true, true, true, false, true, true, true, false, false, true, true, true, true, false, false, false, false]) rfl (EStep.le (EStep.ofN2 tbok (σ' := ⟨53, [(44, vi (w64 (s5.1 - 1))), (0, .own 1000000), (1, vi aA), (2, vi aB), (3, .clo 40 [.ptr [vl eLabel aCmp0] 0]), (8, vi s1.1), (9, vi s5.1), (37, .own 1000000), (38, vi s5.1), (39, .own 1000000), (40, vi s5.1), (42, .own 1000000), (43, vi s5.1), (50, vi x15)], [(1000000, .arr 3 1 s5.2.length (s5.2.map (eI .i64)))]⟩) (by kernel_rfl)) Le.sub0) (by kernel_rfl) d22, (fun _ h => absurd h List.not_mem_nil)⟩)⟩)
  refine DE.share (fuel := 8) (L := #[true, true, true, true, false, true, true, true, false, false, true, true, true, false, false, false, false, false]) (σ := ⟨53, [(0, .own 1000000), (1, vi aA), (2, vi aB), (3, .clo 40 [.ptr [vl eLabel aCmp0] 0]), (8, vi s1.1), (9, vi s5.1), (37, .own 1000000), (38, vi s5.1), (39, .own 1000000), (40, vi s5.1), (42, .own 1000000), (44, vi (w64 (s5.1 - 1))), (49, .eref 1000000 1 (Int.toNat s5.1) 0)], [(1000000, .arr 3 1 s5.2.length (s5.2.map (eI .i64)))]⟩) ?_ (fun d15 => ?_)
  exact DE.all [4, 8, 13] (by kernel_rfl) (by simp) (List.forall_mem_cons.2 ⟨DEs.mk (i := 4) (L' := #[true, true, true, true, true, true, true, true, false, false, true, true, true, false, false, false, false, false]) rfl (EStep.le (EStep.ofN2 tbok (σ' := ⟨53, [(41, vi (w64 (s5.1 - 1))), (0, .own 1000000), (1, vi aA), (2, vi aB), (3, .clo 40 [.ptr [vl eLabel aCmp0] 0]), (8, vi s1.1), (9, vi s5.1), (37, .own 1000000), (38, vi s5.1), (39, .own 1000000), (40, vi s5.1), (42, .own 1000000), (44, vi (w64 (s5.1 - 1))), (49, .eref 1000000 1 (Int.toNat s5.1) 0)], [(1000000, .arr 3 1 s5.2.length (s5.2.map (eI .i64)))]⟩) (by kernel_rfl)) Le.sub0) (by kernel_rfl) d18, (List.forall_mem_cons.2 ⟨DEs.mk (i := 8) (L' := #[true, true, true, true, false, true, true, true, true, false, true, true, true, false, false, false, false, false]) rfl (EStep.le (EStep.ofL (x_index_own (d := 1000000) (L := s5.2) (f := (eI .i64)) (ti := ti64) (tj := ti3) (e := 3) (e' := 3) (m := 1) (k := .i64) tbok rfl hx14) (by kernel_rfl)) Le.sub0) (by kernel_rfl) d21, (List.forall_mem_cons.2 ⟨DEs.mk (i := 13) (L' := #[true, true, true, true, false, true, true, true, false, false, true, true, true, true, false, false, false, false]) rfl (EStep.le (EStep.ofL (x_load_own (d := 1000000) (m := 1) (j := 0) (L := s5.2) (f := (eI .i64)) (ti := ti3) (e := 3) (v := vi x15) tbok rfl hx15) (by kernel_rfl)) Le.sub0) (by kernel_rfl) d22, (fun _ h => absurd h List.not_mem_nil)⟩)⟩)⟩)
  refine DE.share (fuel := 8) (L := #[true, true, true, true, false, true, true, true, true, false, true, true, false, false, false, false, false, false]) (σ := ⟨53, [(0, .own 1000000), (1, vi aA), (2, vi aB), (3, .clo 40 [.ptr [vl eLabel aCmp0] 0]), (8, vi s1.1), (9, vi s5.1), (37, .own 1000000), (38, vi s5.1), (39, .own 1000000), (40, vi s5.1), (45, .eref 1000000 1 (Int.toNat (w64 (s5.1 - 1))) 0), (47, .own 1000000), (48, vi s5.1)], [(1000000, .arr 3 1 s5.2.length (s5.2.map (eI .i64)))]⟩) ?_ (fun d14 => ?_)
  exact DE.all [4, 9, 12] (by kernel_rfl) (by simp) (List.forall_mem_cons.2 ⟨DEs.mk (i := 4) (L' := #[true, true, true, true, true, true, true, true, true, false, true, true, false, false, false, false, false, false]) rfl (EStep.le (EStep.ofN2 tbok (σ' := ⟨53, [(41, vi (w64 (s5.1 - 1))), (0, .own 1000000), (1, vi aA), (2, vi aB), (3, .clo 40 [.ptr [vl eLabel aCmp0] 0]), (8, vi s1.1), (9, vi s5.1), (37, .own 1000000), (38, vi s5.1), (39, .own 1000000), (40, vi s5.1), (45, .eref 1000000 1 (Int.toNat (w64 (s5.1 - 1))) 0), (47, .own 1000000), (48, vi s5.1)], [(1000000, .arr 3 1 s5.2.length (s5.2.map (eI .i64)))]⟩) (by kernel_rfl)) Le.sub0) (by kernel_rfl) d17, (List.forall_mem_cons.2 ⟨DEs.mk (i := 9) (L' := #[true, true, true, true, false, true, true, true, true, true, true, true, false, false, false, false, false, false]) rfl (EStep.le (EStep.ofL (x_load_own (d := 1000000) (m := 1) (j := 0) (L := s5.2) (f := (eI .i64)) (ti := ti3) (e := 3) (v := vi x14) tbok rfl hx14) (by kernel_rfl)) Le.sub0) (by kernel_rfl) d20, (List.forall_mem_cons.2 ⟨DEs.mk (i := 12) (L' := #[true, true, true, true, false, true, true, true, true, false, true, true, true, false, false, false, false, false]) rfl (EStep.le (EStep.ofL (x_index_own (d := 1000000) (L := s5.2) (f := (eI .i64)) (ti := ti64) (tj := ti3) (e := 3) (e' := 3) (m := 1) (k := .i64) tbok rfl hx15) (by kernel_rfl)) Le.sub0) (by kernel_rfl) d21, (fun _ h => absurd h List.not_mem_nil)⟩)⟩)⟩)
  refine DE.share (fuel := 8) (L := #[true, true, true, true, true, true, true, false, false, false, true, true, true, false, false, false, false, false]) (σ := ⟨53, [(0, .own 1000000), (1, vi aA), (2, vi aB), (3, .clo 40 [.ptr [vl eLabel aCmp0] 0]), (8, vi s1.1), (9, vi s5.1), (37, .own 1000000), (38, vi s5.1), (39, .own 1000000), (41, vi (w64 (s5.1 - 1))), (42, .own 1000000), (43, vi s5.1), (49, .eref 1000000 1 (Int.toNat s5.1) 0)], [(1000000, .arr 3 1 s5.2.length (s5.2.map (eI .i64)))]⟩) ?_ (fun d13 => ?_)
  exact DE.all [7, 13] (by kernel_rfl) (by simp) (List.forall_mem_cons.2 ⟨DEs.mk (i := 7) (L' := #[true, true, true, true, true, true, true, true, false, false, true, true, true, false, false, false, false, false]) rfl (EStep.le (EStep.ofN2 tbok (σ' := ⟨53, [(44, vi (w64 (s5.1 - 1))), (0, .own 1000000), (1, vi aA), (2, vi aB), (3, .clo 40 [.ptr [vl eLabel aCmp0] 0]), (8, vi s1.1), (9, vi s5.1), (37, .own 1000000), (38, vi s5.1), (39, .own 1000000), (41, vi (w64 (s5.1 - 1))), (42, .own 1000000), (43, vi s5.1), (49, .eref 1000000 1 (Int.toNat s5.1) 0)], [(1000000, .arr 3 1 s5.2.length (s5.2.map (eI .i64)))]⟩) (by kernel_rfl)) Le.sub0) (by kernel_rfl) d18, (List.forall_mem_cons.2 ⟨DEs.mk (i := 13) (L' := #[true, true, true, true, true, true, true, false, false, false, true, true, true, true, false, false, false, false]) rfl (EStep.le (EStep.ofL (x_load_own (d := 1000000) (m := 1) (j := 0) (L := s5.2) (f := (eI .i64)) (ti := ti3) (e := 3) (v := vi x15) tbok rfl hx15) (by kernel_rfl)) Le.sub0) (by kernel_rfl) d19, (fun _ h => absurd h List.not_mem_nil)⟩)⟩)
  refine DE.share (fuel := 8) (L := #[true, true, true, true, true, true, true, true, false, false, true, true, false, false, false, false, false, false]) (σ := ⟨53, [(0, .own 1000000), (1, vi aA), (2, vi aB), (3, .clo 40 [.ptr [vl eLabel aCmp0] 0]), (8, vi s1.1), (9, vi s5.1), (37, .own 1000000), (38, vi s5.1), (39, .own 1000000), (41, vi (w64 (s5.1 - 1))), (42, .own 1000000), (44, vi (w64 (s5.1 - 1))), (47, .own 1000000), (48, vi s5.1)], [(1000000, .arr 3 1 s5.2.length (s5.2.map (eI .i64)))]⟩) ?_ (fun d12 => ?_)
  exact DE.all [8, 12] (by kernel_rfl) (by simp) (List.forall_mem_cons.2 ⟨DEs.mk (i := 8) (L' := #[true, true, true, true, true, true, true, true, true, false, true, true, false, false, false, false, false, false]) rfl (EStep.le (EStep.ofL (x_index_own (d := 1000000) (L := s5.2) (f := (eI .i64)) (ti := ti64) (tj := ti3) (e := 3) (e' := 3) (m := 1) (k := .i64) tbok rfl hx14) (by kernel_rfl)) Le.sub0) (by kernel_rfl) d17, (List.forall_mem_cons.2 ⟨DEs.mk (i := 12) (L' := #[true, true, true, true, true, true, true, true, false, false, true, true, true, false, false, false, false, false]) rfl (EStep.le (EStep.ofL (x_index_own (d := 1000000) (L := s5.2) (f := (eI .i64)) (ti := ti64) (tj := ti3) (e := 3) (e' := 3) (m := 1) (k := .i64) tbok rfl hx15) (by kernel_rfl)) Le.sub0) (by kernel_rfl) d18, (fun _ h => absurd h List.not_mem_nil)⟩)⟩)
  refine DE.share (fuel := 9) (L := #[true, true, true, true, false, true, true, false, false, false, true, true, true, false, false, false, false, false]) (σ := ⟨53, [(0, .own 1000000), (1, vi aA), (2, vi aB), (3, .clo 40 [.ptr [vl eLabel aCmp0] 0]), (8, vi s1.1), (9, vi s5.1), (37, .own 1000000), (38, vi s5.1), (39, .own 1000000), (40, vi s5.1), (42, .own 1000000), (43, vi s5.1), (49, .eref 1000000 1 (Int.toNat s5.1) 0)], [(1000000, .arr 3 1 s5.2.length (s5.2.map (eI .i64)))]⟩) ?_ (fun d11 => ?_)
  exact DE.all [4, 7, 13] (by kernel_rfl) (by simp) (List.forall_mem_cons.2 ⟨DEs.mk (i := 4) (L' := #[true, true, true, true, true, true, true, false, false, false, true, true, true, false, false, false, false, false]) rfl (EStep.le (EStep.ofN2 tbok (σ' := ⟨53, [(41, vi (w64 (s5.1 - 1))), (0, .own 1000000), (1, vi aA), (2, vi aB), (3, .clo 40 [.ptr [vl eLabel aCmp0] 0]), (8, vi s1.1), (9, vi s5.1), (37, .own 1000000), (38, vi s5.1), (39, .own 1000000), (40, vi s5.1), (42, .own 1000000), (43, vi s5.1), (49, .eref 1000000 1 (Int.toNat s5.1) 0)], [(1000000, .arr 3 1 s5.2.length (s5.2.map (eI .i64)))]⟩) (by kernel_rfl)) Le.sub0) (by kernel_rfl) d13, (List.forall_mem_cons.2 ⟨DEs.mk (i := 7) (L' := #[true, true, true, true, false, true, true, true, false, false, true, true, true, false, false, false, false, false]) rfl (EStep.le (EStep.ofN2 tbok (σ' := ⟨53, [(44, vi (w64 (s5.1 - 1))), (0, .own 1000000), (1, vi aA), (2, vi aB), (3, .clo 40 [.ptr [vl eLabel aCmp0] 0]), (8, vi s1.1), (9, vi s5.1), (37, .own 1000000), (38, vi s5.1), (39, .own 1000000), (40, vi s5.1), (42, .own 1000000), (43, vi s5.1), (49, .eref 1000000 1 (Int.toNat s5.1) 0)], [(1000000, .arr 3 1 s5.2.length (s5.2.map (eI .i64)))]⟩) (by kernel_rfl)) Le.sub0) (by kernel_rfl) d15, (List.forall_mem_cons.2 ⟨DEs.mk (i := 13) (L' := #[true, true, true, true, false, true, true, false, false, false, true, true, true, true, false, false, false, false]) rfl (EStep.le (EStep.ofL (x_load_own (d := 1000000) (m := 1) (j := 0) (L := s5.2) (f := (eI .i64)) (ti := ti3) (e := 3) (v := vi x15) tbok rfl hx15) (by kernel_rfl)) Le.sub0) (by kernel_rfl) d16, (fun _ h => absurd h List.not_mem_nil)⟩)⟩)⟩)
  refine DE.share (fuel := 9) (L := #[true, true, true, true, false, true, true, true, false, false, true, true, false, false, false, false, false, false]) (σ := ⟨53, [(0, .own 1000000), (1, vi aA), (2, vi aB), (3, .clo 40 [.ptr [vl eLabel aCmp0] 0]), (8, vi s1.1), (9, vi s5.1), (37, .own 1000000), (38, vi s5.1), (39, .own 1000000), (40, vi s5.1), (42, .own 1000000), (44, vi (w64 (s5.1 - 1))), (47, .own 1000000), (48, vi s5.1)], [(1000000, .arr 3 1 s5.2.length (s5.2.map (eI .i64)))]⟩) ?_ (fun d10 => ?_)
  exact DE.all [4, 8, 12] (by kernel_rfl) (by simp) (List.forall_mem_cons.2 ⟨DEs.mk (i := 4) (L' := #[true, true, true, true, true, true, true, true, false, false, true, true, false, false, false, false, false, false]) rfl (EStep.le (EStep.ofN2 tbok (σ' := ⟨53, [(41, vi (w64 (s5.1 - 1))), (0, .own 1000000), (1, vi aA), (2, vi aB), (3, .clo 40 [.ptr [vl eLabel aCmp0] 0]), (8, vi s1.1), (9, vi s5.1), (37, .own 1000000), (38, vi s5.1), (39, .own 1000000), (40, vi s5.1), (42, .own 1000000), (44, vi (w64 (s5.1 - 1))), (47, .own 1000000), (48, vi s5.1)], [(1000000, .arr 3 1 s5.2.length (s5.2.map (eI .i64)))]⟩) (by kernel_rfl)) Le.sub0) (by kernel_rfl) d12, (List.forall_mem_cons.2 ⟨DEs.mk (i := 8) (L' := #[true, true, true, true, false, true, true, true, true, false, true, true, false, false, false, false, false, false]) rfl (EStep.le (EStep.ofL (x_index_own (d := 1000000) (L := s5.2) (f := (eI .i64)) (ti := ti64) (tj := ti3) (e := 3) (e' := 3) (m := 1) (k := .i64) tbok rfl hx14) (by kernel_rfl)) Le.sub0) (by kernel_rfl) d14, (List.forall_mem_cons.2 ⟨DEs.mk (i := 12) (L' := #[true, true, true, true, false, true, true, true, false, false, true, true, true, false, false, false, false, false]) rfl (EStep.le (EStep.ofL (x_index_own (d := 1000000) (L := s5.2) (f := (eI .i64)) (ti := ti64) (tj := ti3) (e := 3) (e' := 3) (m := 1) (k := .i64) tbok rfl hx15) (by kernel_rfl)) Le.sub0) (by kernel_rfl) d15, (fun _ h => absurd h List.not_mem_nil)⟩)⟩)⟩)
  refine DE.share (fuel := 9) (L := #[true, true, true, true, true, true, true, false, false, false, true, true, false, false, false, false, false, false]) (σ := ⟨53, [(0, .own 1000000), (1, vi aA), (2, vi aB), (3, .clo 40 [.ptr [vl eLabel aCmp0] 0]), (8, vi s1.1), (9, vi s5.1), (37, .own 1000000), (38, vi s5.1), (39, .own 1000000), (41, vi (w64 (s5.1 - 1))), (42, .own 1000000), (43, vi s5.1), (47, .own 1000000), (48, vi s5.1)], [(1000000, .arr 3 1 s5.2.length (s5.2.map (eI .i64)))]⟩) ?_ (fun d9 => ?_)
  exact DE.all [7, 12] (by kernel_rfl) (by simp) (List.forall_mem_cons.2 ⟨DEs.mk (i := 7) (L' := #[true, true, true, true, true, true, true, true, false, false, true, true, false, false, false, false, false, false]) rfl (EStep.le (EStep.ofN2 tbok (σ' := ⟨53, [(44, vi (w64 (s5.1 - 1))), (0, .own 1000000), (1, vi aA), (2, vi aB), (3, .clo 40 [.ptr [vl eLabel aCmp0] 0]), (8, vi s1.1), (9, vi s5.1), (37, .own 1000000), (38, vi s5.1), (39, .own 1000000), (41, vi (w64 (s5.1 - 1))), (42, .own 1000000), (43, vi s5.1), (47, .own 1000000), (48, vi s5.1)], [(1000000, .arr 3 1 s5.2.length (s5.2.map (eI .i64)))]⟩) (by kernel_rfl)) Le.sub0) (by kernel_rfl) d12, (List.forall_mem_cons.2 ⟨DEs.mk (i := 12) (L' := #[true, true, true, true, true, true, true, false, false, false, true, true, true, false, false, false, false, false]) rfl (EStep.le (EStep.ofL (x_index_own (d := 1000000) (L := s5.2) (f := (eI .i64)) (ti := ti64) (tj := ti3) (e := 3) (e' := 3) (m := 1) (k := .i64) tbok rfl hx15) (by kernel_rfl)) Le.sub0) (by kernel_rfl) d13, (fun _ h => absurd h List.not_mem_nil)⟩)⟩)
  refine DE.share (fuel := 10) (L := #[true, true, true, true, false, true, true, false, false, false, true, true, false, false, false, false, false, false]) (σ := ⟨53, [(0, .own 1000000), (1, vi aA), (2, vi aB), (3, .clo 40 [.ptr [vl eLabel aCmp0] 0]), (8, vi s1.1), (9, vi s5.1), (37, .own 1000000), (38, vi s5.1), (39, .own 1000000), (40, vi s5.1), (42, .own 1000000), (43, vi s5.1), (47, .own 1000000), (48, vi s5.1)], [(1000000, .arr 3 1 s5.2.length (s5.2.map (eI .i64)))]⟩) ?_ (fun d8 => ?_)
  exact DE.all [4, 7, 12] (by kernel_rfl) (by simp) (List.forall_mem_cons.2 ⟨DEs.mk (i := 4) (L' := #[true, true, true, true, true, true, true, false, false, false, true, true, false, false, false, false, false, false]) rfl (EStep.le (EStep.ofN2 tbok (σ' := ⟨53, [(41, vi (w64 (s5.1 - 1))), (0, .own 1000000), (1, vi aA), (2, vi aB), (3, .clo 40 [.ptr [vl eLabel aCmp0] 0]), (8, vi s1.1), (9, vi s5.1), (37, .own 1000000), (38, vi s5.1), (39, .own 1000000), (40, vi s5.1), (42, .own 1000000), (43, vi s5.1), (47, .own 1000000), (48, vi s5.1)], [(1000000, .arr 3 1 s5.2.length (s5.2.map (eI .i64)))]⟩) (by kernel_rfl)) Le.sub0) (by kernel_rfl) d9, (List.forall_mem_cons.2 ⟨DEs.mk (i := 7) (L' := #[true, true, true, true, false, true, true, true, false, false, true, true, false, false, false, false, false, false]) rfl (EStep.le (EStep.ofN2 tbok (σ' := ⟨53, [(44, vi (w64 (s5.1 - 1))), (0, .own 1000000), (1, vi aA), (2, vi aB), (3, .clo 40 [.ptr [vl eLabel aCmp0] 0]), (8, vi s1.1), (9, vi s5.1), (37, .own 1000000), (38, vi s5.1), (39, .own 1000000), (40, vi s5.1), (42, .own 1000000), (43, vi s5.1), (47, .own 1000000), (48, vi s5.1)], [(1000000, .arr 3 1 s5.2.length (s5.2.map (eI .i64)))]⟩) (by kernel_rfl)) Le.sub0) (by kernel_rfl) d10, (List.forall_mem_cons.2 ⟨DEs.mk (i := 12) (L' := #[true, true, true, true, false, true, true, false, false, false, true, true, true, false, false, false, false, false]) rfl (EStep.le (EStep.ofL (x_index_own (d := 1000000) (L := s5.2) (f := (eI .i64)) (ti := ti64) (tj := ti3) (e := 3) (e' := 3) (m := 1) (k := .i64) tbok rfl hx15) (by kernel_rfl)) Le.sub0) (by kernel_rfl) d11, (fun _ h => absurd h List.not_mem_nil)⟩)⟩)⟩)
  refine DE.share (fuel := 11) (L := #[true, true, true, true, false, true, true, false, false, false, true, false, false, false, false, false, false, false]) (σ := ⟨53, [(0, .own 1000000), (1, vi aA), (2, vi aB), (3, .clo 40 [.ptr [vl eLabel aCmp0] 0]), (8, vi s1.1), (9, vi s5.1), (37, .own 1000000), (38, vi s5.1), (39, .own 1000000), (40, vi s5.1), (42, .own 1000000), (43, vi s5.1), (47, .own 1000000)], [(1000000, .arr 3 1 s5.2.length (s5.2.map (eI .i64)))]⟩) ?_ (fun d7 => ?_)
  exact DE.take (i := 11) (L' := #[true, true, true, true, false, true, true, false, false, false, true, true, false, false, false, false, false, false]) rfl (.inl rfl) rfl (by kernel_rfl) (by kernel_rfl) (by kernel_rfl) (EStep.le (EStep.ofN2 tbok (σ' := ⟨53, [(48, vi s5.1), (0, .own 1000000), (1, vi aA), (2, vi aB), (3, .clo 40 [.ptr [vl eLabel aCmp0] 0]), (8, vi s1.1), (9, vi s5.1), (37, .own 1000000), (38, vi s5.1), (39, .own 1000000), (40, vi s5.1), (42, .own 1000000), (43, vi s5.1), (47, .own 1000000)], [(1000000, .arr 3 1 s5.2.length (s5.2.map (eI .i64)))]⟩) (by kernel_rfl)) Le.sub0) (by kernel_rfl) d8
  refine DE.share (fuel := 12) (L := #[true, true, true, true, false, true, true, false, false, false, false, false, false, false, false, false, false, false]) (σ := ⟨53, [(0, .own 1000000), (1, vi aA), (2, vi aB), (3, .clo 40 [.ptr [vl eLabel aCmp0] 0]), (8, vi s1.1), (9, vi s5.1), (37, .own 1000000), (38, vi s5.1), (39, .own 1000000), (40, vi s5.1), (42, .own 1000000), (43, vi s5.1)], [(1000000, .arr 3 1 s5.2.length (s5.2.map (eI .i64)))]⟩) ?_ (fun d6 => ?_)
  exact DE.take (i := 10) (L' := #[true, true, true, true, false, true, true, false, false, false, true, false, false, false, false, false, false, false]) rfl (.inl rfl) rfl (by kernel_rfl) (by kernel_rfl) (by kernel_rfl) (EStep.le (EStep.ofN2 tbok (σ' := ⟨53, [(47, .own 1000000), (0, .own 1000000), (1, vi aA), (2, vi aB), (3, .clo 40 [.ptr [vl eLabel aCmp0] 0]), (8, vi s1.1), (9, vi s5.1), (37, .own 1000000), (38, vi s5.1), (39, .own 1000000), (40, vi s5.1), (42, .own 1000000), (43, vi s5.1)], [(1000000, .arr 3 1 s5.2.length (s5.2.map (eI .i64)))]⟩) (by kernel_rfl)) Le.sub0) (by kernel_rfl) d7
  refine DE.share (fuel := 13) (L := #[true, true, true, true, false, true, false, false, false, false, false, false, false, false, false, false, false, false]) (σ := ⟨53, [(0, .own 1000000), (1, vi aA), (2, vi aB), (3, .clo 40 [.ptr [vl eLabel aCmp0] 0]), (8, vi s1.1), (9, vi s5.1), (37, .own 1000000), (38, vi s5.1), (39, .own 1000000), (40, vi s5.1), (42, .own 1000000)], [(1000000, .arr 3 1 s5.2.length (s5.2.map (eI .i64)))]⟩) ?_ (fun d5 => ?_)
  exact DE.take (i := 6) (L' := #[true, true, true, true, false, true, true, false, false, false, false, false, false, false, false, false, false, false]) rfl (.inl rfl) rfl (by kernel_rfl) (by kernel_rfl) (by kernel_rfl) (EStep.le (EStep.ofN2 tbok (σ' := ⟨53, [(43, vi s5.1), (0, .own 1000000), (1, vi aA), (2, vi aB), (3, .clo 40 [.ptr [vl eLabel aCmp0] 0]), (8, vi s1.1), (9, vi s5.1), (37, .own 1000000), (38, vi s5.1), (39, .own 1000000), (40, vi s5.1), (42, .own 1000000)], [(1000000, .arr 3 1 s5.2.length (s5.2.map (eI .i64)))]⟩) (by kernel_rfl)) Le.sub0) (by kernel_rfl) d6
  refine DE.share (fuel := 14) (L := #[true, true, true, true, false, false, false, false, false, false, false, false, false, false, false, false, false, false]) (σ := ⟨53, [(0, .own 1000000), (1, vi aA), (2, vi aB), (3, .clo 40 [.ptr [vl eLabel aCmp0] 0]), (8, vi s1.1), (9, vi s5.1), (37, .own 1000000), (38, vi s5.1), (39, .own 1000000), (40, vi s5.1)], [(1000000, .arr 3 1 s5.2.length (s5.2.map (eI .i64)))]⟩) ?_ (fun d4 => ?_)
  exact DE.take (i := 5) (L' := #[true, true, true, true, false, true, false, false, false, false, false, false, false, false, false, false, false, false]) rfl (.inl rfl) rfl (by kernel_rfl) (by kernel_rfl) (by kernel_rfl) (EStep.le (EStep.ofN2 tbok (σ' := ⟨53, [(42, .own 1000000), (0, .own 1000000), (1, vi aA), (2, vi aB), (3, .clo 40 [.ptr [vl eLabel aCmp0] 0]), (8, vi s1.1), (9, vi s5.1), (37, .own 1000000), (38, vi s5.1), (39, .own 1000000), (40, vi s5.1)], [(1000000, .arr 3 1 s5.2.length (s5.2.map (eI .i64)))]⟩) (by kernel_rfl)) Le.sub0) (by kernel_rfl) d5
  refine DE.share (fuel := 15) (L := #[true, true, true, false, false, false, false, false, false, false, false, false, false, false, false, false, false, false]) (σ := ⟨53, [(0, .own 1000000), (1, vi aA), (2, vi aB), (3, .clo 40 [.ptr [vl eLabel aCmp0] 0]), (8, vi s1.1), (9, vi s5.1), (37, .own 1000000), (38, vi s5.1), (39, .own 1000000)], [(1000000, .arr 3 1 s5.2.length (s5.2.map (eI .i64)))]⟩) ?_ (fun d3 => ?_)
  exact DE.take (i := 3) (L' := #[true, true, true, true, false, false, false, false, false, false, false, false, false, false, false, false, false, false]) rfl (.inl rfl) rfl (by kernel_rfl) (by kernel_rfl) (by kernel_rfl) (EStep.le (EStep.ofN2 tbok (σ' := ⟨53, [(40, vi s5.1), (0, .own 1000000), (1, vi aA), (2, vi aB), (3, .clo 40 [.ptr [vl eLabel aCmp0] 0]), (8, vi s1.1), (9, vi s5.1), (37, .own 1000000), (38, vi s5.1), (39, .own 1000000)], [(1000000, .arr 3 1 s5.2.length (s5.2.map (eI .i64)))]⟩) (by kernel_rfl)) Le.sub0) (by kernel_rfl) d4
  refine DE.share (fuel := 16) (L := #[true, true, false, false, false, false, false, false, false, false, false, false, false, false, false, false, false, false]) (σ := ⟨53, [(0, .own 1000000), (1, vi aA), (2, vi aB), (3, .clo 40 [.ptr [vl eLabel aCmp0] 0]), (8, vi s1.1), (9, vi s5.1), (37, .own 1000000), (38, vi s5.1)], [(1000000, .arr 3 1 s5.2.length (s5.2.map (eI .i64)))]⟩) ?_ (fun d2 => ?_)
  exact DE.take (i := 2) (L' := #[true, true, true, false, false, false, false, false, false, false, false, false, false, false, false, false, false, false]) rfl (.inl rfl) rfl (by kernel_rfl) (by kernel_rfl) (by kernel_rfl) (EStep.le (EStep.ofN2 tbok (σ' := ⟨53, [(39, .own 1000000), (0, .own 1000000), (1, vi aA), (2, vi aB), (3, .clo 40 [.ptr [vl eLabel aCmp0] 0]), (8, vi s1.1), (9, vi s5.1), (37, .own 1000000), (38, vi s5.1)], [(1000000, .arr 3 1 s5.2.length (s5.2.map (eI .i64)))]⟩) (by kernel_rfl)) Le.sub0) (by kernel_rfl) d3
  refine DE.share (fuel := 17) (L := #[true, false, false, false, false, false, false, false, false, false, false, false, false, false, false, false, false, false]) (σ := ⟨53, [(0, .own 1000000), (1, vi aA), (2, vi aB), (3, .clo 40 [.ptr [vl eLabel aCmp0] 0]), (8, vi s1.1), (9, vi s5.1), (37, .own 1000000)], [(1000000, .arr 3 1 s5.2.length (s5.2.map (eI .i64)))]⟩) ?_ (fun d1 => ?_)
  exact DE.take (i := 1) (L' := #[true, true, false, false, false, false, false, false, false, false, false, false, false, false, false, false, false, false]) rfl (.inl rfl) rfl (by kernel_rfl) (by kernel_rfl) (by kernel_rfl) (EStep.le (EStep.ofN2 tbok (σ' := ⟨53, [(38, vi s5.1), (0, .own 1000000), (1, vi aA), (2, vi aB), (3, .clo 40 [.ptr [vl eLabel aCmp0] 0]), (8, vi s1.1), (9, vi s5.1), (37, .own 1000000)], [(1000000, .arr 3 1 s5.2.length (s5.2.map (eI .i64)))]⟩) (by kernel_rfl)) Le.sub0) (by kernel_rfl) d2
  exact DE.take (i := 0) (L' := #[true, false, false, false, false, false, false, false, false, false, false, false, false, false, false, false, false, false]) rfl (.inl rfl) rfl (by kernel_rfl) (by kernel_rfl) (by kernel_rfl) (EStep.le (EStep.ofN2 tbok (σ' := ⟨53, [(37, .own 1000000), (0, .own 1000000), (1, vi aA), (2, vi aB), (3, .clo 40 [.ptr [vl eLabel aCmp0] 0]), (8, vi s1.1), (9, vi s5.1), (34, vb j10)], [(1000000, .arr 3 1 s5.2.length (s5.2.map (eI .i64)))]⟩) (by kernel_rfl)) Le.sub0) (by kernel_rfl) d1
  replace h := Option.some.inj h
  subst h
  exact q_bn (q_j (Le.sub0))
  refine swp_reg ?_
  refine SRun.ck tbok 3 ⟨53, [(0, .own 1000000), (1, vi aA), (2, vi aB), (3, .clo 40 [.ptr [vl eLabel aCmp0] 0]), (8, vi s1.1), (9, vi (w64 (s5.1 - 1)))], [(1000000, .arr 3 1 j12.length (j12.map (eI .i64)))]⟩ ?_
  refine SRun.nil ?_
  replace h := Option.some.inj h
  subst h
  exact q_l (Le.sub0)
  replace h := cond_f hb h
  refine swp_exit ?_
  replace h := Option.some.inj h
  subst h
  exact nx_e (q_re (q_bh (q_bn (q_j (Le.sub0)))))
  refine swp_reg ?_
  refine SRun.ck tbok 3 ⟨53, [(0, .own 1000000), (1, vi aA), (2, vi aB), (3, .clo 40 [.ptr [vl eLabel aCmp0] 0]), (8, vi (w64 (s1.1 + 1)))], [(1000000, .arr 3 1 j3.length (j3.map (eI .i64)))]⟩ ?_
  refine SRun.nil ?_
  replace h := Option.some.inj h
  subst h
  exact q_l (Le.sub0)
  replace h := cond_f hb h
  refine swp_exit ?_
  replace h := Option.some.inj h
  subst h
  exact nx_e (q_re (q_bh (q_fn (fin_io (fin0 (by kernel_rfl)) (y := .arr 3 1 s1.2.length (s1.2.map (eI .i64))) (by kernel_rfl) rfl (by kernel_rfl) (by kernel_rfl)))))
theorem ents79 : Ents Try.prog 79 := ents_of Try.func79 (by kernel_rfl) rfl
noncomputable def slices_stableCmpFunc_int_impl_GreedyPlacement_1 (aData : (List Int)) (aN : Int) (aCmp0 : (List Label)) : Option ((List Int)) :=
  (((loop (fun (s3 : Int × Int × (List Int)) => (bif (decide (s3.2.1 ≤ aN)) then ((slices_insertionSortCmpFunc_int_impl_GreedyPlacement_1 s3.2.2 s3.1 s3.2.1 aCmp0).bind fun x5 => some (.inl (s3.2.1, (w64 (s3.2.1 + 20)), x5))) else some (.inr (s3.1, s3.2.2)))) (0, 20, aData))).bind fun (j1 : Int × (List Int)) => ((slices_insertionSortCmpFunc_int_impl_GreedyPlacement_1 j1.2 j1.1 aN aCmp0).bind fun x6 => (loop (fun (s7 : Int) => (bif (decide (s7 < aN)) then (((loop (fun (s11 : Int × Int) => (bif (decide (s11.2 ≤ aN)) then none else some (.inr s11.1))) (0, (w64 (2 * s7))))).bind fun (j9 : Int) => (((bif (decide ((w64 (j9 + s7)) < aN)) then none else some ())).bind fun (_ : Unit) => some (.inl (w64 (s7 * 2))))) else some (.inr x6))) 20)))
set_option maxRecDepth 100000 in
set_option maxHeartbeats 4000000 in
theorem slices_stableCmpFunc_int_impl_GreedyPlacement_1_run (aData : (List Int)) (aN : Int) (aCmp0 : (List Label)) (r : (List Int)) (h : slices_stableCmpFunc_int_impl_GreedyPlacement_1 aData aN aCmp0 = some r) : SCall Try.prog 63 [.o (.arr 3 1 aData.length (aData.map (eI .i64))), .v (vi aN), .v (.clo 40 [.ptr [vl eLabel aCmp0] 0])] ⟨[], [(0, .arr 3 1 r.length (r.map (eI .i64)))], false⟩ := by
  refine scall_in Try.func63 rfl [] rfl (fun r => ⟨[], [(0, .arr 3 1 r.length (r.map (eI .i64)))], false⟩) (r := r) ?_
  unfold slices_stableCmpFunc_int_impl_GreedyPlacement_1 at h
  refine swp_seq ?_
  refine swp_reg ?_
  refine SRun.ck tbok 1 ⟨63, [(0, .own 1000000), (1, vi aN), (2, .clo 40 [.ptr [vl eLabel aCmp0] 0]), (6, vi 20)], [(1000000, .arr 3 1 aData.length (aData.map (eI .i64)))]⟩ ?_
  refine SRun.nil ?_
  refine nx_n ?_
  refine swp_seq ?_
  refine swp_reg ?_
  refine SRun.ck tbok 3 ⟨63, [(0, .own 1000000), (1, vi aN), (2, .clo 40 [.ptr [vl eLabel aCmp0] 0]), (6, vi 20), (7, vi 0), (8, vi 20)], [(1000000, .arr 3 1 aData.length (aData.map (eI .i64)))]⟩ ?_
  refine SRun.nil ?_
  refine nx_n ?_
  refine swp_seq ?_
  refine swp_seqJ h (fun j1 => ⟨63, [(0, .own 1000000), (1, vi aN), (2, .clo 40 [.ptr [vl eLabel aCmp0] 0]), (6, vi 20), (7, vi j1.1)], [(1000000, .arr 3 1 j1.2.length (j1.2.map (eI .i64)))]⟩) (fun v2 h => ?_) (fun j1 h => ?_)
  refine swp_blk (a := v2) ?_
  refine swp_lpL (r := v2) (s := (0, 20, aData)) _ (fun s3 => ⟨63, [(0, .own 1000000), (1, vi aN), (2, .clo 40 [.ptr [vl eLabel aCmp0] 0]), (6, vi 20), (7, vi s3.1), (8, vi s3.2.1)], [(1000000, .arr 3 1 s3.2.2.length (s3.2.2.map (eI .i64)))]⟩) _ (Le.sub0) h (fun s3 v4 h => ?_)
  refine swp_seq ?_
  refine swp_seq ?_
  refine swp_reg ?_
  refine SRun.ck tbok 3 ⟨63, [(0, .own 1000000), (1, vi aN), (2, .clo 40 [.ptr [vl eLabel aCmp0] 0]), (6, vi 20), (7, vi s3.1), (8, vi s3.2.1), (13, vb (decide (s3.2.1 ≤ aN)))], [(1000000, .arr 3 1 s3.2.2.length (s3.2.2.map (eI .i64)))]⟩ ?_
  refine SRun.nil ?_
  refine nx_n ?_
  refine swp_cond (b := (decide (s3.2.1 ≤ aN))) (by kernel_rfl) (fun hb => ?_) (fun hb => ?_)
  replace h := cond_t hb h
  refine swp_skip ?_
  refine nx_n ?_
  refine swp_blk (a := v4) ?_
  refine swp_seq ?_
  refine swp_reg ?_
  refine SRun.ck tbok 4 ⟨63, [(0, .own 1000000), (1, vi aN), (2, .clo 40 [.ptr [vl eLabel aCmp0] 0]), (6, vi 20), (8, vi s3.2.1), (14, .own 1000000), (15, vi s3.1), (16, vi s3.2.1), (17, .clo 40 [.ptr [vl eLabel aCmp0] 0])], [(1000000, .arr 3 1 s3.2.2.length (s3.2.2.map (eI .i64)))]⟩ ?_
  obtain ⟨x5, hx5, h⟩ := bind_some h
  refine SRun.estep (x_estep_call (f := 79) (caps := []) (xs := [.own 1000000, vi s3.1, vi s3.2.1, .clo 40 [.ptr [vl eLabel aCmp0] 0]]) (pre := []) (post := [vi s3.1, vi s3.2.1, .clo 40 [.ptr [vl eLabel aCmp0] 0]]) (qs := [vi s3.1, vi s3.2.1, .clo 40 [.ptr [vl eLabel aCmp0] 0]]) (z := .own 1000000) (d := 1000000) (pl := 0) (y := .arr 3 1 s3.2.2.length (s3.2.2.map (eI .i64))) (y' := .arr 3 1 x5.length (x5.map (eI .i64))) (res := ⟨[], [(0, .arr 3 1 x5.length (x5.map (eI .i64)))], false⟩) (x := .tup []) (yo := none) rfl rfl rfl rfl rfl ents79 (slices_insertionSortCmpFunc_int_impl_GreedyPlacement_1_run s3.2.2 s3.1 s3.2.1 aCmp0 _ hx5) rfl rfl false (fun _ => rfl) (by intro hc; cases hc)) ?_
  refine SRun.nil ?_
  refine nx_n ?_
  refine swp_seq ?_
  refine swp_reg ?_
  refine SRun.ck tbok 2 ⟨63, [(0, .own 1000000), (1, vi aN), (2, .clo 40 [.ptr [vl eLabel aCmp0] 0]), (6, vi 20), (7, vi s3.2.1), (8, vi s3.2.1)], [(1000000, .arr 3 1 x5.length (x5.map (eI .i64)))]⟩ ?_
  refine SRun.nil ?_
  refine nx_n ?_
  refine swp_reg ?_
  refine SRun.ck tbok 4 ⟨63, [(0, .own 1000000), (1, vi aN), (2, .clo 40 [.ptr [vl eLabel aCmp0] 0]), (6, vi 20), (7, vi s3.2.1), (8, vi (w64 (s3.2.1 + 20)))], [(1000000, .arr 3 1 x5.length (x5.map (eI .i64)))]⟩ ?_
  refine SRun.nil ?_
  replace h := Option.some.inj h
  subst h
  exact q_bn (q_l (Le.sub0))
  replace h := cond_f hb h
  refine swp_exit ?_
  replace h := Option.some.inj h
  subst h
  exact nx_e (q_re (q_bh (q_j (Le.sub0))))
  refine swp_seq ?_
  refine swp_reg ?_
  refine SRun.ck tbok 4 ⟨63, [(0, .own 1000000), (1, vi aN), (2, .clo 40 [.ptr [vl eLabel aCmp0] 0]), (6, vi 20), (23, .own 1000000), (24, vi j1.1), (25, vi aN), (26, .clo 40 [.ptr [vl eLabel aCmp0] 0])], [(1000000, .arr 3 1 j1.2.length (j1.2.map (eI .i64)))]⟩ ?_
  obtain ⟨x6, hx6, h⟩ := bind_some h
  refine SRun.estep (x_estep_call (f := 79) (caps := []) (xs := [.own 1000000, vi j1.1, vi aN, .clo 40 [.ptr [vl eLabel aCmp0] 0]]) (pre := []) (post := [vi j1.1, vi aN, .clo 40 [.ptr [vl eLabel aCmp0] 0]]) (qs := [vi j1.1, vi aN, .clo 40 [.ptr [vl eLabel aCmp0] 0]]) (z := .own 1000000) (d := 1000000) (pl := 0) (y := .arr 3 1 j1.2.length (j1.2.map (eI .i64))) (y' := .arr 3 1 x6.length (x6.map (eI .i64))) (res := ⟨[], [(0, .arr 3 1 x6.length (x6.map (eI .i64)))], false⟩) (x := .tup []) (yo := none) rfl rfl rfl rfl rfl ents79 (slices_insertionSortCmpFunc_int_impl_GreedyPlacement_1_run j1.2 j1.1 aN aCmp0 _ hx6) rfl rfl false (fun _ => rfl) (by intro hc; cases hc)) ?_
  refine SRun.nil ?_
  refine nx_n ?_
  refine swp_blk (a := r) ?_
  refine swp_lpL (r := r) (s := 20) _ (fun s7 => ⟨63, [(0, .own 1000000), (1, vi aN), (2, .clo 40 [.ptr [vl eLabel aCmp0] 0]), (6, vi s7)], [(1000000, .arr 3 1 x6.length (x6.map (eI .i64)))]⟩) _ (Le.sub0) h (fun s7 v8 h => ?_)
  refine swp_seq ?_
  refine swp_seq ?_
  refine swp_reg ?_
  refine SRun.ck tbok 3 ⟨63, [(0, .own 1000000), (1, vi aN), (2, .clo 40 [.ptr [vl eLabel aCmp0] 0]), (6, vi s7), (30, vb (decide (s7 < aN)))], [(1000000, .arr 3 1 x6.length (x6.map (eI .i64)))]⟩ ?_
  refine SRun.nil ?_
  refine nx_n ?_
  refine swp_cond (b := (decide (s7 < aN))) (by kernel_rfl) (fun hb => ?_) (fun hb => ?_)
  replace h := cond_t hb h
  refine swp_skip ?_
  refine nx_n ?_
  refine swp_blk (a := v8) ?_
  refine swp_seq ?_
  refine swp_reg ?_
  refine SRun.ck tbok 4 ⟨63, [(0, .own 1000000), (1, vi aN), (2, .clo 40 [.ptr [vl eLabel aCmp0] 0]), (6, vi s7), (7, vi 0), (8, vi (w64 (2 * s7)))], [(1000000, .arr 3 1 x6.length (x6.map (eI .i64)))]⟩ ?_
  refine SRun.nil ?_
  refine nx_n ?_
  refine swp_seq ?_
  refine swp_seqJ h (fun j9 => ⟨63, [(0, .own 1000000), (1, vi aN), (2, .clo 40 [.ptr [vl eLabel aCmp0] 0]), (6, vi s7), (7, vi j9)], [(1000000, .arr 3 1 x6.length (x6.map (eI .i64)))]⟩) (fun v10 h => ?_) (fun j9 h => ?_)
  refine swp_blk (a := v10) ?_
  refine swp_lpL (r := v10) (s := (0, (w64 (2 * s7)))) _ (fun s11 => ⟨63, [(0, .own 1000000), (1, vi aN), (2, .clo 40 [.ptr [vl eLabel aCmp0] 0]), (6, vi s7), (7, vi s11.1), (8, vi s11.2)], [(1000000, .arr 3 1 x6.length (x6.map (eI .i64)))]⟩) _ (Le.sub0) h (fun s11 v12 h => ?_)
  refine swp_seq ?_
  refine swp_seq ?_
  refine swp_reg ?_
  refine SRun.ck tbok 3 ⟨63, [(0, .own 1000000), (1, vi aN), (2, .clo 40 [.ptr [vl eLabel aCmp0] 0]), (6, vi s7), (7, vi s11.1), (8, vi s11.2), (35, vb (decide (s11.2 ≤ aN)))], [(1000000, .arr 3 1 x6.length (x6.map (eI .i64)))]⟩ ?_
  refine SRun.nil ?_
  refine nx_n ?_
  refine swp_cond (b := (decide (s11.2 ≤ aN))) (by kernel_rfl) (fun hb => ?_) (fun hb => ?_)
  replace h := cond_t hb h
  refine swp_skip ?_
  refine nx_n ?_
  refine swp_blk (a := v12) ?_
  refine swp_seq ?_
  cases h
  replace h := cond_f hb h
  refine swp_exit ?_
  replace h := Option.some.inj h
  subst h
  exact nx_e (q_re (q_bh (q_j (Le.sub0))))
  refine swp_seq ?_
  refine swp_seq ?_
  refine swp_reg ?_
  refine SRun.ck tbok 4 ⟨63, [(0, .own 1000000), (1, vi aN), (2, .clo 40 [.ptr [vl eLabel aCmp0] 0]), (6, vi s7), (7, vi j9), (9, vi (w64 (j9 + s7)))], [(1000000, .arr 3 1 x6.length (x6.map (eI .i64)))]⟩ ?_
  refine SRun.nil ?_
  refine nx_n ?_
  refine swp_seq ?_
  refine swp_reg ?_
  refine SRun.ck tbok 3 ⟨63, [(0, .own 1000000), (1, vi aN), (2, .clo 40 [.ptr [vl eLabel aCmp0] 0]), (6, vi s7), (7, vi j9), (9, vi (w64 (j9 + s7))), (54, vb (decide ((w64 (j9 + s7)) < aN)))], [(1000000, .arr 3 1 x6.length (x6.map (eI .i64)))]⟩ ?_
  refine SRun.nil ?_
  refine nx_n ?_
  refine swp_seqJ h (fun j13 => ⟨63, [(0, .own 1000000), (1, vi aN), (2, .clo 40 [.ptr [vl eLabel aCmp0] 0]), (6, vi s7)], [(1000000, .arr 3 1 x6.length (x6.map (eI .i64)))]⟩) (fun v14 h => ?_) (fun j13 h => ?_)
  refine swp_cond (b := (decide ((w64 (j9 + s7)) < aN))) (by kernel_rfl) (fun hb => ?_) (fun hb => ?_)
  replace h := cond_t hb h
  cases h
  replace h := cond_f hb h
  refine swp_skip ?_
  replace h := Option.some.inj h
  subst h
  exact q_j (Le.sub0)
  refine swp_reg ?_
  refine SRun.ck tbok 3 ⟨63, [(0, .own 1000000), (1, vi aN), (2, .clo 40 [.ptr [vl eLabel aCmp0] 0]), (6, vi (w64 (s7 * 2)))], [(1000000, .arr 3 1 x6.length (x6.map (eI .i64)))]⟩ ?_
  refine SRun.nil ?_
  replace h := Option.some.inj h
  subst h
  exact q_bn (q_l (Le.sub0))
  replace h := cond_f hb h
  refine swp_exit ?_
  replace h := Option.some.inj h
  subst h
  exact nx_e (q_re (q_bh (q_fn (fin_io (fin0 (by kernel_rfl)) (y := .arr 3 1 x6.length (x6.map (eI .i64))) (by kernel_rfl) rfl (by kernel_rfl) (by kernel_rfl)))))
theorem ents63 : Ents Try.prog 63 := ents_of Try.func63 (by kernel_rfl) rfl
noncomputable def slices_SortStableFunc_int_impl_GreedyPlacement_1 (aX : (List Int)) (aCmp0 : (List Label)) : Option ((List Int)) :=
  ((slices_stableCmpFunc_int_impl_GreedyPlacement_1 aX (aX.length : Int) aCmp0).bind fun x1 => some x1)
set_option maxRecDepth 100000 in
set_option maxHeartbeats 4000000 in
theorem slices_SortStableFunc_int_impl_GreedyPlacement_1_run (aX : (List Int)) (aCmp0 : (List Label)) (r : (List Int)) (h : slices_SortStableFunc_int_impl_GreedyPlacement_1 aX aCmp0 = some r) : SCall Try.prog 39 [.o (.arr 3 1 aX.length (aX.map (eI .i64))), .v (.clo 40 [.ptr [vl eLabel aCmp0] 0])] ⟨[], [(0, .arr 3 1 r.length (r.map (eI .i64)))], false⟩ := by
  refine scall_in Try.func39 rfl [] rfl (fun r => ⟨[], [(0, .arr 3 1 r.length (r.map (eI .i64)))], false⟩) (r := r) ?_
  unfold slices_SortStableFunc_int_impl_GreedyPlacement_1 at h
  refine swp_reg ?_
  refine SRun.ck tbok 4 ⟨9, [(4, .own 1000000), (6, vi (aX.length : Int)), (7, .clo 40 [.ptr [vl eLabel aCmp0] 0])], [(1000000, .arr 3 1 aX.length (aX.map (eI .i64)))]⟩ ?_
  obtain ⟨x1, hx1, h⟩ := bind_some h
  refine SRun.estep (x_estep_call (f := 63) (caps := []) (xs := [.own 1000000, vi (aX.length : Int), .clo 40 [.ptr [vl eLabel aCmp0] 0]]) (pre := []) (post := [vi (aX.length : Int), .clo 40 [.ptr [vl eLabel aCmp0] 0]]) (qs := [vi (aX.length : Int), .clo 40 [.ptr [vl eLabel aCmp0] 0]]) (z := .own 1000000) (d := 1000000) (pl := 0) (y := .arr 3 1 aX.length (aX.map (eI .i64))) (y' := .arr 3 1 x1.length (x1.map (eI .i64))) (res := ⟨[], [(0, .arr 3 1 x1.length (x1.map (eI .i64)))], false⟩) (x := .tup []) (yo := none) rfl rfl rfl rfl rfl ents63 (slices_stableCmpFunc_int_impl_GreedyPlacement_1_run aX (aX.length : Int) aCmp0 _ hx1) rfl rfl false (fun _ => rfl) (by intro hc; cases hc)) ?_
  refine SRun.nil ?_
  replace h := Option.some.inj h
  subst h
  exact q_fn (fin_io (fin0 (by kernel_rfl)) (y := .arr 3 1 x1.length (x1.map (eI .i64))) (by kernel_rfl) rfl (by kernel_rfl) (by kernel_rfl))
theorem ents39 : Ents Try.prog 39 := ents_of Try.func39 (by kernel_rfl) rfl
noncomputable def impl_Label_covered (aL : Label) (aPosition : Int) : Option ((List Point)) :=
  (((bif (aPosition == 1) then some (.inl ((w64 (aL.At.X - aL.Length)), (w64 (aL.At.Y + 1)))) else (bif (aPosition == 2) then some (.inl ((w64 (aL.At.X - aL.Length)), (w64 (aL.At.Y - 1)))) else (bif (aPosition == 3) then some (.inl ((w64 (aL.At.X + 1)), (w64 (aL.At.Y - 1)))) else (bif (aPosition == 4) then some (.inr ([] : List Point)) else some (.inl ((w64 (aL.At.X + 1)), (w64 (aL.At.Y + 1))))))))).bind (Sum.elim (fun (j1 : Int × Int) => (((forS (w64 (j1.1 + aL.Length)) (fun (i5 : Int) (s5 : (List Point)) => ((app' s5 ([(Point.mk i5 j1.2)] : List Point)).bind fun x9 => some x9)) (fun (s5 : (List Point)) => s5) j1.1 ([] : List Point))).bind fun (j3 : (List Point)) => some j3)) some))
set_option maxRecDepth 100000 in
set_option maxHeartbeats 4000000 in
theorem impl_Label_covered_run (aL : Label) (aPosition : Int) (r : (List Point)) (h : impl_Label_covered aL aPosition = some r) : SCall Try.prog 68 [.v (.agg [vi aL.At.X, vi aL.At.Y, vi aL.Length, vi aL.Priority]), .v (vi aPosition)] ⟨[.own 50 2 r.length (r.map ePoint)], [], false⟩ := by
  refine scall_in Try.func68 rfl [(.tmp 4)] rfl (fun r => ⟨[.own 50 2 r.length (r.map ePoint)], [], false⟩) (r := r) ?_
  unfold impl_Label_covered at h
  refine swp_seq ?_
  refine swp_reg ?_
  refine SRun.ck tbok 2 ⟨62, [(1, vi aPosition), (2, .ref 2 0)], [(2, .box [vi aL.At.X, vi aL.At.Y, vi aL.Length, vi aL.Priority])]⟩ ?_
  refine SRun.nil ?_
  refine nx_n ?_
  refine swp_seq ?_
  refine swp_dr mixed ?_
  refine DGo.chunk' tbok 10 (σ' := ⟨62, [(6, vi (w64 (aL.At.Y + 1))), (5, vi (w64 (aL.At.X + 1))), (16, vi (w64 (aL.At.Y + 1))), (15, vi aL.At.Y), (14, .ref 2 1), (13, .ref 2 0), (12, vi (w64 (aL.At.X + 1))), (11, vi aL.At.X), (10, .ref 2 0), (9, .ref 2 0), (1, vi aPosition), (2, .ref 2 0)], [(2, .box [vi aL.At.X, vi aL.At.Y, vi aL.Length, vi aL.Priority])]⟩) (by kernel_rfl) ?_
  refine DGo.nil (by kernel_rfl) ?_
  refine nx_n ?_
  refine swp_seq ?_
  refine swp_seq ?_
  refine swp_reg ?_
  refine SRun.ck tbok 1 ⟨62, [(2, .ref 2 0), (5, vi (w64 (aL.At.X + 1))), (6, vi (w64 (aL.At.Y + 1))), (17, vi aPosition)], [(2, .box [vi aL.At.X, vi aL.At.Y, vi aL.Length, vi aL.Priority])]⟩ ?_
  refine SRun.nil ?_
  refine nx_n ?_
  refine swp_seqE (r := r) h (fun j1 => ⟨62, [(2, .ref 2 0), (5, vi j1.1), (6, vi j1.2)], [(2, .box [vi aL.At.X, vi aL.At.Y, vi aL.Length, vi aL.Priority])]⟩) (fun v2 h => ?_) (fun j1 h => ?_)
  refine swp_blk (a := v2) ?_
  refine swp_seq ?_
  refine swp_reg ?_
  refine SRun.ck tbok 2 ⟨62, [(2, .ref 2 0), (5, vi (w64 (aL.At.X + 1))), (6, vi (w64 (aL.At.Y + 1))), (17, vi aPosition), (18, vb (aPosition == 1))], [(2, .box [vi aL.At.X, vi aL.At.Y, vi aL.Length, vi aL.Priority])]⟩ ?_
  refine SRun.nil ?_
  refine nx_n ?_
  refine swp_cond (b := (aPosition == 1)) (by kernel_rfl) (fun hb => ?_) (fun hb => ?_)
  replace h := cond_t hb h
  refine swp_reg ?_
  refine SRun.ck tbok 7 ⟨62, [(2, .ref 2 0), (5, vi (w64 (aL.At.X - aL.Length))), (6, vi (w64 (aL.At.Y + 1)))], [(2, .box [vi aL.At.X, vi aL.At.Y, vi aL.Length, vi aL.Priority])]⟩ ?_
  refine SRun.nil ?_
  replace h := Option.some.inj h
  subst h
  exact q_bn (q_l (Le.sub0))
  replace h := cond_f hb h
  refine swp_seq ?_
  refine swp_reg ?_
  refine SRun.ck tbok 2 ⟨62, [(2, .ref 2 0), (5, vi (w64 (aL.At.X + 1))), (6, vi (w64 (aL.At.Y + 1))), (17, vi aPosition), (26, vb (aPosition == 2))], [(2, .box [vi aL.At.X, vi aL.At.Y, vi aL.Length, vi aL.Priority])]⟩ ?_
  refine SRun.nil ?_
  refine nx_n ?_
  refine swp_cond (b := (aPosition == 2)) (by kernel_rfl) (fun hb => ?_) (fun hb => ?_)
  replace h := cond_t hb h
  refine swp_dr mixed ?_
  refine DGo.chunk' tbok 12 (σ' := ⟨62, [(6, vi (w64 (aL.At.Y - 1))), (5, vi (w64 (aL.At.X - aL.Length))), (37, vi (w64 (aL.At.Y - 1))), (36, vi aL.At.Y), (35, .ref 2 1), (34, .ref 2 0), (33, vi (w64 (aL.At.X - aL.Length))), (32, vi aL.Length), (31, .ref 2 2), (30, vi aL.At.X), (29, .ref 2 0), (28, .ref 2 0), (2, .ref 2 0), (17, vi aPosition), (26, vb (aPosition == 2))], [(2, .box [vi aL.At.X, vi aL.At.Y, vi aL.Length, vi aL.Priority])]⟩) (by kernel_rfl) ?_
  refine DGo.nil (by kernel_rfl) ?_
  replace h := Option.some.inj h
  subst h
  exact q_bn (q_l (Le.sub0))
  replace h := cond_f hb h
  refine swp_seq ?_
  refine swp_reg ?_
  refine SRun.ck tbok 2 ⟨62, [(2, .ref 2 0), (5, vi (w64 (aL.At.X + 1))), (6, vi (w64 (aL.At.Y + 1))), (17, vi aPosition), (38, vb (aPosition == 3))], [(2, .box [vi aL.At.X, vi aL.At.Y, vi aL.Length, vi aL.Priority])]⟩ ?_
  refine SRun.nil ?_
  refine nx_n ?_
  refine swp_cond (b := (aPosition == 3)) (by kernel_rfl) (fun hb => ?_) (fun hb => ?_)
  replace h := cond_t hb h
  refine swp_reg ?_
  refine SRun.ck tbok 5 ⟨62, [(2, .ref 2 0), (5, vi (w64 (aL.At.X + 1))), (6, vi (w64 (aL.At.Y - 1)))], [(2, .box [vi aL.At.X, vi aL.At.Y, vi aL.Length, vi aL.Priority])]⟩ ?_
  refine SRun.nil ?_
  replace h := Option.some.inj h
  subst h
  exact q_bn (q_l (Le.sub0))
  replace h := cond_f hb h
  refine swp_seq ?_
  refine swp_reg ?_
  refine SRun.ck tbok 2 ⟨62, [(2, .ref 2 0), (5, vi (w64 (aL.At.X + 1))), (6, vi (w64 (aL.At.Y + 1))), (44, vb (aPosition == 4))], [(2, .box [vi aL.At.X, vi aL.At.Y, vi aL.Length, vi aL.Priority])]⟩ ?_
  refine SRun.nil ?_
  refine nx_n ?_
  refine swp_cond (b := (aPosition == 4)) (by kernel_rfl) (fun hb => ?_) (fun hb => ?_)
  replace h := cond_t hb h
  refine swp_seq ?_
  refine swp_reg ?_
  refine SRun.ck tbok 1 ⟨62, [(4, .own 4)], [(4, .arr 50 2 ([] : List Point).length (([] : List Point).map ePoint))]⟩ ?_
  refine SRun.nil ?_
  refine nx_n ?_
  refine swp_ret ?_
  replace h := Option.some.inj h
  subst h
  exact q_br (q_rr (q_fr (fin1 (by kernel_rfl) (finO (d := 4) (holds_t (by kernel_rfl)) (by kernel_rfl) (flat_map ePoint_flat _) (by kernel_rfl)))))
  replace h := cond_f hb h
  refine swp_skip ?_
  replace h := Option.some.inj h
  subst h
  exact q_bn (q_l (Le.sub0))
  refine swp_seq ?_
  refine swp_reg ?_
  refine SRun.ck tbok 1 ⟨62, [(2, .ref 2 0), (5, vi j1.1), (6, vi j1.2), (7, .own 7)], [(2, .box [vi aL.At.X, vi aL.At.Y, vi aL.Length, vi aL.Priority]), (7, .arr 50 2 ([] : List Point).length (([] : List Point).map ePoint))]⟩ ?_
  refine SRun.nil ?_
  refine nx_n ?_
  refine swp_seq ?_
  refine swp_seq ?_
  refine swp_reg ?_
  refine SRun.ck tbok 2 ⟨62, [(2, .ref 2 0), (5, vi j1.1), (6, vi j1.2), (7, .own 7), (8, vi j1.1)], [(2, .box [vi aL.At.X, vi aL.At.Y, vi aL.Length, vi aL.Priority]), (7, .arr 50 2 ([] : List Point).length (([] : List Point).map ePoint))]⟩ ?_
  refine SRun.nil ?_
  refine nx_n ?_
  refine swp_seqJ h (fun j3 => ⟨62, [(7, .own 7)], [(7, .arr 50 2 j3.length (j3.map ePoint))]⟩) (fun v4 h => ?_) (fun j3 h => ?_)
  refine swp_blk (a := v4) ?_
  refine swp_lpL (r := v4) (s := (j1.1, ([] : List Point))) _ (fun s5 => ⟨62, [(2, .ref 2 0), (5, vi j1.1), (6, vi j1.2), (7, .own 7), (8, vi s5.1)], [(2, .box [vi aL.At.X, vi aL.At.Y, vi aL.Length, vi aL.Priority]), (7, .arr 50 2 s5.2.length (s5.2.map ePoint))]⟩) _ (Le.sub0) h (fun s5 v6 h => ?_)
  refine swp_seq ?_
  refine swp_seq ?_
  refine swp_reg ?_
  refine SRun.ck tbok 6 ⟨62, [(2, .ref 2 0), (5, vi j1.1), (6, vi j1.2), (7, .own 7), (8, vi s5.1), (52, vb (decide (s5.1 < (w64 (j1.1 + aL.Length)))))], [(2, .box [vi aL.At.X, vi aL.At.Y, vi aL.Length, vi aL.Priority]), (7, .arr 50 2 s5.2.length (s5.2.map ePoint))]⟩ ?_
  refine SRun.nil ?_
  refine nx_n ?_
  refine swp_cond (b := (decide (s5.1 < (w64 (j1.1 + aL.Length))))) (by kernel_rfl) (fun hb => ?_) (fun hb => ?_)
  replace h := cond_t hb h
  refine swp_skip ?_
  refine nx_n ?_
  refine swp_seq ?_
  refine swp_seqJ h (fun j7 => ⟨62, [(2, .ref 2 0), (5, vi j1.1), (6, vi j1.2), (7, .own 7), (8, vi s5.1)], [(2, .box [vi aL.At.X, vi aL.At.Y, vi aL.Length, vi aL.Priority]), (7, .arr 50 2 j7.length (j7.map ePoint))]⟩) (fun v8 h => ?_) (fun j7 h => ?_)
  refine swp_blk (a := v8) ?_
  refine swp_reg ?_
  refine SRun.ck tbok 3 ⟨62, [(2, .ref 2 0), (5, vi j1.1), (6, vi j1.2), (8, vi s5.1), (55, .own 7), (56, vi s5.1), (57, vi j1.2)], [(2, .box [vi aL.At.X, vi aL.At.Y, vi aL.Length, vi aL.Priority]), (7, .arr 50 2 s5.2.length (s5.2.map ePoint))]⟩ ?_
  refine SRun.ls (x_lstep_build (v := .agg [vi s5.1, vi j1.2]) tbok rfl) ?_
  refine SRun.ck tbok 1 ⟨62, [(2, .ref 2 0), (5, vi j1.1), (6, vi j1.2), (8, vi s5.1), (55, .own 7), (59, .own 59)], [(2, .box [vi aL.At.X, vi aL.At.Y, vi aL.Length, vi aL.Priority]), (7, .arr 50 2 s5.2.length (s5.2.map ePoint)), (59, .arr 50 2 ([(Point.mk s5.1 j1.2)] : List Point).length (([(Point.mk s5.1 j1.2)] : List Point).map ePoint))]⟩ ?_
  obtain ⟨x9, hx9, h⟩ := bind_some h
  refine SRun.estep (x_append (f := ePoint) (t := 91) (ti := ti91) (tj := ti50) (zs := [.int .i64 0, .int .i64 0]) (e := 50) (m := 2) (d := 7) (xv := .own 59) hx9 tbok rfl rfl rfl rfl (x_src_o (e := 50))) ?_
  refine SRun.ck tbok 1 ⟨62, [(2, .ref 2 0), (5, vi j1.1), (6, vi j1.2), (7, .own 60), (8, vi s5.1)], [(2, .box [vi aL.At.X, vi aL.At.Y, vi aL.Length, vi aL.Priority]), (60, .arr 50 2 x9.length (x9.map ePoint))]⟩ ?_
  refine SRun.nil ?_
  replace h := Option.some.inj h
  subst h
  exact q_bn (q_j ((Le.sub' ([(2, .ref 2 0), (5, vi j1.1), (6, vi j1.2), (7, .own 60), (8, vi s5.1)] : List (Nat × SV)) ([(2, .box [vi aL.At.X, vi aL.At.Y, vi aL.Length, vi aL.Priority]), (60, .arr 50 2 x9.length (x9.map ePoint))] : List (Nat × SO)) (by kernel_rfl) (by kernel_rfl)).trans ((Le.ren' (d := 60) (e := 7) (by kernel_rfl) (by kernel_rfl) (by kernel_rfl)).trans (Le.sub0))))
  refine swp_reg ?_
  refine SRun.ck tbok 3 ⟨62, [(2, .ref 2 0), (5, vi j1.1), (6, vi j1.2), (7, .own 7), (8, vi (w64 (s5.1 + 1)))], [(2, .box [vi aL.At.X, vi aL.At.Y, vi aL.Length, vi aL.Priority]), (7, .arr 50 2 j7.length (j7.map ePoint))]⟩ ?_
  refine SRun.nil ?_
  replace h := Option.some.inj h
  subst h
  exact q_l (Le.sub0)
  replace h := cond_f hb h
  refine swp_exit ?_
  replace h := Option.some.inj h
  subst h
  exact nx_e (q_re (q_bh (q_j (Le.sub0))))
  refine swp_seq ?_
  refine swp_reg ?_
  refine SRun.ck tbok 2 ⟨62, [(4, .own 7)], [(7, .arr 50 2 j3.length (j3.map ePoint))]⟩ ?_
  refine SRun.nil ?_
  refine nx_n ?_
  refine swp_ret ?_
  replace h := Option.some.inj h
  subst h
  exact q_fr (fin1 (by kernel_rfl) (finO (d := 7) (holds_t (by kernel_rfl)) (by kernel_rfl) (flat_map ePoint_flat _) (by kernel_rfl)))
theorem ents68 : Ents Try.prog 68 := ents_of Try.func68 (by kernel_rfl) rfl
noncomputable def impl_isAllowed_1 (aP : Point) (c0 : (List Label)) : Option (Bool) :=
  ((impl_isAt c0 aP).bind fun x1 => some x1)
set_option maxRecDepth 100000 in
set_option maxHeartbeats 4000000 in
theorem impl_isAllowed_1_run (aP : Point) (c0 : (List Label)) (r : Bool) (h : impl_isAllowed_1 aP c0 = some r) : SCall Try.prog 78 [.v (.agg [vi aP.X, vi aP.Y]), .v (.ptr [vl eLabel c0] 0)] ⟨[.v (vb r)], [], false⟩ := by
  refine scall_in Try.func78 rfl [(.tmp 3)] rfl (fun r => ⟨[.v (vb r)], [], false⟩) (r := r) ?_
  unfold impl_isAllowed_1 at h
  refine swp_seq ?_
  refine swp_reg ?_
  refine SRun.ck tbok 2 ⟨7, [(1, .ptr [vl eLabel c0] 0), (2, .ref 2 0)], [(2, .box [vi aP.X, vi aP.Y])]⟩ ?_
  refine SRun.nil ?_
  refine nx_n ?_
  refine swp_seq ?_
  refine swp_reg ?_
  refine SRun.ck tbok 2 ⟨7, [(4, vl eLabel c0), (5, .agg [vi aP.X, vi aP.Y])], []⟩ ?_
  obtain ⟨x1, hx1, h⟩ := bind_some h
  refine SRun.ls (x_lstep_call (f := 53) (caps := []) (xs := [vl eLabel c0, .agg [vi aP.X, vi aP.Y]]) (ys := [vl eLabel c0, .agg [vi aP.X, vi aP.Y]]) (res := ⟨[.v (vb x1)], [], false⟩) (x := vb x1) (y := none) rfl ents53 (impl_isAt_run c0 aP _ hx1) rfl (by intro hc; cases hc)) ?_
  refine SRun.ck tbok 1 ⟨7, [(3, vb x1)], []⟩ ?_
  refine SRun.nil ?_
  refine nx_n ?_
  refine swp_ret ?_
  replace h := Option.some.inj h
  subst h
  exact q_fr (fin1 (by kernel_rfl) (finV rfl SV.flat_of (holds_t (by kernel_rfl))))
theorem ents78 : Ents Try.prog 78 := ents_of Try.func78 (by kernel_rfl) rfl
noncomputable def slices_IndexFunc_Point_impl_isAllowed_1 (aS : (List Point)) (aF0 : (List Label)) : Option (Int) :=
  (((forN (aS.length : Int) (fun (i3 : Int) (_ : Unit) => ((at' aS i3).bind fun x7 => ((impl_isAllowed_1 x7 aF0).bind fun x8 => (bif x8 then some (.inr (.inr i3)) else some (.inl ()))))) (fun (_ : Unit) => .inl ()) 0 ())).bind (Sum.elim (fun (_ : Unit) => some (-1)) some))
set_option maxRecDepth 100000 in
set_option maxHeartbeats 4000000 in
theorem slices_IndexFunc_Point_impl_isAllowed_1_run (aS : (List Point)) (aF0 : (List Label)) (r : Int) (h : slices_IndexFunc_Point_impl_isAllowed_1 aS aF0 = some r) : SCall Try.prog 81 [.v (vl ePoint aS), .v (.clo 78 [.ptr [vl eLabel aF0] 0])] ⟨[.v (vi r)], [], false⟩ := by
  refine scall_in Try.func81 rfl [(.tmp 4)] rfl (fun r => ⟨[.v (vi r)], [], false⟩) (r := r) ?_
  unfold slices_IndexFunc_Point_impl_isAllowed_1 at h
  refine swp_seq ?_
  refine swp_reg ?_
  refine SRun.ck tbok 1 ⟨19, [(0, vl ePoint aS), (1, .clo 78 [.ptr [vl eLabel aF0] 0])], []⟩ ?_
  refine SRun.nil ?_
  refine nx_n ?_
  refine swp_seq ?_
  refine swp_seq ?_
  refine swp_reg ?_
  refine SRun.ck tbok 3 ⟨19, [(0, vl ePoint aS), (1, .clo 78 [.ptr [vl eLabel aF0] 0]), (7, vi (aS.length : Int)), (8, vi 0)], []⟩ ?_
  refine SRun.nil ?_
  refine nx_n ?_
  refine swp_seqE (r := r) h (fun j1 => ⟨19, [], []⟩) (fun v2 h => ?_) (fun j1 h => ?_)
  refine swp_blk (a := v2) ?_
  refine swp_lpL (r := v2) (s := (0, ())) _ (fun s3 => ⟨19, [(0, vl ePoint aS), (1, .clo 78 [.ptr [vl eLabel aF0] 0]), (7, vi (aS.length : Int)), (8, vi s3.1)], []⟩) _ (Le.sub0) h (fun s3 v4 h => ?_)
  refine swp_seq ?_
  refine swp_reg ?_
  refine SRun.ck tbok 1 ⟨19, [(0, vl ePoint aS), (1, .clo 78 [.ptr [vl eLabel aF0] 0]), (7, vi (aS.length : Int)), (8, vi s3.1), (9, vb (decide (s3.1 < (aS.length : Int))))], []⟩ ?_
  refine SRun.nil ?_
  refine nx_n ?_
  refine swp_seq ?_
  refine swp_cond (b := (decide (s3.1 < (aS.length : Int)))) (by kernel_rfl) (fun hb => ?_) (fun hb => ?_)
  replace h := cond_t hb h
  refine swp_skip ?_
  refine nx_n ?_
  refine swp_seq ?_
  refine swp_seqL (r := v4) h (fun j5 => ⟨19, [(0, vl ePoint aS), (1, .clo 78 [.ptr [vl eLabel aF0] 0]), (7, vi (aS.length : Int)), (8, vi s3.1)], []⟩) (fun v6 h => ?_) (fun j5 h => ?_)
  refine swp_blk (a := v6) ?_
  refine swp_seq ?_
  refine swp_reg ?_
  refine SRun.ck tbok 2 ⟨19, [(0, vl ePoint aS), (1, .clo 78 [.ptr [vl eLabel aF0] 0]), (5, vi s3.1), (7, vi (aS.length : Int)), (8, vi s3.1)], []⟩ ?_
  refine SRun.nil ?_
  refine nx_n ?_
  refine swp_seq ?_
  refine swp_reg ?_
  refine SRun.ck tbok 3 ⟨19, [(0, vl ePoint aS), (1, .clo 78 [.ptr [vl eLabel aF0] 0]), (5, vi s3.1), (7, vi (aS.length : Int)), (8, vi s3.1), (11, .clo 78 [.ptr [vl eLabel aF0] 0]), (12, vl ePoint aS), (13, vi s3.1)], []⟩ ?_
  obtain ⟨x7, hx7, h⟩ := bind_some h
  refine SRun.ls (x_index (L := aS) (f := ePoint) (ti := ti91) (tj := ti50) (e := 50) (k := .i64) tbok rfl hx7) ?_
  refine SRun.ck tbok 1 ⟨19, [(0, vl ePoint aS), (1, .clo 78 [.ptr [vl eLabel aF0] 0]), (5, vi s3.1), (7, vi (aS.length : Int)), (8, vi s3.1), (11, .clo 78 [.ptr [vl eLabel aF0] 0]), (15, .agg [vi x7.X, vi x7.Y])], []⟩ ?_
  obtain ⟨x8, hx8, h⟩ := bind_some h
  refine SRun.ls (x_lstep_call (f := 78) (caps := [.ptr [vl eLabel aF0] 0]) (xs := [.agg [vi x7.X, vi x7.Y]]) (ys := [.agg [vi x7.X, vi x7.Y], .ptr [vl eLabel aF0] 0]) (res := ⟨[.v (vb x8)], [], false⟩) (x := vb x8) (y := none) rfl ents78 (impl_isAllowed_1_run x7 aF0 _ hx8) rfl (by intro hc; cases hc)) ?_
  refine SRun.nil ?_
  refine nx_n ?_
  refine swp_cond (b := x8) (by kernel_rfl) (fun hb => ?_) (fun hb => ?_)
  replace h := cond_t hb h
  refine swp_seq ?_
  refine swp_reg ?_
  refine SRun.ck tbok 2 ⟨19, [(4, vi s3.1)], []⟩ ?_
  refine SRun.nil ?_
  refine nx_n ?_
  refine swp_ret ?_
  replace h := Option.some.inj h
  subst h
  exact q_br (q_rr (q_rr (q_br (q_rr (q_fr (fin1 (by kernel_rfl) (finV rfl SV.flat_of (holds_t (by kernel_rfl)))))))))
  replace h := cond_f hb h
  refine swp_skip ?_
  replace h := Option.some.inj h
  subst h
  exact q_bn (q_l (Le.sub0))
  refine swp_reg ?_
  refine SRun.ck tbok 2 ⟨19, [(0, vl ePoint aS), (1, .clo 78 [.ptr [vl eLabel aF0] 0]), (7, vi (aS.length : Int)), (8, vi (w64 (s3.1 + 1)))], []⟩ ?_
  refine SRun.nil ?_
  replace h := Option.some.inj h
  subst h
  exact q_l (Le.sub0)
  replace h := cond_f hb h
  refine swp_exit ?_
  replace h := Option.some.inj h
  subst h
  exact nx_e (q_re (q_bh (q_l (Le.sub0))))
  refine swp_seq ?_
  refine swp_reg ?_
  refine SRun.ck tbok 1 ⟨19, [(4, vi (-1))], []⟩ ?_
  refine SRun.nil ?_
  refine nx_n ?_
  refine swp_ret ?_
  replace h := Option.some.inj h
  subst h
  exact q_fr (fin1 (by kernel_rfl) (finV rfl SV.flat_of (holds_t (by kernel_rfl))))
theorem ents81 : Ents Try.prog 81 := ents_of Try.func81 (by kernel_rfl) rfl
noncomputable def slices_ContainsFunc_Point_impl_isAllowed_1 (aS : (List Point)) (aF0 : (List Label)) : Option (Bool) :=
  ((slices_IndexFunc_Point_impl_isAllowed_1 aS aF0).bind fun x1 => some (decide (x1 ≥ 0)))
set_option maxRecDepth 100000 in
set_option maxHeartbeats 4000000 in
theorem slices_ContainsFunc_Point_impl_isAllowed_1_run (aS : (List Point)) (aF0 : (List Label)) (r : Bool) (h : slices_ContainsFunc_Point_impl_isAllowed_1 aS aF0 = some r) : SCall Try.prog 69 [.v (vl ePoint aS), .v (.clo 78 [.ptr [vl eLabel aF0] 0])] ⟨[.v (vb r)], [], false⟩ := by
  refine scall_in Try.func69 rfl [(.tmp 4)] rfl (fun r => ⟨[.v (vb r)], [], false⟩) (r := r) ?_
  unfold slices_ContainsFunc_Point_impl_isAllowed_1 at h
  refine swp_seq ?_
  refine swp_reg ?_
  refine SRun.ck tbok 1 ⟨9, [(0, vl ePoint aS), (1, .clo 78 [.ptr [vl eLabel aF0] 0])], []⟩ ?_
  refine SRun.nil ?_
  refine nx_n ?_
  refine swp_seq ?_
  refine swp_reg ?_
  refine SRun.ck tbok 2 ⟨9, [(5, vl ePoint aS), (6, .clo 78 [.ptr [vl eLabel aF0] 0])], []⟩ ?_
  obtain ⟨x1, hx1, h⟩ := bind_some h
  refine SRun.ls (x_lstep_call (f := 81) (caps := []) (xs := [vl ePoint aS, .clo 78 [.ptr [vl eLabel aF0] 0]]) (ys := [vl ePoint aS, .clo 78 [.ptr [vl eLabel aF0] 0]]) (res := ⟨[.v (vi x1)], [], false⟩) (x := vi x1) (y := none) rfl ents81 (slices_IndexFunc_Point_impl_isAllowed_1_run aS aF0 _ hx1) rfl (by intro hc; cases hc)) ?_
  refine SRun.ck tbok 2 ⟨9, [(4, vb (decide (x1 ≥ 0)))], []⟩ ?_
  refine SRun.nil ?_
  refine nx_n ?_
  refine swp_ret ?_
  replace h := Option.some.inj h
  subst h
  exact q_fr (fin1 (by kernel_rfl) (finV rfl SV.flat_of (holds_t (by kernel_rfl))))
theorem ents69 : Ents Try.prog 69 := ents_of Try.func69 (by kernel_rfl) rfl
noncomputable def impl_isAllowed (aList : (List Label)) (aL : Label) (aPosition : Int) : Option (Bool) :=
  ((impl_Label_covered aL aPosition).bind fun x1 => ((slices_ContainsFunc_Point_impl_isAllowed_1 x1 aList).bind fun x2 => some (!x2)))
set_option maxRecDepth 100000 in
set_option maxHeartbeats 4000000 in
theorem impl_isAllowed_run (aList : (List Label)) (aL : Label) (aPosition : Int) (r : Bool) (h : impl_isAllowed aList aL aPosition = some r) : SCall Try.prog 60 [.v (vl eLabel aList), .v (.agg [vi aL.At.X, vi aL.At.Y, vi aL.Length, vi aL.Priority]), .v (vi aPosition)] ⟨[.v (vb r)], [], false⟩ := by
  refine scall_in Try.func60 rfl [(.tmp 6)] rfl (fun r => ⟨[.v (vb r)], [], false⟩) (r := r) ?_
  unfold impl_isAllowed at h
  refine swp_seq ?_
  refine swp_reg ?_
  refine SRun.ck tbok 3 ⟨13, [(2, vi aPosition), (3, .ref 3 0), (4, .ref 4 0)], [(3, .box [vl eLabel aList]), (4, .box [vi aL.At.X, vi aL.At.Y, vi aL.Length, vi aL.Priority])]⟩ ?_
  refine SRun.nil ?_
  refine nx_n ?_
  refine swp_seq ?_
  refine swp_reg ?_
  refine SRun.ck tbok 2 ⟨13, [(3, .ref 3 0), (7, .agg [vi aL.At.X, vi aL.At.Y, vi aL.Length, vi aL.Priority]), (8, vi aPosition)], [(3, .box [vl eLabel aList])]⟩ ?_
  obtain ⟨x1, hx1, h⟩ := bind_some h
  refine SRun.ls (x_lstep_call (f := 68) (caps := []) (xs := [.agg [vi aL.At.X, vi aL.At.Y, vi aL.Length, vi aL.Priority], vi aPosition]) (ys := [.agg [vi aL.At.X, vi aL.At.Y, vi aL.Length, vi aL.Priority], vi aPosition]) (res := ⟨[.own 50 2 x1.length (x1.map ePoint)], [], false⟩) (x := .own 9) (y := some (.arr 50 2 x1.length (x1.map ePoint))) rfl ents68 (impl_Label_covered_run aL aPosition _ hx1) rfl (by intro hc; cases hc)) ?_
  refine SRun.ck tbok 1 ⟨13, [(9, .own 9), (10, .clo 78 [.ref 3 0])], [(3, .box [vl eLabel aList]), (9, .arr 50 2 x1.length (x1.map ePoint))]⟩ ?_
  obtain ⟨x2, hx2, h⟩ := bind_some h
  refine SRun.ls (x_lstep_call (f := 69) (caps := []) (xs := [.own 9, .clo 78 [.ref 3 0]]) (ys := [vl ePoint x1, .clo 78 [.ptr [vl eLabel aList] 0]]) (res := ⟨[.v (vb x2)], [], false⟩) (x := vb x2) (y := none) rfl ents69 (slices_ContainsFunc_Point_impl_isAllowed_1_run x1 aList _ hx2) rfl (by intro hc; cases hc)) ?_
  refine SRun.ck tbok 2 ⟨13, [(6, vb (!x2))], []⟩ ?_
  refine SRun.nil ?_
  refine nx_n ?_
  refine swp_ret ?_
  replace h := Option.some.inj h
  subst h
  exact q_fr (fin1 (by kernel_rfl) (finV rfl SV.flat_of (holds_t (by kernel_rfl))))
theorem ents60 : Ents Try.prog 60 := ents_of Try.func60 (by kernel_rfl) rfl
noncomputable def slices_Index_Point (aS : (List Point)) (aV : Point) : Option (Int) :=
  (((forN (aS.length : Int) (fun (i3 : Int) (_ : Unit) => ((at' aS i3).bind fun x7 => (bif ((aV.X == x7.X) && (aV.Y == x7.Y)) then some (.inr (.inr i3)) else some (.inl ())))) (fun (_ : Unit) => .inl ()) 0 ())).bind (Sum.elim (fun (_ : Unit) => some (-1)) some))
set_option maxRecDepth 100000 in
set_option maxHeartbeats 4000000 in
theorem slices_Index_Point_run (aS : (List Point)) (aV : Point) (r : Int) (h : slices_Index_Point aS aV = some r) : SCall Try.prog 82 [.v (vl ePoint aS), .v (.agg [vi aV.X, vi aV.Y])] ⟨[.v (vi r)], [], false⟩ := by
  refine scall_in Try.func82 rfl [(.tmp 4)] rfl (fun r => ⟨[.v (vi r)], [], false⟩) (r := r) ?_
  unfold slices_Index_Point at h
  refine swp_seq ?_
  refine swp_reg ?_
  refine SRun.ck tbok 2 ⟨19, [(0, vl ePoint aS), (3, .ref 3 0)], [(3, .box [vi aV.X, vi aV.Y])]⟩ ?_
  refine SRun.nil ?_
  refine nx_n ?_
  refine swp_seq ?_
  refine swp_seq ?_
  refine swp_reg ?_
  refine SRun.ck tbok 3 ⟨19, [(0, vl ePoint aS), (3, .ref 3 0), (7, vi (aS.length : Int)), (8, vi 0)], [(3, .box [vi aV.X, vi aV.Y])]⟩ ?_
  refine SRun.nil ?_
  refine nx_n ?_
  refine swp_seqE (r := r) h (fun j1 => ⟨19, [], []⟩) (fun v2 h => ?_) (fun j1 h => ?_)
  refine swp_blk (a := v2) ?_
  refine swp_lpL (r := v2) (s := (0, ())) _ (fun s3 => ⟨19, [(0, vl ePoint aS), (3, .ref 3 0), (7, vi (aS.length : Int)), (8, vi s3.1)], [(3, .box [vi aV.X, vi aV.Y])]⟩) _ (Le.sub0) h (fun s3 v4 h => ?_)
  refine swp_seq ?_
  refine swp_reg ?_
  refine SRun.ck tbok 1 ⟨19, [(0, vl ePoint aS), (3, .ref 3 0), (7, vi (aS.length : Int)), (8, vi s3.1), (9, vb (decide (s3.1 < (aS.length : Int))))], [(3, .box [vi aV.X, vi aV.Y])]⟩ ?_
  refine SRun.nil ?_
  refine nx_n ?_
  refine swp_seq ?_
  refine swp_cond (b := (decide (s3.1 < (aS.length : Int)))) (by kernel_rfl) (fun hb => ?_) (fun hb => ?_)
  replace h := cond_t hb h
  refine swp_skip ?_
  refine nx_n ?_
  refine swp_seq ?_
  refine swp_seqL (r := v4) h (fun j5 => ⟨19, [(0, vl ePoint aS), (3, .ref 3 0), (7, vi (aS.length : Int)), (8, vi s3.1)], [(3, .box [vi aV.X, vi aV.Y])]⟩) (fun v6 h => ?_) (fun j5 h => ?_)
  refine swp_blk (a := v6) ?_
  refine swp_seq ?_
  refine swp_reg ?_
  refine SRun.ck tbok 2 ⟨19, [(0, vl ePoint aS), (3, .ref 3 0), (5, vi s3.1), (7, vi (aS.length : Int)), (8, vi s3.1)], [(3, .box [vi aV.X, vi aV.Y])]⟩ ?_
  refine SRun.nil ?_
  refine nx_n ?_
  refine swp_seq ?_
  refine swp_dr mixed ?_
  refine DGo.chunk' tbok 3 (σ' := ⟨19, [(13, vi s3.1), (12, vl ePoint aS), (11, .agg [vi aV.X, vi aV.Y]), (0, vl ePoint aS), (3, .ref 3 0), (5, vi s3.1), (7, vi (aS.length : Int)), (8, vi s3.1)], [(3, .box [vi aV.X, vi aV.Y])]⟩) (by kernel_rfl) ?_
  obtain ⟨x7, hx7, h⟩ := bind_some h
  refine DGo.step (x_index (L := aS) (f := ePoint) (ti := ti91) (tj := ti50) (e := 50) (k := .i64) tbok rfl hx7) ?_
  refine DGo.chunk' tbok 1 (σ' := ⟨19, [(15, .agg [vi x7.X, vi x7.Y]), (14, .ptr ((ePoint x7).map .tr) 0), (13, vi s3.1), (12, vl ePoint aS), (11, .agg [vi aV.X, vi aV.Y]), (0, vl ePoint aS), (3, .ref 3 0), (5, vi s3.1), (7, vi (aS.length : Int)), (8, vi s3.1)], [(3, .box [vi aV.X, vi aV.Y])]⟩) (by kernel_rfl) ?_
  refine DGo.step (x_lstep_eq tbok false (xs := [vi aV.X, vi aV.Y]) (ys := [vi x7.X, vi x7.Y]) (b := ((aV.X == x7.X) && (aV.Y == x7.Y))) rfl) ?_
  refine DGo.nil (by kernel_rfl) ?_
  refine nx_n ?_
  refine swp_cond (b := ((aV.X == x7.X) && (aV.Y == x7.Y))) (by kernel_rfl) (fun hb => ?_) (fun hb => ?_)
  replace h := cond_t hb h
  refine swp_seq ?_
  refine swp_reg ?_
  refine SRun.ck tbok 2 ⟨19, [(4, vi s3.1)], []⟩ ?_
  refine SRun.nil ?_
  refine nx_n ?_
  refine swp_ret ?_
  replace h := Option.some.inj h
  subst h
  exact q_br (q_rr (q_rr (q_br (q_rr (q_fr (fin1 (by kernel_rfl) (finV rfl SV.flat_of (holds_t (by kernel_rfl)))))))))
  replace h := cond_f hb h
  refine swp_skip ?_
  replace h := Option.some.inj h
  subst h
  exact q_bn (q_l (Le.sub0))
  refine swp_reg ?_
  refine SRun.ck tbok 2 ⟨19, [(0, vl ePoint aS), (3, .ref 3 0), (7, vi (aS.length : Int)), (8, vi (w64 (s3.1 + 1)))], [(3, .box [vi aV.X, vi aV.Y])]⟩ ?_
  refine SRun.nil ?_
  replace h := Option.some.inj h
  subst h
  exact q_l (Le.sub0)
  replace h := cond_f hb h
  refine swp_exit ?_
  replace h := Option.some.inj h
  subst h
  exact nx_e (q_re (q_bh (q_l (Le.sub0))))
  refine swp_seq ?_
  refine swp_reg ?_
  refine SRun.ck tbok 1 ⟨19, [(4, vi (-1))], []⟩ ?_
  refine SRun.nil ?_
  refine nx_n ?_
  refine swp_ret ?_
  replace h := Option.some.inj h
  subst h
  exact q_fr (fin1 (by kernel_rfl) (finV rfl SV.flat_of (holds_t (by kernel_rfl))))
theorem ents82 : Ents Try.prog 82 := ents_of Try.func82 (by kernel_rfl) rfl
noncomputable def slices_Contains_Point (aS : (List Point)) (aV : Point) : Option (Bool) :=
  ((slices_Index_Point aS aV).bind fun x1 => some (decide (x1 ≥ 0)))
set_option maxRecDepth 100000 in
set_option maxHeartbeats 4000000 in
theorem slices_Contains_Point_run (aS : (List Point)) (aV : Point) (r : Bool) (h : slices_Contains_Point aS aV = some r) : SCall Try.prog 71 [.v (vl ePoint aS), .v (.agg [vi aV.X, vi aV.Y])] ⟨[.v (vb r)], [], false⟩ := by
  refine scall_in Try.func71 rfl [(.tmp 4)] rfl (fun r => ⟨[.v (vb r)], [], false⟩) (r := r) ?_
  unfold slices_Contains_Point at h
  refine swp_seq ?_
  refine swp_reg ?_
  refine SRun.ck tbok 2 ⟨9, [(0, vl ePoint aS), (3, .ref 3 0)], [(3, .box [vi aV.X, vi aV.Y])]⟩ ?_
  refine SRun.nil ?_
  refine nx_n ?_
  refine swp_seq ?_
  refine swp_reg ?_
  refine SRun.ck tbok 2 ⟨9, [(5, vl ePoint aS), (6, .agg [vi aV.X, vi aV.Y])], []⟩ ?_
  obtain ⟨x1, hx1, h⟩ := bind_some h
  refine SRun.ls (x_lstep_call (f := 82) (caps := []) (xs := [vl ePoint aS, .agg [vi aV.X, vi aV.Y]]) (ys := [vl ePoint aS, .agg [vi aV.X, vi aV.Y]]) (res := ⟨[.v (vi x1)], [], false⟩) (x := vi x1) (y := none) rfl ents82 (slices_Index_Point_run aS aV _ hx1) rfl (by intro hc; cases hc)) ?_
  refine SRun.ck tbok 2 ⟨9, [(4, vb (decide (x1 ≥ 0)))], []⟩ ?_
  refine SRun.nil ?_
  refine nx_n ?_
  refine swp_ret ?_
  replace h := Option.some.inj h
  subst h
  exact q_fr (fin1 (by kernel_rfl) (finV rfl SV.flat_of (holds_t (by kernel_rfl))))
theorem ents71 : Ents Try.prog 71 := ents_of Try.func71 (by kernel_rfl) rfl
noncomputable def impl_clash_1 (aP : Point) (c0 : (List Point)) : Option (Bool) :=
  ((slices_Contains_Point c0 aP).bind fun x1 => some x1)
set_option maxRecDepth 100000 in
set_option maxHeartbeats 4000000 in
theorem impl_clash_1_run (aP : Point) (c0 : (List Point)) (r : Bool) (h : impl_clash_1 aP c0 = some r) : SCall Try.prog 70 [.v (.agg [vi aP.X, vi aP.Y]), .v (.ptr [vl ePoint c0] 0)] ⟨[.v (vb r)], [], false⟩ := by
  refine scall_in Try.func70 rfl [(.tmp 3)] rfl (fun r => ⟨[.v (vb r)], [], false⟩) (r := r) ?_
  unfold impl_clash_1 at h
  refine swp_seq ?_
  refine swp_reg ?_
  refine SRun.ck tbok 2 ⟨7, [(1, .ptr [vl ePoint c0] 0), (2, .ref 2 0)], [(2, .box [vi aP.X, vi aP.Y])]⟩ ?_
  refine SRun.nil ?_
  refine nx_n ?_
  refine swp_seq ?_
  refine swp_reg ?_
  refine SRun.ck tbok 2 ⟨7, [(4, vl ePoint c0), (5, .agg [vi aP.X, vi aP.Y])], []⟩ ?_
  obtain ⟨x1, hx1, h⟩ := bind_some h
  refine SRun.ls (x_lstep_call (f := 71) (caps := []) (xs := [vl ePoint c0, .agg [vi aP.X, vi aP.Y]]) (ys := [vl ePoint c0, .agg [vi aP.X, vi aP.Y]]) (res := ⟨[.v (vb x1)], [], false⟩) (x := vb x1) (y := none) rfl ents71 (slices_Contains_Point_run c0 aP _ hx1) rfl (by intro hc; cases hc)) ?_
  refine SRun.ck tbok 1 ⟨7, [(3, vb x1)], []⟩ ?_
  refine SRun.nil ?_
  refine nx_n ?_
  refine swp_ret ?_
  replace h := Option.some.inj h
  subst h
  exact q_fr (fin1 (by kernel_rfl) (finV rfl SV.flat_of (holds_t (by kernel_rfl))))
theorem ents70 : Ents Try.prog 70 := ents_of Try.func70 (by kernel_rfl) rfl
noncomputable def slices_IndexFunc_Point_impl_clash_1 (aS : (List Point)) (aF0 : (List Point)) : Option (Int) :=
  (((forN (aS.length : Int) (fun (i3 : Int) (_ : Unit) => ((at' aS i3).bind fun x7 => ((impl_clash_1 x7 aF0).bind fun x8 => (bif x8 then some (.inr (.inr i3)) else some (.inl ()))))) (fun (_ : Unit) => .inl ()) 0 ())).bind (Sum.elim (fun (_ : Unit) => some (-1)) some))
set_option maxRecDepth 100000 in
set_option maxHeartbeats 4000000 in
theorem slices_IndexFunc_Point_impl_clash_1_run (aS : (List Point)) (aF0 : (List Point)) (r : Int) (h : slices_IndexFunc_Point_impl_clash_1 aS aF0 = some r) : SCall Try.prog 81 [.v (vl ePoint aS), .v (.clo 70 [.ptr [vl ePoint aF0] 0])] ⟨[.v (vi r)], [], false⟩ := by
  refine scall_in Try.func81 rfl [(.tmp 4)] rfl (fun r => ⟨[.v (vi r)], [], false⟩) (r := r) ?_
  unfold slices_IndexFunc_Point_impl_clash_1 at h
  refine swp_seq ?_
  refine swp_reg ?_
  refine SRun.ck tbok 1 ⟨19, [(0, vl ePoint aS), (1, .clo 70 [.ptr [vl ePoint aF0] 0])], []⟩ ?_
  refine SRun.nil ?_
  refine nx_n ?_
  refine swp_seq ?_
  refine swp_seq ?_
  refine swp_reg ?_
  refine SRun.ck tbok 3 ⟨19, [(0, vl ePoint aS), (1, .clo 70 [.ptr [vl ePoint aF0] 0]), (7, vi (aS.length : Int)), (8, vi 0)], []⟩ ?_
  refine SRun.nil ?_
  refine nx_n ?_
  refine swp_seqE (r := r) h (fun j1 => ⟨19, [], []⟩) (fun v2 h => ?_) (fun j1 h => ?_)
  refine swp_blk (a := v2) ?_
  refine swp_lpL (r := v2) (s := (0, ())) _ (fun s3 => ⟨19, [(0, vl ePoint aS), (1, .clo 70 [.ptr [vl ePoint aF0] 0]), (7, vi (aS.length : Int)), (8, vi s3.1)], []⟩) _ (Le.sub0) h (fun s3 v4 h => ?_)
  refine swp_seq ?_
  refine swp_reg ?_
  refine SRun.ck tbok 1 ⟨19, [(0, vl ePoint aS), (1, .clo 70 [.ptr [vl ePoint aF0] 0]), (7, vi (aS.length : Int)), (8, vi s3.1), (9, vb (decide (s3.1 < (aS.length : Int))))], []⟩ ?_
  refine SRun.nil ?_
  refine nx_n ?_
  refine swp_seq ?_
  refine swp_cond (b := (decide (s3.1 < (aS.length : Int)))) (by kernel_rfl) (fun hb => ?_) (fun hb => ?_)
  replace h := cond_t hb h
  refine swp_skip ?_
  refine nx_n ?_
  refine swp_seq ?_
  refine swp_seqL (r := v4) h (fun j5 => ⟨19, [(0, vl ePoint aS), (1, .clo 70 [.ptr [vl ePoint aF0] 0]), (7, vi (aS.length : Int)), (8, vi s3.1)], []⟩) (fun v6 h => ?_) (fun j5 h => ?_)
  refine swp_blk (a := v6) ?_
  refine swp_seq ?_
  refine swp_reg ?_
  refine SRun.ck tbok 2 ⟨19, [(0, vl ePoint aS), (1, .clo 70 [.ptr [vl ePoint aF0] 0]), (5, vi s3.1), (7, vi (aS.length : Int)), (8, vi s3.1)], []⟩ ?_
  refine SRun.nil ?_
  refine nx_n ?_
  refine swp_seq ?_
  refine swp_reg ?_
  refine SRun.ck tbok 3 ⟨19, [(0, vl ePoint aS), (1, .clo 70 [.ptr [vl ePoint aF0] 0]), (5, vi s3.1), (7, vi (aS.length : Int)), (8, vi s3.1), (11, .clo 70 [.ptr [vl ePoint aF0] 0]), (12, vl ePoint aS), (13, vi s3.1)], []⟩ ?_
  obtain ⟨x7, hx7, h⟩ := bind_some h
  refine SRun.ls (x_index (L := aS) (f := ePoint) (ti := ti91) (tj := ti50) (e := 50) (k := .i64) tbok rfl hx7) ?_
  refine SRun.ck tbok 1 ⟨19, [(0, vl ePoint aS), (1, .clo 70 [.ptr [vl ePoint aF0] 0]), (5, vi s3.1), (7, vi (aS.length : Int)), (8, vi s3.1), (11, .clo 70 [.ptr [vl ePoint aF0] 0]), (15, .agg [vi x7.X, vi x7.Y])], []⟩ ?_
  obtain ⟨x8, hx8, h⟩ := bind_some h
  refine SRun.ls (x_lstep_call (f := 70) (caps := [.ptr [vl ePoint aF0] 0]) (xs := [.agg [vi x7.X, vi x7.Y]]) (ys := [.agg [vi x7.X, vi x7.Y], .ptr [vl ePoint aF0] 0]) (res := ⟨[.v (vb x8)], [], false⟩) (x := vb x8) (y := none) rfl ents70 (impl_clash_1_run x7 aF0 _ hx8) rfl (by intro hc; cases hc)) ?_
  refine SRun.nil ?_
  refine nx_n ?_
  refine swp_cond (b := x8) (by kernel_rfl) (fun hb => ?_) (fun hb => ?_)
  replace h := cond_t hb h
  refine swp_seq ?_
  refine swp_reg ?_
  refine SRun.ck tbok 2 ⟨19, [(4, vi s3.1)], []⟩ ?_
  refine SRun.nil ?_
  refine nx_n ?_
  refine swp_ret ?_
  replace h := Option.some.inj h
  subst h
  exact q_br (q_rr (q_rr (q_br (q_rr (q_fr (fin1 (by kernel_rfl) (finV rfl SV.flat_of (holds_t (by kernel_rfl)))))))))
  replace h := cond_f hb h
  refine swp_skip ?_
  replace h := Option.some.inj h
  subst h
  exact q_bn (q_l (Le.sub0))
  refine swp_reg ?_
  refine SRun.ck tbok 2 ⟨19, [(0, vl ePoint aS), (1, .clo 70 [.ptr [vl ePoint aF0] 0]), (7, vi (aS.length : Int)), (8, vi (w64 (s3.1 + 1)))], []⟩ ?_
  refine SRun.nil ?_
  replace h := Option.some.inj h
  subst h
  exact q_l (Le.sub0)
  replace h := cond_f hb h
  refine swp_exit ?_
  replace h := Option.some.inj h
  subst h
  exact nx_e (q_re (q_bh (q_l (Le.sub0))))
  refine swp_seq ?_
  refine swp_reg ?_
  refine SRun.ck tbok 1 ⟨19, [(4, vi (-1))], []⟩ ?_
  refine SRun.nil ?_
  refine nx_n ?_
  refine swp_ret ?_
  replace h := Option.some.inj h
  subst h
  exact q_fr (fin1 (by kernel_rfl) (finV rfl SV.flat_of (holds_t (by kernel_rfl))))
noncomputable def slices_ContainsFunc_Point_impl_clash_1 (aS : (List Point)) (aF0 : (List Point)) : Option (Bool) :=
  ((slices_IndexFunc_Point_impl_clash_1 aS aF0).bind fun x1 => some (decide (x1 ≥ 0)))
set_option maxRecDepth 100000 in
set_option maxHeartbeats 4000000 in
theorem slices_ContainsFunc_Point_impl_clash_1_run (aS : (List Point)) (aF0 : (List Point)) (r : Bool) (h : slices_ContainsFunc_Point_impl_clash_1 aS aF0 = some r) : SCall Try.prog 69 [.v (vl ePoint aS), .v (.clo 70 [.ptr [vl ePoint aF0] 0])] ⟨[.v (vb r)], [], false⟩ := by
  refine scall_in Try.func69 rfl [(.tmp 4)] rfl (fun r => ⟨[.v (vb r)], [], false⟩) (r := r) ?_
  unfold slices_ContainsFunc_Point_impl_clash_1 at h
  refine swp_seq ?_
  refine swp_reg ?_
  refine SRun.ck tbok 1 ⟨9, [(0, vl ePoint aS), (1, .clo 70 [.ptr [vl ePoint aF0] 0])], []⟩ ?_
  refine SRun.nil ?_
  refine nx_n ?_
  refine swp_seq ?_
  refine swp_reg ?_
  refine SRun.ck tbok 2 ⟨9, [(5, vl ePoint aS), (6, .clo 70 [.ptr [vl ePoint aF0] 0])], []⟩ ?_
  obtain ⟨x1, hx1, h⟩ := bind_some h
  refine SRun.ls (x_lstep_call (f := 81) (caps := []) (xs := [vl ePoint aS, .clo 70 [.ptr [vl ePoint aF0] 0]]) (ys := [vl ePoint aS, .clo 70 [.ptr [vl ePoint aF0] 0]]) (res := ⟨[.v (vi x1)], [], false⟩) (x := vi x1) (y := none) rfl ents81 (slices_IndexFunc_Point_impl_clash_1_run aS aF0 _ hx1) rfl (by intro hc; cases hc)) ?_
  refine SRun.ck tbok 2 ⟨9, [(4, vb (decide (x1 ≥ 0)))], []⟩ ?_
  refine SRun.nil ?_
  refine nx_n ?_
  refine swp_ret ?_
  replace h := Option.some.inj h
  subst h
  exact q_fr (fin1 (by kernel_rfl) (finV rfl SV.flat_of (holds_t (by kernel_rfl))))
noncomputable def impl_clash (aList : (List Label)) (aPlacement : (List Int)) (aI : Int) (aK : Int) : Option (Bool) :=
  ((at' aList aK).bind fun x1 => ((at' aPlacement aK).bind fun x2 => ((impl_Label_covered x1 x2).bind fun x3 => ((at' aList aI).bind fun x4 => ((at' aPlacement aI).bind fun x5 => ((impl_Label_covered x4 x5).bind fun x6 => ((slices_ContainsFunc_Point_impl_clash_1 x6 x3).bind fun x7 => some x7)))))))
set_option maxRecDepth 100000 in
set_option maxHeartbeats 4000000 in
theorem impl_clash_run (aList : (List Label)) (aPlacement : (List Int)) (aI : Int) (aK : Int) (r : Bool) (h : impl_clash aList aPlacement aI aK = some r) : SCall Try.prog 49 [.v (vl eLabel aList), .v (vl (eI .i64) aPlacement), .v (vi aI), .v (vi aK)] ⟨[.v (vb r)], [], false⟩ := by
  refine scall_in Try.func49 rfl [(.tmp 8)] rfl (fun r => ⟨[.v (vb r)], [], false⟩) (r := r) ?_
  unfold impl_clash at h
  refine swp_seq ?_
  refine swp_reg ?_
  refine SRun.ck tbok 1 ⟨30, [(0, vl eLabel aList), (1, vl (eI .i64) aPlacement), (2, vi aI), (3, vi aK)], []⟩ ?_
  refine SRun.nil ?_
  refine nx_n ?_
  refine swp_seq ?_
  refine swp_dr mixed ?_
  refine DGo.chunk' tbok 2 (σ' := ⟨30, [(11, vi aK), (10, vl eLabel aList), (0, vl eLabel aList), (1, vl (eI .i64) aPlacement), (2, vi aI), (3, vi aK)], []⟩) (by kernel_rfl) ?_
  obtain ⟨x1, hx1, h⟩ := bind_some h
  refine DGo.step (x_index (L := aList) (f := eLabel) (ti := ti27) (tj := ti52) (e := 52) (k := .i64) tbok rfl hx1) ?_
  refine DGo.chunk' tbok 3 (σ' := ⟨30, [(15, vi aK), (14, vl (eI .i64) aPlacement), (13, .agg [vi x1.At.X, vi x1.At.Y, vi x1.Length, vi x1.Priority]), (12, .ptr ((eLabel x1).map .tr) 0), (11, vi aK), (10, vl eLabel aList), (0, vl eLabel aList), (1, vl (eI .i64) aPlacement), (2, vi aI), (3, vi aK)], []⟩) (by kernel_rfl) ?_
  obtain ⟨x2, hx2, h⟩ := bind_some h
  refine DGo.step (x_index (L := aPlacement) (f := (eI .i64)) (ti := ti24) (tj := ti2) (e := 2) (k := .i64) tbok rfl hx2) ?_
  refine DGo.chunk' tbok 1 (σ' := ⟨30, [(17, vi x2), (16, .ptr (((eI .i64) x2).map .tr) 0), (15, vi aK), (14, vl (eI .i64) aPlacement), (13, .agg [vi x1.At.X, vi x1.At.Y, vi x1.Length, vi x1.Priority]), (12, .ptr ((eLabel x1).map .tr) 0), (11, vi aK), (10, vl eLabel aList), (0, vl eLabel aList), (1, vl (eI .i64) aPlacement), (2, vi aI), (3, vi aK)], []⟩) (by kernel_rfl) ?_
  obtain ⟨x3, hx3, h⟩ := bind_some h
  refine DGo.step (x_lstep_call (f := 68) (caps := []) (xs := [.agg [vi x1.At.X, vi x1.At.Y, vi x1.Length, vi x1.Priority], vi x2]) (ys := [.agg [vi x1.At.X, vi x1.At.Y, vi x1.Length, vi x1.Priority], vi x2]) (res := ⟨[.own 50 2 x3.length (x3.map ePoint)], [], false⟩) (x := .own 18) (y := some (.arr 50 2 x3.length (x3.map ePoint))) rfl ents68 (impl_Label_covered_run x1 x2 _ hx3) rfl (by intro hc; cases hc)) ?_
  refine DGo.chunk' tbok 1 (σ' := ⟨30, [(9, .ref 9 0), (18, .own 18), (17, vi x2), (16, .ptr (((eI .i64) x2).map .tr) 0), (15, vi aK), (14, vl (eI .i64) aPlacement), (13, .agg [vi x1.At.X, vi x1.At.Y, vi x1.Length, vi x1.Priority]), (12, .ptr ((eLabel x1).map .tr) 0), (11, vi aK), (10, vl eLabel aList), (0, vl eLabel aList), (1, vl (eI .i64) aPlacement), (2, vi aI), (3, vi aK)], [(9, .box [vl ePoint ([] : List Point)]), (18, .arr 50 2 x3.length (x3.map ePoint))]⟩) (by kernel_rfl) ?_
  refine DGo.seq (by kernel_rfl) (by kernel_rfl) ?_
  refine SRun.estep (x_estep_store (d := 9) (k := 0) (ti := ti91) (cs := [vl ePoint ([] : List Point)]) (vs := [.own 18]) (v := .own 18) tbok rfl rfl) ?_
  refine SRun.nil ?_
  refine nx_n ?_
  refine swp_seq ?_
  refine swp_dr mixed ?_
  refine DGo.chunk' tbok 2 (σ' := ⟨30, [(20, vi aI), (19, vl eLabel aList), (9, .ref 9 0), (18, .own 18), (17, vi x2), (16, .ptr (((eI .i64) x2).map .tr) 0), (15, vi aK), (14, vl (eI .i64) aPlacement), (13, .agg [vi x1.At.X, vi x1.At.Y, vi x1.Length, vi x1.Priority]), (12, .ptr ((eLabel x1).map .tr) 0), (11, vi aK), (10, vl eLabel aList), (0, vl eLabel aList), (1, vl (eI .i64) aPlacement), (2, vi aI), (3, vi aK)], [(9, .box [.own 18]), (18, .arr 50 2 x3.length (x3.map ePoint))]⟩) (by kernel_rfl) ?_
  obtain ⟨x4, hx4, h⟩ := bind_some h
  refine DGo.step (x_index (L := aList) (f := eLabel) (ti := ti27) (tj := ti52) (e := 52) (k := .i64) tbok rfl hx4) ?_
  refine DGo.chunk' tbok 3 (σ' := ⟨30, [(24, vi aI), (23, vl (eI .i64) aPlacement), (22, .agg [vi x4.At.X, vi x4.At.Y, vi x4.Length, vi x4.Priority]), (21, .ptr ((eLabel x4).map .tr) 0), (20, vi aI), (19, vl eLabel aList), (9, .ref 9 0), (18, .own 18), (17, vi x2), (16, .ptr (((eI .i64) x2).map .tr) 0), (15, vi aK), (14, vl (eI .i64) aPlacement), (13, .agg [vi x1.At.X, vi x1.At.Y, vi x1.Length, vi x1.Priority]), (12, .ptr ((eLabel x1).map .tr) 0), (11, vi aK), (10, vl eLabel aList), (0, vl eLabel aList), (1, vl (eI .i64) aPlacement), (2, vi aI), (3, vi aK)], [(9, .box [.own 18]), (18, .arr 50 2 x3.length (x3.map ePoint))]⟩) (by kernel_rfl) ?_
  obtain ⟨x5, hx5, h⟩ := bind_some h
  refine DGo.step (x_index (L := aPlacement) (f := (eI .i64)) (ti := ti24) (tj := ti2) (e := 2) (k := .i64) tbok rfl hx5) ?_
  refine DGo.chunk' tbok 1 (σ' := ⟨30, [(26, vi x5), (25, .ptr (((eI .i64) x5).map .tr) 0), (24, vi aI), (23, vl (eI .i64) aPlacement), (22, .agg [vi x4.At.X, vi x4.At.Y, vi x4.Length, vi x4.Priority]), (21, .ptr ((eLabel x4).map .tr) 0), (20, vi aI), (19, vl eLabel aList), (9, .ref 9 0), (18, .own 18), (17, vi x2), (16, .ptr (((eI .i64) x2).map .tr) 0), (15, vi aK), (14, vl (eI .i64) aPlacement), (13, .agg [vi x1.At.X, vi x1.At.Y, vi x1.Length, vi x1.Priority]), (12, .ptr ((eLabel x1).map .tr) 0), (11, vi aK), (10, vl eLabel aList), (0, vl eLabel aList), (1, vl (eI .i64) aPlacement), (2, vi aI), (3, vi aK)], [(9, .box [.own 18]), (18, .arr 50 2 x3.length (x3.map ePoint))]⟩) (by kernel_rfl) ?_
  obtain ⟨x6, hx6, h⟩ := bind_some h
  refine DGo.step (x_lstep_call (f := 68) (caps := []) (xs := [.agg [vi x4.At.X, vi x4.At.Y, vi x4.Length, vi x4.Priority], vi x5]) (ys := [.agg [vi x4.At.X, vi x4.At.Y, vi x4.Length, vi x4.Priority], vi x5]) (res := ⟨[.own 50 2 x6.length (x6.map ePoint)], [], false⟩) (x := .own 27) (y := some (.arr 50 2 x6.length (x6.map ePoint))) rfl ents68 (impl_Label_covered_run x4 x5 _ hx6) rfl (by intro hc; cases hc)) ?_
  refine DGo.chunk' tbok 1 (σ' := ⟨30, [(28, .clo 70 [.ref 9 0]), (27, .own 27), (26, vi x5), (25, .ptr (((eI .i64) x5).map .tr) 0), (24, vi aI), (23, vl (eI .i64) aPlacement), (22, .agg [vi x4.At.X, vi x4.At.Y, vi x4.Length, vi x4.Priority]), (21, .ptr ((eLabel x4).map .tr) 0), (20, vi aI), (19, vl eLabel aList), (9, .ref 9 0), (18, .own 18), (17, vi x2), (16, .ptr (((eI .i64) x2).map .tr) 0), (15, vi aK), (14, vl (eI .i64) aPlacement), (13, .agg [vi x1.At.X, vi x1.At.Y, vi x1.Length, vi x1.Priority]), (12, .ptr ((eLabel x1).map .tr) 0), (11, vi aK), (10, vl eLabel aList), (0, vl eLabel aList), (1, vl (eI .i64) aPlacement), (2, vi aI), (3, vi aK)], [(27, .arr 50 2 x6.length (x6.map ePoint)), (9, .box [.own 18]), (18, .arr 50 2 x3.length (x3.map ePoint))]⟩) (by kernel_rfl) ?_
  refine DGo.seq (by kernel_rfl) (by kernel_rfl) ?_
  obtain ⟨x7, hx7, h⟩ := bind_some h
  refine SRun.ls (x_lstep_call (f := 69) (caps := []) (xs := [.own 27, .clo 70 [.ref 9 0]]) (ys := [vl ePoint x6, .clo 70 [.ptr [vl ePoint x3] 0]]) (res := ⟨[.v (vb x7)], [], false⟩) (x := vb x7) (y := none) rfl ents69 (slices_ContainsFunc_Point_impl_clash_1_run x6 x3 _ hx7) rfl (by intro hc; cases hc)) ?_
  refine SRun.ck tbok 1 ⟨30, [(8, vb x7)], []⟩ ?_
  refine SRun.nil ?_
  refine nx_n ?_
  refine swp_ret ?_
  replace h := Option.some.inj h
  subst h
  exact q_fr (fin1 (by kernel_rfl) (finV rfl SV.flat_of (holds_t (by kernel_rfl))))
theorem ents49 : Ents Try.prog 49 := ents_of Try.func49 (by kernel_rfl) rfl
noncomputable def impl_isClearAt (aList : (List Label)) (aPlacement : (List Int)) (aI : Int) : Option (Bool) :=
  ((at' aList aI).bind fun x1 => ((at' aPlacement aI).bind fun x2 => ((impl_isAllowed aList x1 x2).bind fun x3 => (bif (!x3) then some false else (((forN aI (fun (i6 : Int) (_ : Unit) => ((impl_clash aList aPlacement aI i6).bind fun x10 => (bif x10 then some (.inr (.inr false)) else some (.inl ())))) (fun (_ : Unit) => .inl ()) 0 ())).bind (Sum.elim (fun (_ : Unit) => some true) some))))))
set_option maxRecDepth 100000 in
set_option maxHeartbeats 4000000 in
theorem impl_isClearAt_run (aList : (List Label)) (aPlacement : (List Int)) (aI : Int) (r : Bool) (h : impl_isClearAt aList aPlacement aI = some r) : SCall Try.prog 36 [.v (vl eLabel aList), .v (vl (eI .i64) aPlacement), .v (vi aI)] ⟨[.v (vb r)], [], false⟩ := by
  refine scall_in Try.func36 rfl [(.tmp 6)] rfl (fun r => ⟨[.v (vb r)], [], false⟩) (r := r) ?_
  unfold impl_isClearAt at h
  refine swp_seq ?_
  refine swp_reg ?_
  refine SRun.ck tbok 1 ⟨29, [(0, vl eLabel aList), (1, vl (eI .i64) aPlacement), (2, vi aI)], []⟩ ?_
  refine SRun.nil ?_
  refine nx_n ?_
  refine swp_seq ?_
  refine swp_seq ?_
  refine swp_dr mixed ?_
  refine DGo.chunk' tbok 3 (σ' := ⟨29, [(10, vi aI), (9, vl eLabel aList), (8, vl eLabel aList), (0, vl eLabel aList), (1, vl (eI .i64) aPlacement), (2, vi aI)], []⟩) (by kernel_rfl) ?_
  obtain ⟨x1, hx1, h⟩ := bind_some h
  refine DGo.step (x_index (L := aList) (f := eLabel) (ti := ti27) (tj := ti52) (e := 52) (k := .i64) tbok rfl hx1) ?_
  refine DGo.chunk' tbok 3 (σ' := ⟨29, [(14, vi aI), (13, vl (eI .i64) aPlacement), (12, .agg [vi x1.At.X, vi x1.At.Y, vi x1.Length, vi x1.Priority]), (11, .ptr ((eLabel x1).map .tr) 0), (10, vi aI), (9, vl eLabel aList), (8, vl eLabel aList), (0, vl eLabel aList), (1, vl (eI .i64) aPlacement), (2, vi aI)], []⟩) (by kernel_rfl) ?_
  obtain ⟨x2, hx2, h⟩ := bind_some h
  refine DGo.step (x_index (L := aPlacement) (f := (eI .i64)) (ti := ti24) (tj := ti2) (e := 2) (k := .i64) tbok rfl hx2) ?_
  refine DGo.chunk' tbok 1 (σ' := ⟨29, [(16, vi x2), (15, .ptr (((eI .i64) x2).map .tr) 0), (14, vi aI), (13, vl (eI .i64) aPlacement), (12, .agg [vi x1.At.X, vi x1.At.Y, vi x1.Length, vi x1.Priority]), (11, .ptr ((eLabel x1).map .tr) 0), (10, vi aI), (9, vl eLabel aList), (8, vl eLabel aList), (0, vl eLabel aList), (1, vl (eI .i64) aPlacement), (2, vi aI)], []⟩) (by kernel_rfl) ?_
  obtain ⟨x3, hx3, h⟩ := bind_some h
  refine DGo.step (x_lstep_call (f := 60) (caps := []) (xs := [vl eLabel aList, .agg [vi x1.At.X, vi x1.At.Y, vi x1.Length, vi x1.Priority], vi x2]) (ys := [vl eLabel aList, .agg [vi x1.At.X, vi x1.At.Y, vi x1.Length, vi x1.Priority], vi x2]) (res := ⟨[.v (vb x3)], [], false⟩) (x := vb x3) (y := none) rfl ents60 (impl_isAllowed_run aList x1 x2 _ hx3) rfl (by intro hc; cases hc)) ?_
  refine DGo.chunk' tbok 1 (σ' := ⟨29, [(18, vb (!x3)), (17, vb x3), (16, vi x2), (15, .ptr (((eI .i64) x2).map .tr) 0), (14, vi aI), (13, vl (eI .i64) aPlacement), (12, .agg [vi x1.At.X, vi x1.At.Y, vi x1.Length, vi x1.Priority]), (11, .ptr ((eLabel x1).map .tr) 0), (10, vi aI), (9, vl eLabel aList), (8, vl eLabel aList), (0, vl eLabel aList), (1, vl (eI .i64) aPlacement), (2, vi aI)], []⟩) (by kernel_rfl) ?_
  refine DGo.nil (by kernel_rfl) ?_
  refine nx_n ?_
  refine swp_cond (b := (!x3)) (by kernel_rfl) (fun hb => ?_) (fun hb => ?_)
  replace h := cond_t hb h
  refine swp_seq ?_
  refine swp_reg ?_
  refine SRun.ck tbok 1 ⟨29, [(6, vb false)], []⟩ ?_
  refine SRun.nil ?_
  refine nx_n ?_
  refine swp_ret ?_
  replace h := Option.some.inj h
  subst h
  exact nx_r (q_fr (fin1 (by kernel_rfl) (finV rfl SV.flat_of (holds_t (by kernel_rfl)))))
  replace h := cond_f hb h
  refine swp_skip ?_
  refine nx_n ?_
  refine swp_seq ?_
  refine swp_seq ?_
  refine swp_reg ?_
  refine SRun.ck tbok 2 ⟨29, [(0, vl eLabel aList), (1, vl (eI .i64) aPlacement), (2, vi aI), (19, vi aI), (20, vi 0)], []⟩ ?_
  refine SRun.nil ?_
  refine nx_n ?_
  refine swp_seqE (r := r) h (fun j4 => ⟨29, [], []⟩) (fun v5 h => ?_) (fun j4 h => ?_)
  refine swp_blk (a := v5) ?_
  refine swp_lpL (r := v5) (s := (0, ())) _ (fun s6 => ⟨29, [(0, vl eLabel aList), (1, vl (eI .i64) aPlacement), (2, vi aI), (19, vi aI), (20, vi s6.1)], []⟩) _ (Le.sub0) h (fun s6 v7 h => ?_)
  refine swp_seq ?_
  refine swp_reg ?_
  refine SRun.ck tbok 1 ⟨29, [(0, vl eLabel aList), (1, vl (eI .i64) aPlacement), (2, vi aI), (19, vi aI), (20, vi s6.1), (21, vb (decide (s6.1 < aI)))], []⟩ ?_
  refine SRun.nil ?_
  refine nx_n ?_
  refine swp_seq ?_
  refine swp_cond (b := (decide (s6.1 < aI))) (by kernel_rfl) (fun hb => ?_) (fun hb => ?_)
  replace h := cond_t hb h
  refine swp_skip ?_
  refine nx_n ?_
  refine swp_seq ?_
  refine swp_seqL (r := v7) h (fun j8 => ⟨29, [(0, vl eLabel aList), (1, vl (eI .i64) aPlacement), (2, vi aI), (19, vi aI), (20, vi s6.1)], []⟩) (fun v9 h => ?_) (fun j8 h => ?_)
  refine swp_blk (a := v9) ?_
  refine swp_seq ?_
  refine swp_reg ?_
  refine SRun.ck tbok 2 ⟨29, [(0, vl eLabel aList), (1, vl (eI .i64) aPlacement), (2, vi aI), (7, vi s6.1), (19, vi aI), (20, vi s6.1)], []⟩ ?_
  refine SRun.nil ?_
  refine nx_n ?_
  refine swp_seq ?_
  refine swp_reg ?_
  refine SRun.ck tbok 4 ⟨29, [(0, vl eLabel aList), (1, vl (eI .i64) aPlacement), (2, vi aI), (19, vi aI), (20, vi s6.1), (23, vl eLabel aList), (24, vl (eI .i64) aPlacement), (25, vi aI), (26, vi s6.1)], []⟩ ?_
  obtain ⟨x10, hx10, h⟩ := bind_some h
  refine SRun.ls (x_lstep_call (f := 49) (caps := []) (xs := [vl eLabel aList, vl (eI .i64) aPlacement, vi aI, vi s6.1]) (ys := [vl eLabel aList, vl (eI .i64) aPlacement, vi aI, vi s6.1]) (res := ⟨[.v (vb x10)], [], false⟩) (x := vb x10) (y := none) rfl ents49 (impl_clash_run aList aPlacement aI s6.1 _ hx10) rfl (by intro hc; cases hc)) ?_
  refine SRun.nil ?_
  refine nx_n ?_
  refine swp_cond (b := x10) (by kernel_rfl) (fun hb => ?_) (fun hb => ?_)
  replace h := cond_t hb h
  refine swp_seq ?_
  refine swp_reg ?_
  refine SRun.ck tbok 1 ⟨29, [(6, vb false)], []⟩ ?_
  refine SRun.nil ?_
  refine nx_n ?_
  refine swp_ret ?_
  replace h := Option.some.inj h
  subst h
  exact q_br (q_rr (q_rr (q_br (q_rr (q_fr (fin1 (by kernel_rfl) (finV rfl SV.flat_of (holds_t (by kernel_rfl)))))))))
  replace h := cond_f hb h
  refine swp_skip ?_
  replace h := Option.some.inj h
  subst h
  exact q_bn (q_l (Le.sub0))
  refine swp_reg ?_
  refine SRun.ck tbok 2 ⟨29, [(0, vl eLabel aList), (1, vl (eI .i64) aPlacement), (2, vi aI), (19, vi aI), (20, vi (w64 (s6.1 + 1)))], []⟩ ?_
  refine SRun.nil ?_
  replace h := Option.some.inj h
  subst h
  exact q_l (Le.sub0)
  replace h := cond_f hb h
  refine swp_exit ?_
  replace h := Option.some.inj h
  subst h
  exact nx_e (q_re (q_bh (q_l (Le.sub0))))
  refine swp_seq ?_
  refine swp_reg ?_
  refine SRun.ck tbok 1 ⟨29, [(6, vb true)], []⟩ ?_
  refine SRun.nil ?_
  refine nx_n ?_
  refine swp_ret ?_
  replace h := Option.some.inj h
  subst h
  exact q_fr (fin1 (by kernel_rfl) (finV rfl SV.flat_of (holds_t (by kernel_rfl))))
theorem ents36 : Ents Try.prog 36 := ents_of Try.func36 (by kernel_rfl) rfl
noncomputable def impl_isClear (aList : (List Label)) (aPlacement : (List Int)) : Option (Bool) :=
  (((forN (aList.length : Int) (fun (i3 : Int) (_ : Unit) => ((impl_isClearAt aList aPlacement i3).bind fun x7 => (bif (!x7) then some (.inr (.inr false)) else some (.inl ())))) (fun (_ : Unit) => .inl ()) 0 ())).bind (Sum.elim (fun (_ : Unit) => some true) some))
set_option maxRecDepth 100000 in
set_option maxHeartbeats 4000000 in
theorem impl_isClear_run (aList : (List Label)) (aPlacement : (List Int)) (r : Bool) (h : impl_isClear aList aPlacement = some r) : SCall Try.prog 42 [.v (vl eLabel aList), .v (vl (eI .i64) aPlacement)] ⟨[.v (vb r)], [], false⟩ := by
  refine scall_in Try.func42 rfl [(.tmp 4)] rfl (fun r => ⟨[.v (vb r)], [], false⟩) (r := r) ?_
  unfold impl_isClear at h
  refine swp_seq ?_
  refine swp_reg ?_
  refine SRun.ck tbok 1 ⟨17, [(0, vl eLabel aList), (1, vl (eI .i64) aPlacement)], []⟩ ?_
  refine SRun.nil ?_
  refine nx_n ?_
  refine swp_seq ?_
  refine swp_seq ?_
  refine swp_reg ?_
  refine SRun.ck tbok 3 ⟨17, [(0, vl eLabel aList), (1, vl (eI .i64) aPlacement), (7, vi (aList.length : Int)), (8, vi 0)], []⟩ ?_
  refine SRun.nil ?_
  refine nx_n ?_
  refine swp_seqE (r := r) h (fun j1 => ⟨17, [], []⟩) (fun v2 h => ?_) (fun j1 h => ?_)
  refine swp_blk (a := v2) ?_
  refine swp_lpL (r := v2) (s := (0, ())) _ (fun s3 => ⟨17, [(0, vl eLabel aList), (1, vl (eI .i64) aPlacement), (7, vi (aList.length : Int)), (8, vi s3.1)], []⟩) _ (Le.sub0) h (fun s3 v4 h => ?_)
  refine swp_seq ?_
  refine swp_reg ?_
  refine SRun.ck tbok 1 ⟨17, [(0, vl eLabel aList), (1, vl (eI .i64) aPlacement), (7, vi (aList.length : Int)), (8, vi s3.1), (9, vb (decide (s3.1 < (aList.length : Int))))], []⟩ ?_
  refine SRun.nil ?_
  refine nx_n ?_
  refine swp_seq ?_
  refine swp_cond (b := (decide (s3.1 < (aList.length : Int)))) (by kernel_rfl) (fun hb => ?_) (fun hb => ?_)
  replace h := cond_t hb h
  refine swp_skip ?_
  refine nx_n ?_
  refine swp_seq ?_
  refine swp_seqL (r := v4) h (fun j5 => ⟨17, [(0, vl eLabel aList), (1, vl (eI .i64) aPlacement), (7, vi (aList.length : Int)), (8, vi s3.1)], []⟩) (fun v6 h => ?_) (fun j5 h => ?_)
  refine swp_blk (a := v6) ?_
  refine swp_seq ?_
  refine swp_reg ?_
  refine SRun.ck tbok 2 ⟨17, [(0, vl eLabel aList), (1, vl (eI .i64) aPlacement), (5, vi s3.1), (7, vi (aList.length : Int)), (8, vi s3.1)], []⟩ ?_
  refine SRun.nil ?_
  refine nx_n ?_
  refine swp_seq ?_
  refine swp_reg ?_
  refine SRun.ck tbok 3 ⟨17, [(0, vl eLabel aList), (1, vl (eI .i64) aPlacement), (7, vi (aList.length : Int)), (8, vi s3.1), (11, vl eLabel aList), (12, vl (eI .i64) aPlacement), (13, vi s3.1)], []⟩ ?_
  obtain ⟨x7, hx7, h⟩ := bind_some h
  refine SRun.ls (x_lstep_call (f := 36) (caps := []) (xs := [vl eLabel aList, vl (eI .i64) aPlacement, vi s3.1]) (ys := [vl eLabel aList, vl (eI .i64) aPlacement, vi s3.1]) (res := ⟨[.v (vb x7)], [], false⟩) (x := vb x7) (y := none) rfl ents36 (impl_isClearAt_run aList aPlacement s3.1 _ hx7) rfl (by intro hc; cases hc)) ?_
  refine SRun.ck tbok 1 ⟨17, [(0, vl eLabel aList), (1, vl (eI .i64) aPlacement), (7, vi (aList.length : Int)), (8, vi s3.1), (15, vb (!x7))], []⟩ ?_
  refine SRun.nil ?_
  refine nx_n ?_
  refine swp_cond (b := (!x7)) (by kernel_rfl) (fun hb => ?_) (fun hb => ?_)
  replace h := cond_t hb h
  refine swp_seq ?_
  refine swp_reg ?_
  refine SRun.ck tbok 1 ⟨17, [(4, vb false)], []⟩ ?_
  refine SRun.nil ?_
  refine nx_n ?_
  refine swp_ret ?_
  replace h := Option.some.inj h
  subst h
  exact q_br (q_rr (q_rr (q_br (q_rr (q_fr (fin1 (by kernel_rfl) (finV rfl SV.flat_of (holds_t (by kernel_rfl)))))))))
  replace h := cond_f hb h
  refine swp_skip ?_
  replace h := Option.some.inj h
  subst h
  exact q_bn (q_l (Le.sub0))
  refine swp_reg ?_
  refine SRun.ck tbok 2 ⟨17, [(0, vl eLabel aList), (1, vl (eI .i64) aPlacement), (7, vi (aList.length : Int)), (8, vi (w64 (s3.1 + 1)))], []⟩ ?_
  refine SRun.nil ?_
  replace h := Option.some.inj h
  subst h
  exact q_l (Le.sub0)
  replace h := cond_f hb h
  refine swp_exit ?_
  replace h := Option.some.inj h
  subst h
  exact nx_e (q_re (q_bh (q_l (Le.sub0))))
  refine swp_seq ?_
  refine swp_reg ?_
  refine SRun.ck tbok 1 ⟨17, [(4, vb true)], []⟩ ?_
  refine SRun.nil ?_
  refine nx_n ?_
  refine swp_ret ?_
  replace h := Option.some.inj h
  subst h
  exact q_fr (fin1 (by kernel_rfl) (finV rfl SV.flat_of (holds_t (by kernel_rfl))))
theorem ents42 : Ents Try.prog 42 := ents_of Try.func42 (by kernel_rfl) rfl
end Go.Proofs.Ytlhllbiikideeaa.Sh
