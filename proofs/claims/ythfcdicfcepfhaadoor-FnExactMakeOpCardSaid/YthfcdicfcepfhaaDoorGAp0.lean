/- Typed functions and the calls that do what they say. -/
import Derived.Test.YthfcdicfcepfhaaDoorSE
import Derived.Test.YthfcdicfcepfhaaDoorKA
import Derived.Test.YthfcdicfcepfhaaDoorKS
import Derived.Test.YthfcdicfcepfhaaDoorH1
namespace Go.Proofs.YthfcdicfcepfhaaDoor.Sh
open Go.RowKit
structure Op where
  Office : Int
  Number : Int
  Key : ByteArray
  Text : ByteArray
  Seen : (List Int)
def eOp (x : Op) : List Tr := [.int .i64 x.Office, .int .i64 x.Number, .str x.Key, .str x.Text, .sl x.Seen.length (x.Seen.map (eI .i64))]
def ti2 : TI := ⟨1, 8, .int .i64, [.int .i64 0]⟩
def ti3 : TI := ⟨1, 8, .int .i64, [.int .i64 0]⟩
def ti4 : TI := ⟨1, 1, .bool, [.bool false]⟩
def ti5 : TI := ⟨1, 1, .int .u8, [.int .u8 0]⟩
def ti9 : TI := ⟨1, 16, .str, [.str (ByteArray.mk #[])]⟩
def ti22 : TI := ⟨1, 24, .slice 60, [.sl ([] : List Op).length (([] : List Op).map eOp)]⟩
def ti25 : TI := ⟨1, 24, .slice 61, [.sl ([] : List Op).length (([] : List Op).map eOp)]⟩
def ti32 : TI := ⟨1, 24, .slice 2, [.sl ([] : List Int).length (([] : List Int).map (eI .i64))]⟩
def ti60 : TI := ⟨5, 72, .struct [(0, 2), (1, 2), (2, 9), (3, 9), (4, 32)], [.int .i64 0, .int .i64 0, .str (ByteArray.mk #[]), .str (ByteArray.mk #[]), .sl ([] : List Int).length (([] : List Int).map (eI .i64))]⟩
def ti61 : TI := ⟨5, 72, .struct [(0, 2), (1, 2), (2, 9), (3, 9), (4, 32)], [.int .i64 0, .int .i64 0, .str (ByteArray.mk #[]), .str (ByteArray.mk #[]), .sl ([] : List Int).length (([] : List Int).map (eI .i64))]⟩
def ti86 : TI := ⟨1, 24, .slice 9, [.sl ([] : List ByteArray).length (([] : List ByteArray).map eS)]⟩
def tbl : Tb := [(2, ti2), (3, ti3), (4, ti4), (5, ti5), (9, ti9), (22, ti22), (25, ti25), (32, ti32), (60, ti60), (61, ti61), (86, ti86)]
theorem tbok : TbOk Tryd.prog tbl := TbOk.cons ⟨by kernel_rfl, show Tryd.prog.underlying 2 = some (.int .i64) from by kernel_rfl⟩ (TbOk.cons ⟨by kernel_rfl, show Tryd.prog.underlying 3 = some (.int .i64) from by kernel_rfl⟩ (TbOk.cons ⟨by kernel_rfl, show Tryd.prog.underlying 4 = some (.bool) from by kernel_rfl⟩ (TbOk.cons ⟨by kernel_rfl, show Tryd.prog.underlying 5 = some (.int .u8) from by kernel_rfl⟩ (TbOk.cons ⟨by kernel_rfl, show Tryd.prog.underlying 9 = some (.string) from by kernel_rfl⟩ (TbOk.cons ⟨by kernel_rfl, show Tryd.prog.underlying 22 = some (.slice 60) from by kernel_rfl⟩ (TbOk.cons ⟨by kernel_rfl, show Tryd.prog.underlying 25 = some (.slice 61) from by kernel_rfl⟩ (TbOk.cons ⟨by kernel_rfl, show Tryd.prog.underlying 32 = some (.slice 2) from by kernel_rfl⟩ (TbOk.cons ⟨by kernel_rfl, show structOf Tryd.prog 60 = some [(0, 2), (1, 2), (2, 9), (3, 9), (4, 32)] from by kernel_rfl⟩ (TbOk.cons ⟨by kernel_rfl, show structOf Tryd.prog 61 = some [(0, 2), (1, 2), (2, 9), (3, 9), (4, 32)] from by kernel_rfl⟩ (TbOk.cons ⟨by kernel_rfl, show Tryd.prog.underlying 86 = some (.slice 9) from by kernel_rfl⟩ (TbOk.nil _)))))))))))
theorem mixed : Tryd.prog.follows .mixedOrders = true := by kernel_rfl
noncomputable def laws_szInt64S (aA : (List Int)) (aLeft : Int) : Option (Int) :=
  (bif (decide ((w64 (aLeft - (aA.length : Int))) < 0)) then some (-1) else some (w64 (aLeft - (aA.length : Int))))
set_option maxRecDepth 100000 in
set_option maxHeartbeats 4000000 in
theorem laws_szInt64S_run (aA : (List Int)) (aLeft : Int) (r : Int) (h : laws_szInt64S aA aLeft = some r) : SCall Tryd.prog 78 [.v (vl (eI .i64) aA), .v (vi aLeft)] ⟨[.v (vi r)], [], false⟩ := by
  refine scall_in Tryd.func78 rfl [(.tmp 4)] rfl (fun r => ⟨[.v (vi r)], [], false⟩) (r := r) ?_
  unfold laws_szInt64S at h
  refine swp_seq ?_
  refine swp_reg ?_
  refine SRun.ck tbok 1 ⟨12, [(0, vl (eI .i64) aA), (1, vi aLeft)], []⟩ ?_
  refine SRun.nil ?_
  refine nx_n ?_
  refine swp_seq ?_
  refine swp_reg ?_
  refine SRun.ck tbok 5 ⟨12, [(1, vi (w64 (aLeft - (aA.length : Int))))], []⟩ ?_
  refine SRun.nil ?_
  refine nx_n ?_
  refine swp_seq ?_
  refine swp_seq ?_
  refine swp_reg ?_
  refine SRun.ck tbok 2 ⟨12, [(1, vi (w64 (aLeft - (aA.length : Int)))), (10, vb (decide ((w64 (aLeft - (aA.length : Int))) < 0)))], []⟩ ?_
  refine SRun.nil ?_
  refine nx_n ?_
  refine swp_cond (b := (decide ((w64 (aLeft - (aA.length : Int))) < 0))) (by kernel_rfl) (fun hb => ?_) (fun hb => ?_)
  replace h := cond_t hb h
  refine swp_seq ?_
  refine swp_reg ?_
  refine SRun.ck tbok 1 ⟨12, [(4, vi (-1))], []⟩ ?_
  refine SRun.nil ?_
  refine nx_n ?_
  refine swp_ret ?_
  replace h := Option.some.inj h
  subst h
  exact nx_r (q_fr (fin1 (by kernel_rfl) (finV rfl SV.flat_of (holds_t (by kernel_rfl)))))
  replace h := cond_f hb h
  refine swp_skip ?_
  refine nx_n ?_
  refine swp_seq ?_
  refine swp_reg ?_
  refine SRun.ck tbok 2 ⟨12, [(4, vi (w64 (aLeft - (aA.length : Int))))], []⟩ ?_
  refine SRun.nil ?_
  refine nx_n ?_
  refine swp_ret ?_
  replace h := Option.some.inj h
  subst h
  exact q_fr (fin1 (by kernel_rfl) (finV rfl SV.flat_of (holds_t (by kernel_rfl))))
theorem ents78 : Ents Tryd.prog 78 := ents_of Tryd.func78 (by kernel_rfl) rfl
noncomputable def laws_szOp (aA : Op) (aLeft : Int) : Option (Int) :=
  (bif (decide ((w64 (aLeft - (aA.Key.size : Int))) < 0)) then some (-1) else (bif (decide ((w64 ((w64 (aLeft - (aA.Key.size : Int))) - (aA.Text.size : Int))) < 0)) then some (-1) else ((laws_szInt64S aA.Seen (w64 ((w64 (aLeft - (aA.Key.size : Int))) - (aA.Text.size : Int)))).bind fun x1 => (bif (decide (x1 < 0)) then some (-1) else some x1))))
set_option maxRecDepth 100000 in
set_option maxHeartbeats 4000000 in
theorem laws_szOp_run (aA : Op) (aLeft : Int) (r : Int) (h : laws_szOp aA aLeft = some r) : SCall Tryd.prog 43 [.v (.agg [vi aA.Office, vi aA.Number, vs aA.Key, vs aA.Text, vl (eI .i64) aA.Seen]), .v (vi aLeft)] ⟨[.v (vi r)], [], false⟩ := by
  refine scall_in Tryd.func43 rfl [(.tmp 4)] rfl (fun r => ⟨[.v (vi r)], [], false⟩) (r := r) ?_
  unfold laws_szOp at h
  refine swp_seq ?_
  refine swp_reg ?_
  refine SRun.ck tbok 2 ⟨26, [(1, vi aLeft), (2, .ref 2 0)], [(2, .box [vi aA.Office, vi aA.Number, vs aA.Key, vs aA.Text, vl (eI .i64) aA.Seen])]⟩ ?_
  refine SRun.nil ?_
  refine nx_n ?_
  refine swp_seq ?_
  refine swp_reg ?_
  refine SRun.ck tbok 6 ⟨26, [(1, vi (w64 (aLeft - (aA.Key.size : Int)))), (2, .ref 2 0)], [(2, .box [vi aA.Office, vi aA.Number, vs aA.Key, vs aA.Text, vl (eI .i64) aA.Seen])]⟩ ?_
  refine SRun.nil ?_
  refine nx_n ?_
  refine swp_seq ?_
  refine swp_seq ?_
  refine swp_reg ?_
  refine SRun.ck tbok 2 ⟨26, [(1, vi (w64 (aLeft - (aA.Key.size : Int)))), (2, .ref 2 0), (11, vb (decide ((w64 (aLeft - (aA.Key.size : Int))) < 0)))], [(2, .box [vi aA.Office, vi aA.Number, vs aA.Key, vs aA.Text, vl (eI .i64) aA.Seen])]⟩ ?_
  refine SRun.nil ?_
  refine nx_n ?_
  refine swp_cond (b := (decide ((w64 (aLeft - (aA.Key.size : Int))) < 0))) (by kernel_rfl) (fun hb => ?_) (fun hb => ?_)
  replace h := cond_t hb h
  refine swp_seq ?_
  refine swp_reg ?_
  refine SRun.ck tbok 1 ⟨26, [(4, vi (-1))], []⟩ ?_
  refine SRun.nil ?_
  refine nx_n ?_
  refine swp_ret ?_
  replace h := Option.some.inj h
  subst h
  exact nx_r (q_fr (fin1 (by kernel_rfl) (finV rfl SV.flat_of (holds_t (by kernel_rfl)))))
  replace h := cond_f hb h
  refine swp_skip ?_
  refine nx_n ?_
  refine swp_seq ?_
  refine swp_reg ?_
  refine SRun.ck tbok 6 ⟨26, [(1, vi (w64 ((w64 (aLeft - (aA.Key.size : Int))) - (aA.Text.size : Int)))), (2, .ref 2 0)], [(2, .box [vi aA.Office, vi aA.Number, vs aA.Key, vs aA.Text, vl (eI .i64) aA.Seen])]⟩ ?_
  refine SRun.nil ?_
  refine nx_n ?_
  refine swp_seq ?_
  refine swp_seq ?_
  refine swp_reg ?_
  refine SRun.ck tbok 2 ⟨26, [(1, vi (w64 ((w64 (aLeft - (aA.Key.size : Int))) - (aA.Text.size : Int)))), (2, .ref 2 0), (18, vb (decide ((w64 ((w64 (aLeft - (aA.Key.size : Int))) - (aA.Text.size : Int))) < 0)))], [(2, .box [vi aA.Office, vi aA.Number, vs aA.Key, vs aA.Text, vl (eI .i64) aA.Seen])]⟩ ?_
  refine SRun.nil ?_
  refine nx_n ?_
  refine swp_cond (b := (decide ((w64 ((w64 (aLeft - (aA.Key.size : Int))) - (aA.Text.size : Int))) < 0))) (by kernel_rfl) (fun hb => ?_) (fun hb => ?_)
  replace h := cond_t hb h
  refine swp_seq ?_
  refine swp_reg ?_
  refine SRun.ck tbok 1 ⟨26, [(4, vi (-1))], []⟩ ?_
  refine SRun.nil ?_
  refine nx_n ?_
  refine swp_ret ?_
  replace h := Option.some.inj h
  subst h
  exact nx_r (q_fr (fin1 (by kernel_rfl) (finV rfl SV.flat_of (holds_t (by kernel_rfl)))))
  replace h := cond_f hb h
  refine swp_skip ?_
  refine nx_n ?_
  refine swp_seq ?_
  refine swp_reg ?_
  refine SRun.ck tbok 3 ⟨26, [(20, vl (eI .i64) aA.Seen), (21, vi (w64 ((w64 (aLeft - (aA.Key.size : Int))) - (aA.Text.size : Int))))], []⟩ ?_
  obtain ⟨x1, hx1, h⟩ := bind_some h
  refine SRun.ls (x_lstep_call (f := 78) (caps := []) (xs := [vl (eI .i64) aA.Seen, vi (w64 ((w64 (aLeft - (aA.Key.size : Int))) - (aA.Text.size : Int)))]) (ys := [vl (eI .i64) aA.Seen, vi (w64 ((w64 (aLeft - (aA.Key.size : Int))) - (aA.Text.size : Int)))]) (res := ⟨[.v (vi x1)], [], false⟩) (x := vi x1) (y := none) rfl ents78 (laws_szInt64S_run aA.Seen (w64 ((w64 (aLeft - (aA.Key.size : Int))) - (aA.Text.size : Int))) _ hx1) rfl (by intro hc; cases hc)) ?_
  refine SRun.ck tbok 1 ⟨26, [(1, vi x1)], []⟩ ?_
  refine SRun.nil ?_
  refine nx_n ?_
  refine swp_seq ?_
  refine swp_seq ?_
  refine swp_reg ?_
  refine SRun.ck tbok 2 ⟨26, [(1, vi x1), (24, vb (decide (x1 < 0)))], []⟩ ?_
  refine SRun.nil ?_
  refine nx_n ?_
  refine swp_cond (b := (decide (x1 < 0))) (by kernel_rfl) (fun hb => ?_) (fun hb => ?_)
  replace h := cond_t hb h
  refine swp_seq ?_
  refine swp_reg ?_
  refine SRun.ck tbok 1 ⟨26, [(4, vi (-1))], []⟩ ?_
  refine SRun.nil ?_
  refine nx_n ?_
  refine swp_ret ?_
  replace h := Option.some.inj h
  subst h
  exact nx_r (q_fr (fin1 (by kernel_rfl) (finV rfl SV.flat_of (holds_t (by kernel_rfl)))))
  replace h := cond_f hb h
  refine swp_skip ?_
  refine nx_n ?_
  refine swp_seq ?_
  refine swp_reg ?_
  refine SRun.ck tbok 2 ⟨26, [(4, vi x1)], []⟩ ?_
  refine SRun.nil ?_
  refine nx_n ?_
  refine swp_ret ?_
  replace h := Option.some.inj h
  subst h
  exact q_fr (fin1 (by kernel_rfl) (finV rfl SV.flat_of (holds_t (by kernel_rfl))))
theorem ents43 : Ents Tryd.prog 43 := ents_of Tryd.func43 (by kernel_rfl) rfl
noncomputable def laws_szOpS (aA : (List Op)) (aLeft : Int) : Option (Int) :=
  (bif (decide ((w64 (aLeft - (aA.length : Int))) < 0)) then some (-1) else (((forN (aA.length : Int) (fun (i3 : Int) (s3 : Int) => ((at' aA i3).bind fun x7 => ((laws_szOp x7 s3).bind fun x8 => (bif (decide (x8 < 0)) then some (.inr (.inr (-1))) else some (.inl x8))))) (fun (s3 : Int) => .inl s3) 0 (w64 (aLeft - (aA.length : Int))))).bind (Sum.elim (fun (j1 : Int) => some j1) some)))
set_option maxRecDepth 100000 in
set_option maxHeartbeats 4000000 in
theorem laws_szOpS_run (aA : (List Op)) (aLeft : Int) (r : Int) (h : laws_szOpS aA aLeft = some r) : SCall Tryd.prog 12 [.v (vl eOp aA), .v (vi aLeft)] ⟨[.v (vi r)], [], false⟩ := by
  refine scall_in Tryd.func12 rfl [(.tmp 4)] rfl (fun r => ⟨[.v (vi r)], [], false⟩) (r := r) ?_
  unfold laws_szOpS at h
  refine swp_seq ?_
  refine swp_reg ?_
  refine SRun.ck tbok 1 ⟨27, [(0, vl eOp aA), (1, vi aLeft)], []⟩ ?_
  refine SRun.nil ?_
  refine nx_n ?_
  refine swp_seq ?_
  refine swp_reg ?_
  refine SRun.ck tbok 5 ⟨27, [(0, vl eOp aA), (1, vi (w64 (aLeft - (aA.length : Int))))], []⟩ ?_
  refine SRun.nil ?_
  refine nx_n ?_
  refine swp_seq ?_
  refine swp_seq ?_
  refine swp_reg ?_
  refine SRun.ck tbok 2 ⟨27, [(0, vl eOp aA), (1, vi (w64 (aLeft - (aA.length : Int)))), (11, vb (decide ((w64 (aLeft - (aA.length : Int))) < 0)))], []⟩ ?_
  refine SRun.nil ?_
  refine nx_n ?_
  refine swp_cond (b := (decide ((w64 (aLeft - (aA.length : Int))) < 0))) (by kernel_rfl) (fun hb => ?_) (fun hb => ?_)
  replace h := cond_t hb h
  refine swp_seq ?_
  refine swp_reg ?_
  refine SRun.ck tbok 1 ⟨27, [(4, vi (-1))], []⟩ ?_
  refine SRun.nil ?_
  refine nx_n ?_
  refine swp_ret ?_
  replace h := Option.some.inj h
  subst h
  exact nx_r (q_fr (fin1 (by kernel_rfl) (finV rfl SV.flat_of (holds_t (by kernel_rfl)))))
  replace h := cond_f hb h
  refine swp_skip ?_
  refine nx_n ?_
  refine swp_seq ?_
  refine swp_seq ?_
  refine swp_reg ?_
  refine SRun.ck tbok 1 ⟨27, [(0, vl eOp aA), (1, vi (w64 (aLeft - (aA.length : Int)))), (5, vi 0)], []⟩ ?_
  refine SRun.nil ?_
  refine nx_n ?_
  refine swp_seqE (r := r) h (fun j1 => ⟨27, [(1, vi j1)], []⟩) (fun v2 h => ?_) (fun j1 h => ?_)
  refine swp_blk (a := v2) ?_
  refine swp_lpL (r := v2) (s := (0, (w64 (aLeft - (aA.length : Int))))) _ (fun s3 => ⟨27, [(0, vl eOp aA), (1, vi s3.2), (5, vi s3.1)], []⟩) _ (Le.sub0) h (fun s3 v4 h => ?_)
  refine swp_seq ?_
  refine swp_seq ?_
  refine swp_reg ?_
  refine SRun.ck tbok 4 ⟨27, [(0, vl eOp aA), (1, vi s3.2), (5, vi s3.1), (15, vb (decide (s3.1 < (aA.length : Int))))], []⟩ ?_
  refine SRun.nil ?_
  refine nx_n ?_
  refine swp_cond (b := (decide (s3.1 < (aA.length : Int)))) (by kernel_rfl) (fun hb => ?_) (fun hb => ?_)
  replace h := cond_t hb h
  refine swp_skip ?_
  refine nx_n ?_
  refine swp_seq ?_
  refine swp_seqL (r := v4) h (fun j5 => ⟨27, [(0, vl eOp aA), (1, vi j5), (5, vi s3.1)], []⟩) (fun v6 h => ?_) (fun j5 h => ?_)
  refine swp_blk (a := v6) ?_
  refine swp_seq ?_
  refine swp_reg ?_
  refine SRun.ck tbok 2 ⟨27, [(0, vl eOp aA), (1, vi s3.2), (5, vi s3.1), (18, vl eOp aA), (19, vi s3.1)], []⟩ ?_
  obtain ⟨x7, hx7, h⟩ := bind_some h
  refine SRun.ls (x_index (L := aA) (f := eOp) (ti := ti22) (tj := ti60) (e := 60) (k := .i64) tbok rfl hx7) ?_
  refine SRun.ck tbok 2 ⟨27, [(0, vl eOp aA), (5, vi s3.1), (21, .agg [vi x7.Office, vi x7.Number, vs x7.Key, vs x7.Text, vl (eI .i64) x7.Seen]), (22, vi s3.2)], []⟩ ?_
  obtain ⟨x8, hx8, h⟩ := bind_some h
  refine SRun.ls (x_lstep_call (f := 43) (caps := []) (xs := [.agg [vi x7.Office, vi x7.Number, vs x7.Key, vs x7.Text, vl (eI .i64) x7.Seen], vi s3.2]) (ys := [.agg [vi x7.Office, vi x7.Number, vs x7.Key, vs x7.Text, vl (eI .i64) x7.Seen], vi s3.2]) (res := ⟨[.v (vi x8)], [], false⟩) (x := vi x8) (y := none) rfl ents43 (laws_szOp_run x7 s3.2 _ hx8) rfl (by intro hc; cases hc)) ?_
  refine SRun.ck tbok 1 ⟨27, [(0, vl eOp aA), (1, vi x8), (5, vi s3.1)], []⟩ ?_
  refine SRun.nil ?_
  refine nx_n ?_
  refine swp_seq ?_
  refine swp_reg ?_
  refine SRun.ck tbok 2 ⟨27, [(0, vl eOp aA), (1, vi x8), (5, vi s3.1), (25, vb (decide (x8 < 0)))], []⟩ ?_
  refine SRun.nil ?_
  refine nx_n ?_
  refine swp_cond (b := (decide (x8 < 0))) (by kernel_rfl) (fun hb => ?_) (fun hb => ?_)
  replace h := cond_t hb h
  refine swp_seq ?_
  refine swp_reg ?_
  refine SRun.ck tbok 1 ⟨27, [(4, vi (-1))], []⟩ ?_
  refine SRun.nil ?_
  refine nx_n ?_
  refine swp_ret ?_
  replace h := Option.some.inj h
  subst h
  exact q_br (q_rr (q_rr (q_br (q_rr (q_fr (fin1 (by kernel_rfl) (finV rfl SV.flat_of (holds_t (by kernel_rfl)))))))))
  replace h := cond_f hb h
  refine swp_skip ?_
  replace h := Option.some.inj h
  subst h
  exact q_bn (q_l (Le.sub0))
  refine swp_reg ?_
  refine SRun.ck tbok 3 ⟨27, [(0, vl eOp aA), (1, vi j5), (5, vi (w64 (s3.1 + 1)))], []⟩ ?_
  refine SRun.nil ?_
  replace h := Option.some.inj h
  subst h
  exact q_l (Le.sub0)
  replace h := cond_f hb h
  refine swp_exit ?_
  replace h := Option.some.inj h
  subst h
  exact nx_e (q_re (q_bh (q_l (Le.sub0))))
  refine swp_seq ?_
  refine swp_reg ?_
  refine SRun.ck tbok 2 ⟨27, [(4, vi j1)], []⟩ ?_
  refine SRun.nil ?_
  refine nx_n ?_
  refine swp_ret ?_
  replace h := Option.some.inj h
  subst h
  exact q_fr (fin1 (by kernel_rfl) (finV rfl SV.flat_of (holds_t (by kernel_rfl))))
theorem ents12 : Ents Tryd.prog 12 := ents_of Tryd.func12 (by kernel_rfl) rfl
noncomputable def laws_toInt64S (aA : (List Int)) : Option ((List Int)) :=
  ((make' 0 (aA.length : Int)).bind fun x1 => (((forS (aA.length : Int) (fun (i4 : Int) (s4 : (List Int)) => ((at' aA i4).bind fun x8 => ((at' s4 i4).bind fun _ => some (List.set s4 (Int.toNat i4) x8)))) (fun (s4 : (List Int)) => s4) 0 x1)).bind fun (j2 : (List Int)) => some j2))
set_option maxRecDepth 100000 in
set_option maxHeartbeats 4000000 in
theorem laws_toInt64S_run (aA : (List Int)) (r : (List Int)) (h : laws_toInt64S aA = some r) : SCall Tryd.prog 26 [.v (vl (eI .i64) aA)] ⟨[.own 2 1 r.length (r.map (eI .i64))], [], false⟩ := by
  refine scall_in Tryd.func26 rfl [(.tmp 2)] rfl (fun r => ⟨[.own 2 1 r.length (r.map (eI .i64))], [], false⟩) (r := r) ?_
  unfold laws_toInt64S at h
  refine swp_seq ?_
  refine swp_reg ?_
  refine SRun.ck tbok 1 ⟨22, [(0, vl (eI .i64) aA)], []⟩ ?_
  refine SRun.nil ?_
  refine nx_n ?_
  refine swp_seq ?_
  refine swp_reg ?_
  refine SRun.ck tbok 2 ⟨22, [(0, vl (eI .i64) aA), (6, vi (aA.length : Int))], []⟩ ?_
  obtain ⟨x1, hx1, h⟩ := bind_some h
  refine SRun.ls (x_make (z := 0) (f := (eI .i64)) (ti := ti32) (tj := ti2) (e := 2) (m := 1) (k := .i64) (k' := .i64) hx1 tbok rfl rfl (zs := [.int .i64 0])) ?_
  refine SRun.ck tbok 1 ⟨22, [(0, vl (eI .i64) aA), (3, .own 7)], [(7, .arr 2 1 x1.length (x1.map (eI .i64)))]⟩ ?_
  refine SRun.nil ?_
  refine nx_n ?_
  refine swp_seq ?_
  refine swp_seq ?_
  refine swp_reg ?_
  refine SRun.ck tbok 1 ⟨22, [(0, vl (eI .i64) aA), (3, .own 7), (4, vi 0)], [(7, .arr 2 1 x1.length (x1.map (eI .i64)))]⟩ ?_
  refine SRun.nil ?_
  refine nx_n ?_
  refine swp_seqJ h (fun j2 => ⟨22, [(3, .own 3)], [(3, .arr 2 1 j2.length (j2.map (eI .i64)))]⟩) (fun v3 h => ?_) (fun j2 h => ?_)
  refine swp_blk (a := v3) ?_
  refine swp_lpL (r := v3) (s := (0, x1)) _ (fun s4 => ⟨22, [(0, vl (eI .i64) aA), (3, .own 3), (4, vi s4.1)], [(3, .arr 2 1 s4.2.length (s4.2.map (eI .i64)))]⟩) _ ((Le.sub' ([(0, vl (eI .i64) aA), (3, .own 7), (4, vi 0)] : List (Nat × SV)) ([(7, .arr 2 1 x1.length (x1.map (eI .i64)))] : List (Nat × SO)) (by kernel_rfl) (by kernel_rfl)).trans ((Le.ren' (d := 7) (e := 3) (by kernel_rfl) (by kernel_rfl) (by kernel_rfl)).trans (Le.sub0))) h (fun s4 v5 h => ?_)
  refine swp_seq ?_
  refine swp_seq ?_
  refine swp_reg ?_
  refine SRun.ck tbok 4 ⟨22, [(0, vl (eI .i64) aA), (3, .own 3), (4, vi s4.1), (11, vb (decide (s4.1 < (aA.length : Int))))], [(3, .arr 2 1 s4.2.length (s4.2.map (eI .i64)))]⟩ ?_
  refine SRun.nil ?_
  refine nx_n ?_
  refine swp_cond (b := (decide (s4.1 < (aA.length : Int)))) (by kernel_rfl) (fun hb => ?_) (fun hb => ?_)
  replace h := cond_t hb h
  refine swp_skip ?_
  refine nx_n ?_
  refine swp_seq ?_
  refine swp_seqJ h (fun j6 => ⟨22, [(0, vl (eI .i64) aA), (3, .own 3), (4, vi s4.1)], [(3, .arr 2 1 j6.length (j6.map (eI .i64)))]⟩) (fun v7 h => ?_) (fun j6 h => ?_)
  refine swp_blk (a := v7) ?_
  refine swp_reg ?_
  refine SRun.ck tbok 4 ⟨22, [(0, vl (eI .i64) aA), (3, .own 3), (4, vi s4.1), (14, .own 3), (15, vi s4.1), (16, vl (eI .i64) aA), (17, vi s4.1)], [(3, .arr 2 1 s4.2.length (s4.2.map (eI .i64)))]⟩ ?_
  obtain ⟨x8, hx8, h⟩ := bind_some h
  refine SRun.ls (x_index (L := aA) (f := (eI .i64)) (ti := ti32) (tj := ti2) (e := 2) (k := .i64) tbok rfl hx8) ?_
  refine SRun.ck tbok 1 ⟨22, [(0, vl (eI .i64) aA), (3, .own 3), (4, vi s4.1), (14, .own 3), (15, vi s4.1), (19, vi x8)], [(3, .arr 2 1 s4.2.length (s4.2.map (eI .i64)))]⟩ ?_
  obtain ⟨x9, hx9, h⟩ := bind_some h
  refine SRun.ls (x_index_own (d := 3) (L := s4.2) (f := (eI .i64)) (ti := ti32) (tj := ti2) (e := 2) (e' := 2) (m := 1) (k := .i64) tbok rfl hx9) ?_
  refine SRun.estep (x_store_own (d := 3) (m := 1) (j := 0) (L := s4.2) (f := (eI .i64)) (x := x8) (z := x9) (ti := ti2) (e := 2) (ts := [.int .i64 x8]) (vs := [vi x8]) (v := vi x8) tbok rfl rfl hx9) ?_
  refine SRun.nil ?_
  replace h := Option.some.inj h
  subst h
  exact q_bn (q_j (Le.sub0))
  refine swp_reg ?_
  refine SRun.ck tbok 3 ⟨22, [(0, vl (eI .i64) aA), (3, .own 3), (4, vi (w64 (s4.1 + 1)))], [(3, .arr 2 1 j6.length (j6.map (eI .i64)))]⟩ ?_
  refine SRun.nil ?_
  replace h := Option.some.inj h
  subst h
  exact q_l (Le.sub0)
  replace h := cond_f hb h
  refine swp_exit ?_
  replace h := Option.some.inj h
  subst h
  exact nx_e (q_re (q_bh (q_j (Le.sub0))))
  refine swp_seq ?_
  refine swp_reg ?_
  refine SRun.ck tbok 2 ⟨22, [(2, .own 3)], [(3, .arr 2 1 j2.length (j2.map (eI .i64)))]⟩ ?_
  refine SRun.nil ?_
  refine nx_n ?_
  refine swp_ret ?_
  replace h := Option.some.inj h
  subst h
  exact q_fr (fin1 (by kernel_rfl) (finO (d := 3) (holds_t (by kernel_rfl)) (by kernel_rfl) (flat_map (eI_flat .i64) _) (by kernel_rfl)))
theorem ents26 : Ents Tryd.prog 26 := ents_of Tryd.func26 (by kernel_rfl) rfl
noncomputable def laws_toOp (aA : Op) : Option (Op) :=
  ((laws_toInt64S aA.Seen).bind fun x1 => some (Op.mk aA.Office aA.Number aA.Key aA.Text x1))
set_option maxRecDepth 100000 in
set_option maxHeartbeats 4000000 in
theorem laws_toOp_run (aA : Op) (r : Op) (h : laws_toOp aA = some r) : SCall Tryd.prog 48 [.v (.agg [vi aA.Office, vi aA.Number, vs aA.Key, vs aA.Text, vl (eI .i64) aA.Seen])] ⟨[.part [vi r.Office, vi r.Number, vs r.Key, vs r.Text] [] (.arr 2 1 r.Seen.length (r.Seen.map (eI .i64)))], [], false⟩ := by
  refine scall_in Tryd.func48 rfl [(.cell 2 61)] rfl (fun r => ⟨[.part [vi r.Office, vi r.Number, vs r.Key, vs r.Text] [] (.arr 2 1 r.Seen.length (r.Seen.map (eI .i64)))], [], false⟩) (r := r) ?_
  unfold laws_toOp at h
  refine swp_seq ?_
  refine swp_reg ?_
  refine SRun.ck tbok 2 ⟨21, [(1, .ref 1 0), (2, .ref 2 0)], [(1, .box [vi aA.Office, vi aA.Number, vs aA.Key, vs aA.Text, vl (eI .i64) aA.Seen]), (2, .box [vi 0, vi 0, vs (ByteArray.mk #[]), vs (ByteArray.mk #[]), vl (eI .i64) ([] : List Int)])]⟩ ?_
  refine SRun.nil ?_
  refine nx_n ?_
  refine swp_seq ?_
  refine swp_reg ?_
  refine SRun.ck tbok 1 ⟨21, [(1, .ref 1 0), (2, .ref 2 0), (3, .ref 3 0)], [(1, .box [vi aA.Office, vi aA.Number, vs aA.Key, vs aA.Text, vl (eI .i64) aA.Seen]), (2, .box [vi 0, vi 0, vs (ByteArray.mk #[]), vs (ByteArray.mk #[]), vl (eI .i64) ([] : List Int)]), (3, .box [vi 0, vi 0, vs (ByteArray.mk #[]), vs (ByteArray.mk #[]), vl (eI .i64) ([] : List Int)])]⟩ ?_
  refine SRun.nil ?_
  refine nx_n ?_
  refine swp_seq ?_
  refine swp_reg ?_
  refine SRun.ck tbok 3 ⟨21, [(1, .ref 1 0), (2, .ref 2 0), (3, .ref 3 0), (5, vi aA.Office), (6, .ref 3 0)], [(1, .box [vi aA.Office, vi aA.Number, vs aA.Key, vs aA.Text, vl (eI .i64) aA.Seen]), (2, .box [vi 0, vi 0, vs (ByteArray.mk #[]), vs (ByteArray.mk #[]), vl (eI .i64) ([] : List Int)]), (3, .box [vi 0, vi 0, vs (ByteArray.mk #[]), vs (ByteArray.mk #[]), vl (eI .i64) ([] : List Int)])]⟩ ?_
  refine SRun.estep (x_estep_store (d := 3) (k := 0) (ti := ti2) (cs := [vi 0, vi 0, vs (ByteArray.mk #[]), vs (ByteArray.mk #[]), vl (eI .i64) ([] : List Int)]) (vs := [vi aA.Office]) (v := vi aA.Office) tbok rfl rfl) ?_
  refine SRun.nil ?_
  refine nx_n ?_
  refine swp_seq ?_
  refine swp_reg ?_
  refine SRun.ck tbok 3 ⟨21, [(1, .ref 1 0), (2, .ref 2 0), (3, .ref 3 0), (8, vi aA.Number), (9, .ref 3 1)], [(1, .box [vi aA.Office, vi aA.Number, vs aA.Key, vs aA.Text, vl (eI .i64) aA.Seen]), (2, .box [vi 0, vi 0, vs (ByteArray.mk #[]), vs (ByteArray.mk #[]), vl (eI .i64) ([] : List Int)]), (3, .box [vi aA.Office, vi 0, vs (ByteArray.mk #[]), vs (ByteArray.mk #[]), vl (eI .i64) ([] : List Int)])]⟩ ?_
  refine SRun.estep (x_estep_store (d := 3) (k := 1) (ti := ti2) (cs := [vi aA.Office, vi 0, vs (ByteArray.mk #[]), vs (ByteArray.mk #[]), vl (eI .i64) ([] : List Int)]) (vs := [vi aA.Number]) (v := vi aA.Number) tbok rfl rfl) ?_
  refine SRun.nil ?_
  refine nx_n ?_
  refine swp_seq ?_
  refine swp_reg ?_
  refine SRun.ck tbok 3 ⟨21, [(1, .ref 1 0), (2, .ref 2 0), (3, .ref 3 0), (11, vs aA.Key), (12, .ref 3 2)], [(1, .box [vi aA.Office, vi aA.Number, vs aA.Key, vs aA.Text, vl (eI .i64) aA.Seen]), (2, .box [vi 0, vi 0, vs (ByteArray.mk #[]), vs (ByteArray.mk #[]), vl (eI .i64) ([] : List Int)]), (3, .box [vi aA.Office, vi aA.Number, vs (ByteArray.mk #[]), vs (ByteArray.mk #[]), vl (eI .i64) ([] : List Int)])]⟩ ?_
  refine SRun.estep (x_estep_store (d := 3) (k := 2) (ti := ti9) (cs := [vi aA.Office, vi aA.Number, vs (ByteArray.mk #[]), vs (ByteArray.mk #[]), vl (eI .i64) ([] : List Int)]) (vs := [vs aA.Key]) (v := vs aA.Key) tbok rfl rfl) ?_
  refine SRun.nil ?_
  refine nx_n ?_
  refine swp_seq ?_
  refine swp_reg ?_
  refine SRun.ck tbok 3 ⟨21, [(1, .ref 1 0), (2, .ref 2 0), (3, .ref 3 0), (14, vs aA.Text), (15, .ref 3 3)], [(1, .box [vi aA.Office, vi aA.Number, vs aA.Key, vs aA.Text, vl (eI .i64) aA.Seen]), (2, .box [vi 0, vi 0, vs (ByteArray.mk #[]), vs (ByteArray.mk #[]), vl (eI .i64) ([] : List Int)]), (3, .box [vi aA.Office, vi aA.Number, vs aA.Key, vs (ByteArray.mk #[]), vl (eI .i64) ([] : List Int)])]⟩ ?_
  refine SRun.estep (x_estep_store (d := 3) (k := 3) (ti := ti9) (cs := [vi aA.Office, vi aA.Number, vs aA.Key, vs (ByteArray.mk #[]), vl (eI .i64) ([] : List Int)]) (vs := [vs aA.Text]) (v := vs aA.Text) tbok rfl rfl) ?_
  refine SRun.nil ?_
  refine nx_n ?_
  refine swp_seq ?_
  refine swp_reg ?_
  refine SRun.ck tbok 2 ⟨21, [(2, .ref 2 0), (3, .ref 3 0), (17, vl (eI .i64) aA.Seen)], [(2, .box [vi 0, vi 0, vs (ByteArray.mk #[]), vs (ByteArray.mk #[]), vl (eI .i64) ([] : List Int)]), (3, .box [vi aA.Office, vi aA.Number, vs aA.Key, vs aA.Text, vl (eI .i64) ([] : List Int)])]⟩ ?_
  obtain ⟨x1, hx1, h⟩ := bind_some h
  refine SRun.ls (x_lstep_call (f := 26) (caps := []) (xs := [vl (eI .i64) aA.Seen]) (ys := [vl (eI .i64) aA.Seen]) (res := ⟨[.own 2 1 x1.length (x1.map (eI .i64))], [], false⟩) (x := .own 18) (y := some (.arr 2 1 x1.length (x1.map (eI .i64)))) rfl ents26 (laws_toInt64S_run aA.Seen _ hx1) rfl (by intro hc; cases hc)) ?_
  refine SRun.ck tbok 1 ⟨21, [(2, .ref 2 0), (3, .ref 3 0), (18, .own 18), (19, .ref 3 4)], [(2, .box [vi 0, vi 0, vs (ByteArray.mk #[]), vs (ByteArray.mk #[]), vl (eI .i64) ([] : List Int)]), (3, .box [vi aA.Office, vi aA.Number, vs aA.Key, vs aA.Text, vl (eI .i64) ([] : List Int)]), (18, .arr 2 1 x1.length (x1.map (eI .i64)))]⟩ ?_
  refine SRun.estep (x_estep_store (d := 3) (k := 4) (ti := ti32) (cs := [vi aA.Office, vi aA.Number, vs aA.Key, vs aA.Text, vl (eI .i64) ([] : List Int)]) (vs := [.own 18]) (v := .own 18) tbok rfl rfl) ?_
  refine SRun.nil ?_
  refine nx_n ?_
  refine swp_seq ?_
  refine swp_reg ?_
  refine SRun.ck tbok 1 ⟨21, [(2, .ref 2 0), (20, .agg [vi aA.Office, vi aA.Number, vs aA.Key, vs aA.Text, .own 18])], [(2, .box [vi 0, vi 0, vs (ByteArray.mk #[]), vs (ByteArray.mk #[]), vl (eI .i64) ([] : List Int)]), (18, .arr 2 1 x1.length (x1.map (eI .i64)))]⟩ ?_
  refine SRun.estep (x_estep_store (d := 2) (k := 0) (ti := ti61) (cs := [vi 0, vi 0, vs (ByteArray.mk #[]), vs (ByteArray.mk #[]), vl (eI .i64) ([] : List Int)]) (vs := [vi aA.Office, vi aA.Number, vs aA.Key, vs aA.Text, .own 18]) (v := .agg [vi aA.Office, vi aA.Number, vs aA.Key, vs aA.Text, .own 18]) tbok rfl rfl) ?_
  refine SRun.nil ?_
  refine nx_n ?_
  refine swp_ret ?_
  replace h := Option.some.inj h
  subst h
  exact q_fr (fin1 (by kernel_rfl) (finP (d := 18) [vi aA.Office, vi aA.Number, vs aA.Key, vs aA.Text] [] (holds_c tbok (d := 2) (cs := [vi aA.Office, vi aA.Number, vs aA.Key, vs aA.Text, .own 18]) (ti := ti61) (by kernel_rfl) (by kernel_rfl) (by kernel_rfl) (by kernel_rfl)) (by kernel_rfl) (flat_map (eI_flat .i64) _) rfl rfl SV.flatL_of SV.flatL_of (by kernel_rfl)))
theorem ents48 : Ents Tryd.prog 48 := ents_of Tryd.func48 (by kernel_rfl) rfl
noncomputable def laws_toOpS (aA : (List Op)) : Option ((List Op)) :=
  ((make' (Op.mk 0 0 (ByteArray.mk #[]) (ByteArray.mk #[]) ([] : List Int)) (aA.length : Int)).bind fun x1 => (((forS (aA.length : Int) (fun (i4 : Int) (s4 : (List Op)) => ((at' aA i4).bind fun x8 => ((laws_toOp x8).bind fun x9 => ((at' s4 i4).bind fun _ => some (List.set s4 (Int.toNat i4) x9))))) (fun (s4 : (List Op)) => s4) 0 x1)).bind fun (j2 : (List Op)) => some j2))
set_option maxRecDepth 100000 in
set_option maxHeartbeats 4000000 in
theorem laws_toOpS_run (aA : (List Op)) (r : (List Op)) (h : laws_toOpS aA = some r) : SCall Tryd.prog 14 [.v (vl eOp aA)] ⟨[.deep 61 5 r.length [.flat, .flat, .flat, .flat, (.sl 2 1 [.flat])] (r.map eOp)], [], false⟩ := by
  refine scall_in Tryd.func14 rfl [(.tmp 2)] rfl (fun r => ⟨[.deep 61 5 r.length [.flat, .flat, .flat, .flat, (.sl 2 1 [.flat])] (r.map eOp)], [], false⟩) (r := r) ?_
  unfold laws_toOpS at h
  refine swp_seq ?_
  refine swp_reg ?_
  refine SRun.chunk tbok 1 (σ' := ⟨23, [(2, .own 2), (0, vl eOp aA)], [(2, .arr 61 5 ([] : List Op).length (([] : List Op).map eOp))]⟩) (by kernel_rfl) ?_
  refine SRun.le (Le.deep0 (d := 2) (e := 61) (m := 5) (ss := [.flat, .flat, .flat, .flat, (.sl 2 1 [.flat])]) (by kernel_rfl) (by kernel_rfl)) ?_
  refine SRun.nil ?_
  refine nx_n ?_
  refine swp_seq ?_
  refine swp_reg ?_
  refine SRun.ck tbok 2 ⟨23, [(0, vl eOp aA), (6, vi (aA.length : Int))], []⟩ ?_
  obtain ⟨x1, hx1, h⟩ := bind_some h
  refine SRun.ls (x_make_deep (z := (Op.mk 0 0 (ByteArray.mk #[]) (ByteArray.mk #[]) ([] : List Int))) (f := eOp) (ti := ti25) (tj := ti61) (e := 61) (m := 5) (k := .i64) (k' := .i64) (ss := [.flat, .flat, .flat, .flat, (.sl 2 1 [.flat])]) (zs := [.int .i64 0, .int .i64 0, .string (ByteArray.mk #[]), .string (ByteArray.mk #[]), .slice none 0 0]) hx1 tbok rfl rfl) ?_
  refine SRun.ck tbok 1 ⟨23, [(0, vl eOp aA), (3, .own 7)], [(7, .deep 61 5 x1.length [.flat, .flat, .flat, .flat, (.sl 2 1 [.flat])] (x1.map eOp))]⟩ ?_
  refine SRun.nil ?_
  refine nx_n ?_
  refine swp_seq ?_
  refine swp_seq ?_
  refine swp_reg ?_
  refine SRun.ck tbok 1 ⟨23, [(0, vl eOp aA), (3, .own 7), (4, vi 0)], [(7, .deep 61 5 x1.length [.flat, .flat, .flat, .flat, (.sl 2 1 [.flat])] (x1.map eOp))]⟩ ?_
  refine SRun.nil ?_
  refine nx_n ?_
  refine swp_seqJ h (fun j2 => ⟨23, [(3, .own 3)], [(3, .deep 61 5 j2.length [.flat, .flat, .flat, .flat, (.sl 2 1 [.flat])] (j2.map eOp))]⟩) (fun v3 h => ?_) (fun j2 h => ?_)
  refine swp_blk (a := v3) ?_
  refine swp_lpL (r := v3) (s := (0, x1)) _ (fun s4 => ⟨23, [(0, vl eOp aA), (3, .own 3), (4, vi s4.1)], [(3, .deep 61 5 s4.2.length [.flat, .flat, .flat, .flat, (.sl 2 1 [.flat])] (s4.2.map eOp))]⟩) _ ((Le.sub' ([(0, vl eOp aA), (3, .own 7), (4, vi 0)] : List (Nat × SV)) ([(7, .deep 61 5 x1.length [.flat, .flat, .flat, .flat, (.sl 2 1 [.flat])] (x1.map eOp))] : List (Nat × SO)) (by kernel_rfl) (by kernel_rfl)).trans ((Le.ren' (d := 7) (e := 3) (by kernel_rfl) (by kernel_rfl) (by kernel_rfl)).trans (Le.sub0))) h (fun s4 v5 h => ?_)
  refine swp_seq ?_
  refine swp_seq ?_
  refine swp_reg ?_
  refine SRun.ck tbok 4 ⟨23, [(0, vl eOp aA), (3, .own 3), (4, vi s4.1), (11, vb (decide (s4.1 < (aA.length : Int))))], [(3, .deep 61 5 s4.2.length [.flat, .flat, .flat, .flat, (.sl 2 1 [.flat])] (s4.2.map eOp))]⟩ ?_
  refine SRun.nil ?_
  refine nx_n ?_
  refine swp_cond (b := (decide (s4.1 < (aA.length : Int)))) (by kernel_rfl) (fun hb => ?_) (fun hb => ?_)
  replace h := cond_t hb h
  refine swp_skip ?_
  refine nx_n ?_
  refine swp_seq ?_
  refine swp_seqJ h (fun j6 => ⟨23, [(0, vl eOp aA), (3, .own 3), (4, vi s4.1)], [(3, .deep 61 5 j6.length [.flat, .flat, .flat, .flat, (.sl 2 1 [.flat])] (j6.map eOp))]⟩) (fun v7 h => ?_) (fun j6 h => ?_)
  refine swp_blk (a := v7) ?_
  refine swp_reg ?_
  refine SRun.ck tbok 4 ⟨23, [(0, vl eOp aA), (3, .own 3), (4, vi s4.1), (14, .own 3), (15, vi s4.1), (16, vl eOp aA), (17, vi s4.1)], [(3, .deep 61 5 s4.2.length [.flat, .flat, .flat, .flat, (.sl 2 1 [.flat])] (s4.2.map eOp))]⟩ ?_
  obtain ⟨x8, hx8, h⟩ := bind_some h
  refine SRun.ls (x_index (L := aA) (f := eOp) (ti := ti22) (tj := ti60) (e := 60) (k := .i64) tbok rfl hx8) ?_
  refine SRun.ck tbok 1 ⟨23, [(0, vl eOp aA), (3, .own 3), (4, vi s4.1), (14, .own 3), (15, vi s4.1), (19, .agg [vi x8.Office, vi x8.Number, vs x8.Key, vs x8.Text, vl (eI .i64) x8.Seen])], [(3, .deep 61 5 s4.2.length [.flat, .flat, .flat, .flat, (.sl 2 1 [.flat])] (s4.2.map eOp))]⟩ ?_
  obtain ⟨x9, hx9, h⟩ := bind_some h
  refine SRun.ls (x_lstep_call (f := 48) (caps := []) (xs := [.agg [vi x8.Office, vi x8.Number, vs x8.Key, vs x8.Text, vl (eI .i64) x8.Seen]]) (ys := [.agg [vi x8.Office, vi x8.Number, vs x8.Key, vs x8.Text, vl (eI .i64) x8.Seen]]) (res := ⟨[.part [vi x9.Office, vi x9.Number, vs x9.Key, vs x9.Text] [] (.arr 2 1 x9.Seen.length (x9.Seen.map (eI .i64)))], [], false⟩) (x := .agg [vi x9.Office, vi x9.Number, vs x9.Key, vs x9.Text, .own 20]) (y := some (.arr 2 1 x9.Seen.length (x9.Seen.map (eI .i64)))) rfl ents48 (laws_toOp_run x8 _ hx9) rfl (by intro hc; cases hc)) ?_
  obtain ⟨x10, hx10, h⟩ := bind_some h
  refine SRun.ls (x_index_deep (d := 3) (L := s4.2) (f := eOp) (ti := ti25) (tj := ti61) (e := 61) (e' := 61) (m := 5) (k := .i64) (ss := [.flat, .flat, .flat, .flat, (.sl 2 1 [.flat])]) tbok rfl hx10) ?_
  refine SRun.estep (x_store_deep (d := 3) (m := 5) (j := 0) (L := s4.2) (f := eOp) (x := x9) (z := x10) (ti := ti61) (e := 61) (ss := [.flat, .flat, .flat, .flat, (.sl 2 1 [.flat])]) (ss2 := [.flat, .flat, .flat, .flat, (.sl 2 1 [.flat])]) (ts := [.int .i64 x9.Office, .int .i64 x9.Number, .str x9.Key, .str x9.Text, .sl x9.Seen.length (x9.Seen.map (eI .i64))]) (vs := [vi x9.Office, vi x9.Number, vs x9.Key, vs x9.Text, .own 20]) (v := .agg [vi x9.Office, vi x9.Number, vs x9.Key, vs x9.Text, .own 20]) (ds := [20]) tbok rfl rfl hx10 (.cons _ _ _ [] _ _ _ _ (.flat (.int .i64 x9.Office) rfl) (.cons _ _ _ [] _ _ _ _ (.flat (.int .i64 x9.Number) rfl) (.cons _ _ _ [] _ _ _ _ (.flat (.str x9.Key) rfl) (.cons _ _ _ [] _ _ _ _ (.flat (.str x9.Text) rfl) (.cons _ _ _ [20] _ _ _ _ (cD_arr (d := 20) (e := 2) (m := 1) (n := x9.Seen.length) (es := x9.Seen.map (eI .i64)) (ss := [.flat]) (flat_map (eI_flat .i64) _)) .nil (by decide)) (by decide)) (by decide)) (by decide)) (by decide))) ?_
  refine SRun.nil ?_
  replace h := Option.some.inj h
  subst h
  exact q_bn (q_j (Le.sub0))
  refine swp_reg ?_
  refine SRun.ck tbok 3 ⟨23, [(0, vl eOp aA), (3, .own 3), (4, vi (w64 (s4.1 + 1)))], [(3, .deep 61 5 j6.length [.flat, .flat, .flat, .flat, (.sl 2 1 [.flat])] (j6.map eOp))]⟩ ?_
  refine SRun.nil ?_
  replace h := Option.some.inj h
  subst h
  exact q_l (Le.sub0)
  replace h := cond_f hb h
  refine swp_exit ?_
  replace h := Option.some.inj h
  subst h
  exact nx_e (q_re (q_bh (q_j (Le.sub0))))
  refine swp_seq ?_
  refine swp_reg ?_
  refine SRun.ck tbok 2 ⟨23, [(2, .own 3)], [(3, .deep 61 5 j2.length [.flat, .flat, .flat, .flat, (.sl 2 1 [.flat])] (j2.map eOp))]⟩ ?_
  refine SRun.nil ?_
  refine nx_n ?_
  refine swp_ret ?_
  replace h := Option.some.inj h
  subst h
  exact q_fr (fin1 (by kernel_rfl) (finD (d := 3) (holds_t (by kernel_rfl)) (by kernel_rfl) (by kernel_rfl)))
theorem ents14 : Ents Tryd.prog 14 := ents_of Tryd.func14 (by kernel_rfl) rfl
noncomputable def spec_l01In (aN : Int) (aLow : Int) (aHigh : Int) : Option (Bool) :=
  some ((decide (aN ≥ aLow)) && (decide (aN ≤ aHigh)))
set_option maxRecDepth 100000 in
set_option maxHeartbeats 4000000 in
theorem spec_l01In_run (aN : Int) (aLow : Int) (aHigh : Int) (r : Bool) (h : spec_l01In aN aLow aHigh = some r) : SCall Tryd.prog 44 [.v (vi aN), .v (vi aLow), .v (vi aHigh)] ⟨[.v (vb r)], [], false⟩ := by
  refine scall_in Tryd.func44 rfl [(.tmp 6)] rfl (fun r => ⟨[.v (vb r)], [], false⟩) (r := r) ?_
  unfold spec_l01In at h
  refine swp_seq ?_
  refine swp_reg ?_
  refine SRun.ck tbok 1 ⟨15, [(0, vi aN), (1, vi aLow), (2, vi aHigh)], []⟩ ?_
  refine SRun.nil ?_
  refine nx_n ?_
  refine swp_seq ?_
  refine swp_regP ⟨15, [(6, vb ((decide (aN ≥ aLow)) && (decide (aN ≤ aHigh))))], []⟩ ?_ ?_
  refine SRun.ck tbok 4 ⟨15, [(0, vi aN), (2, vi aHigh), (10, vb (decide (aN ≥ aLow)))], []⟩ ?_
  generalize (decide (aN ≥ aLow)) = bb
  cases bb
  refine SRun.ck tbok 5 ⟨15, [(6, vb false)], []⟩ ?_
  exact SRun.nil (Le.sub0)
  refine SRun.ck tbok 5 ⟨15, [(6, vb (decide (aN ≤ aHigh)))], []⟩ ?_
  exact SRun.nil (Le.sub0)
  refine swp_ret ?_
  replace h := Option.some.inj h
  subst h
  exact q_fr (fin1 (by kernel_rfl) (finV rfl SV.flat_of (holds_t (by kernel_rfl))))
theorem ents44 : Ents Tryd.prog 44 := ents_of Tryd.func44 (by kernel_rfl) rfl
noncomputable def spec_IsWord (aS : ByteArray) : Option (Bool) :=
  (((forN (aS.size : Int) (fun (i3 : Int) (_ : Unit) => ((((byte' aS i3).bind fun x7 => (bif (decide (x7 < 97)) then some true else ((byte' aS i3).bind fun x8 => some (decide (x8 > 122)))))).bind fun (j9 : Bool) => (bif j9 then some (.inr (.inr false)) else some (.inl ())))) (fun (_ : Unit) => .inl ()) 0 ())).bind (Sum.elim (fun (_ : Unit) => ((spec_l01In (aS.size : Int) 1 16).bind fun x11 => some x11)) some))
set_option maxRecDepth 100000 in
set_option maxHeartbeats 4000000 in
theorem spec_IsWord_run (aS : ByteArray) (r : Bool) (h : spec_IsWord aS = some r) : SCall Tryd.prog 45 [.v (vs aS)] ⟨[.v (vb r)], [], false⟩ := by
  refine scall_in Tryd.func45 rfl [(.tmp 2)] rfl (fun r => ⟨[.v (vb r)], [], false⟩) (r := r) ?_
  unfold spec_IsWord at h
  refine swp_seq ?_
  refine swp_reg ?_
  refine SRun.ck tbok 1 ⟨23, [(0, vs aS)], []⟩ ?_
  refine SRun.nil ?_
  refine nx_n ?_
  refine swp_seq ?_
  refine swp_seq ?_
  refine swp_reg ?_
  refine SRun.ck tbok 1 ⟨23, [(0, vs aS), (3, vi 0)], []⟩ ?_
  refine SRun.nil ?_
  refine nx_n ?_
  refine swp_seqE (r := r) h (fun j1 => ⟨23, [(0, vs aS)], []⟩) (fun v2 h => ?_) (fun j1 h => ?_)
  refine swp_blk (a := v2) ?_
  refine swp_lpL (r := v2) (s := (0, ())) _ (fun s3 => ⟨23, [(0, vs aS), (3, vi s3.1)], []⟩) _ (Le.sub0) h (fun s3 v4 h => ?_)
  refine swp_seq ?_
  refine swp_seq ?_
  refine swp_reg ?_
  refine SRun.ck tbok 4 ⟨23, [(0, vs aS), (3, vi s3.1), (7, vb (decide (s3.1 < (aS.size : Int))))], []⟩ ?_
  refine SRun.nil ?_
  refine nx_n ?_
  refine swp_cond (b := (decide (s3.1 < (aS.size : Int)))) (by kernel_rfl) (fun hb => ?_) (fun hb => ?_)
  replace h := cond_t hb h
  refine swp_skip ?_
  refine nx_n ?_
  refine swp_seq ?_
  refine swp_seqL (r := v4) h (fun j5 => ⟨23, [(0, vs aS), (3, vi s3.1)], []⟩) (fun v6 h => ?_) (fun j5 h => ?_)
  refine swp_blk (a := v6) ?_
  refine swp_seq ?_
  refine swp_regJ h (fun j9 => ⟨23, [(0, vs aS), (3, vi s3.1), (19, vb j9)], []⟩) (fun v10 h => ?_) (fun j9 h => ?_)
  refine SRun.ck tbok 2 ⟨23, [(0, vs aS), (3, vi s3.1), (10, vs aS), (11, vi s3.1)], []⟩ ?_
  obtain ⟨x7, hx7, h⟩ := bind_some h
  refine SRun.ls (x_byte (ti := ti9) (k := .i64) hx7 tbok rfl) ?_
  refine SRun.ck tbok 2 ⟨23, [(0, vs aS), (3, vi s3.1), (14, vb (decide (x7 < 97)))], []⟩ ?_
  refine SRun.cut [(14, fun b => b)] (b := (decide (x7 < 97))) (by kernel_rfl) (fun hb => ?_) (fun hb => ?_)
  replace h := cond_t hb h
  refine SRun.ck tbok 5 ⟨23, [(0, vs aS), (3, vi s3.1), (19, vb true)], []⟩ ?_
  refine SRun.nil ?_
  replace h := Option.some.inj h
  subst h
  exact Le.sub0
  replace h := cond_f hb h
  refine SRun.ck tbok 2 ⟨23, [(0, vs aS), (3, vi s3.1), (14, vb false), (15, vs aS), (16, vi s3.1)], []⟩ ?_
  obtain ⟨x8, hx8, h⟩ := bind_some h
  refine SRun.ls (x_byte (ti := ti9) (k := .i64) hx8 tbok rfl) ?_
  refine SRun.ck tbok 2 ⟨23, [(0, vs aS), (3, vi s3.1), (19, vb (decide (x8 > 122)))], []⟩ ?_
  refine SRun.nil ?_
  replace h := Option.some.inj h
  subst h
  exact Le.sub0
  refine swp_cond (b := j9) (by kernel_rfl) (fun hb => ?_) (fun hb => ?_)
  replace h := cond_t hb h
  refine swp_seq ?_
  refine swp_reg ?_
  refine SRun.ck tbok 1 ⟨23, [(2, vb false)], []⟩ ?_
  refine SRun.nil ?_
  refine nx_n ?_
  refine swp_ret ?_
  replace h := Option.some.inj h
  subst h
  exact q_br (q_rr (q_rr (q_br (q_rr (q_fr (fin1 (by kernel_rfl) (finV rfl SV.flat_of (holds_t (by kernel_rfl)))))))))
  replace h := cond_f hb h
  refine swp_skip ?_
  replace h := Option.some.inj h
  subst h
  exact q_bn (q_l (Le.sub0))
  refine swp_reg ?_
  refine SRun.ck tbok 3 ⟨23, [(0, vs aS), (3, vi (w64 (s3.1 + 1)))], []⟩ ?_
  refine SRun.nil ?_
  replace h := Option.some.inj h
  subst h
  exact q_l (Le.sub0)
  replace h := cond_f hb h
  refine swp_exit ?_
  replace h := Option.some.inj h
  subst h
  exact nx_e (q_re (q_bh (q_l (Le.sub0))))
  refine swp_seq ?_
  refine swp_reg ?_
  refine SRun.ck tbok 2 ⟨23, [(21, vi (aS.size : Int))], []⟩ ?_
  obtain ⟨x11, hx11, h⟩ := bind_some h
  refine SRun.ls (x_lstep_call (f := 44) (caps := []) (xs := [vi (aS.size : Int), vi 1, vi 16]) (ys := [vi (aS.size : Int), vi 1, vi 16]) (res := ⟨[.v (vb x11)], [], false⟩) (x := vb x11) (y := none) rfl ents44 (spec_l01In_run (aS.size : Int) 1 16 _ hx11) rfl (by intro hc; cases hc)) ?_
  refine SRun.ck tbok 1 ⟨23, [(2, vb x11)], []⟩ ?_
  refine SRun.nil ?_
  refine nx_n ?_
  refine swp_ret ?_
  replace h := Option.some.inj h
  subst h
  exact q_fr (fin1 (by kernel_rfl) (finV rfl SV.flat_of (holds_t (by kernel_rfl))))
theorem ents45 : Ents Tryd.prog 45 := ents_of Tryd.func45 (by kernel_rfl) rfl
noncomputable def spec_l01Split (aS : ByteArray) (aBy : Int) : Option ((List ByteArray)) :=
  (((forH (fun (i3 : Int) (_ : Int × (List ByteArray)) => (decide (i3 ≤ (aS.size : Int)))) (fun (i3 : Int) (s3 : Int × (List ByteArray)) => (((bif (i3 == (aS.size : Int)) then some true else ((byte' aS i3).bind fun x7 => some (x7 == aBy)))).bind fun (j8 : Bool) => (bif j8 then ((sub' aS s3.1 i3).bind fun x10 => ((app' s3.2 ([x10] : List ByteArray)).bind fun x11 => some ((w64 (i3 + 1)), x11))) else some (s3.1, s3.2)))) (fun (s3 : Int × (List ByteArray)) => s3.2) 0 (0, ([] : List ByteArray)))).bind fun (j1 : (List ByteArray)) => some j1)
set_option maxRecDepth 100000 in
set_option maxHeartbeats 4000000 in
theorem spec_l01Split_run (aS : ByteArray) (aBy : Int) (r : (List ByteArray)) (h : spec_l01Split aS aBy = some r) : SCall Tryd.prog 97 [.v (vs aS), .v (.tr (.int .u8 aBy))] ⟨[.own 9 1 r.length (r.map eS)], [], false⟩ := by
  refine scall_in Tryd.func97 rfl [(.tmp 4)] rfl (fun r => ⟨[.own 9 1 r.length (r.map eS)], [], false⟩) (r := r) ?_
  unfold spec_l01Split at h
  refine swp_seq ?_
  refine swp_reg ?_
  refine SRun.ck tbok 1 ⟨36, [(0, vs aS), (1, .tr (.int .u8 aBy))], []⟩ ?_
  refine SRun.nil ?_
  refine nx_n ?_
  refine swp_seq ?_
  refine swp_reg ?_
  refine SRun.ck tbok 2 ⟨36, [(0, vs aS), (1, .tr (.int .u8 aBy)), (5, .own 8)], [(8, .arr 9 1 ([] : List ByteArray).length (([] : List ByteArray).map eS))]⟩ ?_
  refine SRun.nil ?_
  refine nx_n ?_
  refine swp_seq ?_
  refine swp_reg ?_
  refine SRun.ck tbok 1 ⟨36, [(0, vs aS), (1, .tr (.int .u8 aBy)), (5, .own 8), (6, vi 0)], [(8, .arr 9 1 ([] : List ByteArray).length (([] : List ByteArray).map eS))]⟩ ?_
  refine SRun.nil ?_
  refine nx_n ?_
  refine swp_seq ?_
  refine swp_seq ?_
  refine swp_reg ?_
  refine SRun.ck tbok 1 ⟨36, [(0, vs aS), (1, .tr (.int .u8 aBy)), (5, .own 8), (6, vi 0), (7, vi 0)], [(8, .arr 9 1 ([] : List ByteArray).length (([] : List ByteArray).map eS))]⟩ ?_
  refine SRun.nil ?_
  refine nx_n ?_
  refine swp_seqJ h (fun j1 => ⟨36, [(5, .own 5)], [(5, .arr 9 1 j1.length (j1.map eS))]⟩) (fun v2 h => ?_) (fun j1 h => ?_)
  refine swp_blk (a := v2) ?_
  refine swp_lpL (r := v2) (s := (0, 0, ([] : List ByteArray))) _ (fun s3 => ⟨36, [(0, vs aS), (1, .tr (.int .u8 aBy)), (5, .own 5), (6, vi s3.2.1), (7, vi s3.1)], [(5, .arr 9 1 s3.2.2.length (s3.2.2.map eS))]⟩) _ ((Le.sub' ([(0, vs aS), (1, .tr (.int .u8 aBy)), (5, .own 8), (6, vi 0), (7, vi 0)] : List (Nat × SV)) ([(8, .arr 9 1 ([] : List ByteArray).length (([] : List ByteArray).map eS))] : List (Nat × SO)) (by kernel_rfl) (by kernel_rfl)).trans ((Le.ren' (d := 8) (e := 5) (by kernel_rfl) (by kernel_rfl) (by kernel_rfl)).trans (Le.sub0))) h (fun s3 v4 h => ?_)
  refine swp_seq ?_
  refine swp_seq ?_
  refine swp_reg ?_
  refine SRun.ck tbok 4 ⟨36, [(0, vs aS), (1, .tr (.int .u8 aBy)), (5, .own 5), (6, vi s3.2.1), (7, vi s3.1), (12, vb (decide (s3.1 ≤ (aS.size : Int))))], [(5, .arr 9 1 s3.2.2.length (s3.2.2.map eS))]⟩ ?_
  refine SRun.nil ?_
  refine nx_n ?_
  refine swp_cond (b := (decide (s3.1 ≤ (aS.size : Int)))) (by kernel_rfl) (fun hb => ?_) (fun hb => ?_)
  replace h := cond_t hb h
  refine swp_skip ?_
  refine nx_n ?_
  refine swp_seq ?_
  refine swp_seqJ h (fun j5 => ⟨36, [(0, vs aS), (1, .tr (.int .u8 aBy)), (5, .own 5), (6, vi j5.1), (7, vi s3.1)], [(5, .arr 9 1 j5.2.length (j5.2.map eS))]⟩) (fun v6 h => ?_) (fun j5 h => ?_)
  refine swp_blk (a := v6) ?_
  refine swp_seq ?_
  refine swp_regJ h (fun j8 => ⟨36, [(0, vs aS), (1, .tr (.int .u8 aBy)), (5, .own 5), (6, vi s3.2.1), (7, vi s3.1), (25, vb j8)], [(5, .arr 9 1 s3.2.2.length (s3.2.2.map eS))]⟩) (fun v9 h => ?_) (fun j8 h => ?_)
  refine SRun.ck tbok 5 ⟨36, [(0, vs aS), (1, .tr (.int .u8 aBy)), (5, .own 5), (6, vi s3.2.1), (7, vi s3.1), (19, vb (s3.1 == (aS.size : Int)))], [(5, .arr 9 1 s3.2.2.length (s3.2.2.map eS))]⟩ ?_
  refine SRun.cut [(19, fun b => b)] (b := (s3.1 == (aS.size : Int))) (by kernel_rfl) (fun hb => ?_) (fun hb => ?_)
  replace h := cond_t hb h
  refine SRun.ck tbok 6 ⟨36, [(0, vs aS), (1, .tr (.int .u8 aBy)), (5, .own 5), (6, vi s3.2.1), (7, vi s3.1), (25, vb true)], [(5, .arr 9 1 s3.2.2.length (s3.2.2.map eS))]⟩ ?_
  refine SRun.nil ?_
  replace h := Option.some.inj h
  subst h
  exact Le.sub0
  replace h := cond_f hb h
  refine SRun.ck tbok 2 ⟨36, [(0, vs aS), (1, .tr (.int .u8 aBy)), (5, .own 5), (6, vi s3.2.1), (7, vi s3.1), (19, vb false), (20, vs aS), (21, vi s3.1)], [(5, .arr 9 1 s3.2.2.length (s3.2.2.map eS))]⟩ ?_
  obtain ⟨x7, hx7, h⟩ := bind_some h
  refine SRun.ls (x_byte (ti := ti9) (k := .i64) hx7 tbok rfl) ?_
  refine SRun.ck tbok 3 ⟨36, [(0, vs aS), (1, .tr (.int .u8 aBy)), (5, .own 5), (6, vi s3.2.1), (7, vi s3.1), (25, vb (x7 == aBy))], [(5, .arr 9 1 s3.2.2.length (s3.2.2.map eS))]⟩ ?_
  refine SRun.nil ?_
  replace h := Option.some.inj h
  subst h
  exact Le.sub0
  refine swp_cond (b := j8) (by kernel_rfl) (fun hb => ?_) (fun hb => ?_)
  replace h := cond_t hb h
  refine swp_seq ?_
  refine swp_reg ?_
  refine SRun.ck tbok 4 ⟨36, [(0, vs aS), (1, .tr (.int .u8 aBy)), (7, vi s3.1), (26, .own 5), (27, vs aS), (28, vi s3.2.1), (29, vi s3.1)], [(5, .arr 9 1 s3.2.2.length (s3.2.2.map eS))]⟩ ?_
  obtain ⟨x10, hx10, h⟩ := bind_some h
  refine SRun.ls (x_sub (ti := ti9) hx10 tbok rfl) ?_
  refine SRun.ck tbok 1 ⟨36, [(0, vs aS), (1, .tr (.int .u8 aBy)), (7, vi s3.1), (26, .own 5), (31, .own 31)], [(5, .arr 9 1 s3.2.2.length (s3.2.2.map eS)), (31, .arr 9 1 ([x10] : List ByteArray).length (([x10] : List ByteArray).map eS))]⟩ ?_
  obtain ⟨x11, hx11, h⟩ := bind_some h
  refine SRun.estep (x_append (f := eS) (t := 86) (ti := ti86) (tj := ti9) (zs := [.string (ByteArray.mk #[])]) (e := 9) (m := 1) (d := 5) (xv := .own 31) hx11 tbok rfl rfl rfl rfl (x_src_o (e := 9))) ?_
  refine SRun.ck tbok 1 ⟨36, [(0, vs aS), (1, .tr (.int .u8 aBy)), (5, .own 32), (7, vi s3.1)], [(32, .arr 9 1 x11.length (x11.map eS))]⟩ ?_
  refine SRun.nil ?_
  refine nx_n ?_
  refine swp_reg ?_
  refine SRun.ck tbok 3 ⟨36, [(0, vs aS), (1, .tr (.int .u8 aBy)), (5, .own 32), (6, vi (w64 (s3.1 + 1))), (7, vi s3.1)], [(32, .arr 9 1 x11.length (x11.map eS))]⟩ ?_
  refine SRun.nil ?_
  replace h := Option.some.inj h
  subst h
  exact q_bn (q_j ((Le.sub' ([(0, vs aS), (1, .tr (.int .u8 aBy)), (5, .own 32), (6, vi (w64 (s3.1 + 1))), (7, vi s3.1)] : List (Nat × SV)) ([(32, .arr 9 1 x11.length (x11.map eS))] : List (Nat × SO)) (by kernel_rfl) (by kernel_rfl)).trans ((Le.ren' (d := 32) (e := 5) (by kernel_rfl) (by kernel_rfl) (by kernel_rfl)).trans (Le.sub0))))
  replace h := cond_f hb h
  refine swp_skip ?_
  replace h := Option.some.inj h
  subst h
  exact q_bn (q_j (Le.sub0))
  refine swp_reg ?_
  refine SRun.ck tbok 3 ⟨36, [(0, vs aS), (1, .tr (.int .u8 aBy)), (5, .own 5), (6, vi j5.1), (7, vi (w64 (s3.1 + 1)))], [(5, .arr 9 1 j5.2.length (j5.2.map eS))]⟩ ?_
  refine SRun.nil ?_
  replace h := Option.some.inj h
  subst h
  exact q_l (Le.sub0)
  replace h := cond_f hb h
  refine swp_exit ?_
  replace h := Option.some.inj h
  subst h
  exact nx_e (q_re (q_bh (q_j (Le.sub0))))
  refine swp_seq ?_
  refine swp_reg ?_
  refine SRun.ck tbok 2 ⟨36, [(4, .own 5)], [(5, .arr 9 1 j1.length (j1.map eS))]⟩ ?_
  refine SRun.nil ?_
  refine nx_n ?_
  refine swp_ret ?_
  replace h := Option.some.inj h
  subst h
  exact q_fr (fin1 (by kernel_rfl) (finO (d := 5) (holds_t (by kernel_rfl)) (by kernel_rfl) (flat_map eS_flat _) (by kernel_rfl)))
theorem ents97 : Ents Tryd.prog 97 := ents_of Tryd.func97 (by kernel_rfl) rfl
noncomputable def spec_l01Phrase (aS : ByteArray) : Option ((List ByteArray) × Bool) :=
  ((spec_l01Split aS 32).bind fun x1 => (((forN (x1.length : Int) (fun (i4 : Int) (_ : Unit) => ((at' x1 i4).bind fun x8 => ((spec_IsWord x8).bind fun x9 => (bif (!x9) then some (.inr (.inr (([] : List ByteArray), false))) else some (.inl ()))))) (fun (_ : Unit) => .inl ()) 0 ())).bind (Sum.elim (fun (_ : Unit) => some (x1, (decide ((x1.length : Int) ≤ 8)))) some)))
set_option maxRecDepth 100000 in
set_option maxHeartbeats 4000000 in
theorem spec_l01Phrase_run (aS : ByteArray) (r : (List ByteArray) × Bool) (h : spec_l01Phrase aS = some r) : SCall Tryd.prog 79 [.v (vs aS)] ⟨[.own 9 1 r.1.length (r.1.map eS), .v (vb r.2)], [], false⟩ := by
  refine scall_in Tryd.func79 rfl [(.tmp 2), (.tmp 3)] rfl (fun r => ⟨[.own 9 1 r.1.length (r.1.map eS), .v (vb r.2)], [], false⟩) (r := r) ?_
  unfold spec_l01Phrase at h
  refine swp_seq ?_
  refine swp_reg ?_
  refine SRun.ck tbok 2 ⟨24, [(0, vs aS)], []⟩ ?_
  refine SRun.nil ?_
  refine nx_n ?_
  refine swp_seq ?_
  refine swp_reg ?_
  refine SRun.ck tbok 1 ⟨24, [(6, vs aS)], []⟩ ?_
  obtain ⟨x1, hx1, h⟩ := bind_some h
  refine SRun.ls (x_lstep_call (f := 97) (caps := []) (xs := [vs aS, .tr (.int .u8 32)]) (ys := [vs aS, .tr (.int .u8 32)]) (res := ⟨[.own 9 1 x1.length (x1.map eS)], [], false⟩) (x := .own 7) (y := some (.arr 9 1 x1.length (x1.map eS))) rfl ents97 (spec_l01Split_run aS 32 _ hx1) rfl (by intro hc; cases hc)) ?_
  refine SRun.ck tbok 1 ⟨24, [(4, .own 7)], [(7, .arr 9 1 x1.length (x1.map eS))]⟩ ?_
  refine SRun.nil ?_
  refine nx_n ?_
  refine swp_seq ?_
  refine swp_seq ?_
  refine swp_reg ?_
  refine SRun.ck tbok 1 ⟨24, [(4, .own 7), (5, vi 0)], [(7, .arr 9 1 x1.length (x1.map eS))]⟩ ?_
  refine SRun.nil ?_
  refine nx_n ?_
  refine swp_seqE (r := r) h (fun j2 => ⟨24, [(4, .own 4)], [(4, .arr 9 1 x1.length (x1.map eS))]⟩) (fun v3 h => ?_) (fun j2 h => ?_)
  refine swp_blk (a := v3) ?_
  refine swp_lpL (r := v3) (s := (0, ())) _ (fun s4 => ⟨24, [(4, .own 4), (5, vi s4.1)], [(4, .arr 9 1 x1.length (x1.map eS))]⟩) _ ((Le.sub' ([(4, .own 7), (5, vi 0)] : List (Nat × SV)) ([(7, .arr 9 1 x1.length (x1.map eS))] : List (Nat × SO)) (by kernel_rfl) (by kernel_rfl)).trans ((Le.ren' (d := 7) (e := 4) (by kernel_rfl) (by kernel_rfl) (by kernel_rfl)).trans (Le.sub0))) h (fun s4 v5 h => ?_)
  refine swp_seq ?_
  refine swp_seq ?_
  refine swp_reg ?_
  refine SRun.ck tbok 4 ⟨24, [(4, .own 4), (5, vi s4.1), (11, vb (decide (s4.1 < (x1.length : Int))))], [(4, .arr 9 1 x1.length (x1.map eS))]⟩ ?_
  refine SRun.nil ?_
  refine nx_n ?_
  refine swp_cond (b := (decide (s4.1 < (x1.length : Int)))) (by kernel_rfl) (fun hb => ?_) (fun hb => ?_)
  replace h := cond_t hb h
  refine swp_skip ?_
  refine nx_n ?_
  refine swp_seq ?_
  refine swp_seqL (r := v5) h (fun j6 => ⟨24, [(4, .own 4), (5, vi s4.1)], [(4, .arr 9 1 x1.length (x1.map eS))]⟩) (fun v7 h => ?_) (fun j6 h => ?_)
  refine swp_blk (a := v7) ?_
  refine swp_seq ?_
  refine swp_reg ?_
  refine SRun.ck tbok 2 ⟨24, [(4, .own 4), (5, vi s4.1), (14, .own 4), (15, vi s4.1)], [(4, .arr 9 1 x1.length (x1.map eS))]⟩ ?_
  obtain ⟨x8, hx8, h⟩ := bind_some h
  refine SRun.ls (x_index_own (d := 4) (L := x1) (f := eS) (ti := ti86) (tj := ti9) (e := 9) (e' := 9) (m := 1) (k := .i64) tbok rfl hx8) ?_
  refine SRun.ls (x_load_own (d := 4) (m := 1) (j := 0) (L := x1) (f := eS) (ti := ti9) (e := 9) (v := vs x8) tbok rfl hx8) ?_
  obtain ⟨x9, hx9, h⟩ := bind_some h
  refine SRun.ls (x_lstep_call (f := 45) (caps := []) (xs := [vs x8]) (ys := [vs x8]) (res := ⟨[.v (vb x9)], [], false⟩) (x := vb x9) (y := none) rfl ents45 (spec_IsWord_run x8 _ hx9) rfl (by intro hc; cases hc)) ?_
  refine SRun.ck tbok 1 ⟨24, [(4, .own 4), (5, vi s4.1), (19, vb (!x9))], [(4, .arr 9 1 x1.length (x1.map eS))]⟩ ?_
  refine SRun.nil ?_
  refine nx_n ?_
  refine swp_cond (b := (!x9)) (by kernel_rfl) (fun hb => ?_) (fun hb => ?_)
  replace h := cond_t hb h
  refine swp_seq ?_
  refine swp_reg ?_
  refine SRun.ck tbok 2 ⟨24, [(2, .own 2), (3, vb false)], [(2, .arr 9 1 ([] : List ByteArray).length (([] : List ByteArray).map eS))]⟩ ?_
  refine SRun.nil ?_
  refine nx_n ?_
  refine swp_ret ?_
  replace h := Option.some.inj h
  subst h
  exact q_br (q_rr (q_rr (q_br (q_rr (q_fr (fin2 (by kernel_rfl) (finO (d := 2) (holds_t (by kernel_rfl)) (by kernel_rfl) (flat_map eS_flat _) (by kernel_rfl)) (finV rfl SV.flat_of (holds_t (by kernel_rfl)))))))))
  replace h := cond_f hb h
  refine swp_skip ?_
  replace h := Option.some.inj h
  subst h
  exact q_bn (q_l (Le.sub0))
  refine swp_reg ?_
  refine SRun.ck tbok 3 ⟨24, [(4, .own 4), (5, vi (w64 (s4.1 + 1)))], [(4, .arr 9 1 x1.length (x1.map eS))]⟩ ?_
  refine SRun.nil ?_
  replace h := Option.some.inj h
  subst h
  exact q_l (Le.sub0)
  replace h := cond_f hb h
  refine swp_exit ?_
  replace h := Option.some.inj h
  subst h
  exact nx_e (q_re (q_bh (q_l (Le.sub0))))
  refine swp_seq ?_
  refine swp_reg ?_
  refine SRun.ck tbok 6 ⟨24, [(2, .own 4), (3, vb (decide ((x1.length : Int) ≤ 8)))], [(4, .arr 9 1 x1.length (x1.map eS))]⟩ ?_
  refine SRun.nil ?_
  refine nx_n ?_
  refine swp_ret ?_
  replace h := Option.some.inj h
  subst h
  exact q_fr (fin2 (by kernel_rfl) (finO (d := 4) (holds_t (by kernel_rfl)) (by kernel_rfl) (flat_map eS_flat _) (by kernel_rfl)) (finV rfl SV.flat_of (holds_t (by kernel_rfl))))
theorem ents79 : Ents Tryd.prog 79 := ents_of Tryd.func79 (by kernel_rfl) rfl
noncomputable def spec_IsPhrase (aS : ByteArray) : Option (Bool) :=
  ((spec_l01Phrase aS).bind fun x1 => some x1.2)
set_option maxRecDepth 100000 in
set_option maxHeartbeats 4000000 in
theorem spec_IsPhrase_run (aS : ByteArray) (r : Bool) (h : spec_IsPhrase aS = some r) : SCall Tryd.prog 46 [.v (vs aS)] ⟨[.v (vb r)], [], false⟩ := by
  refine scall_in Tryd.func46 rfl [(.tmp 2)] rfl (fun r => ⟨[.v (vb r)], [], false⟩) (r := r) ?_
  unfold spec_IsPhrase at h
  refine swp_seq ?_
  refine swp_reg ?_
  refine SRun.ck tbok 1 ⟨11, [(0, vs aS)], []⟩ ?_
  refine SRun.nil ?_
  refine nx_n ?_
  refine swp_seq ?_
  refine swp_reg ?_
  refine SRun.ck tbok 1 ⟨11, [(6, vs aS)], []⟩ ?_
  obtain ⟨x1, hx1, h⟩ := bind_some h
  refine SRun.ls (x_lstep_call (f := 79) (caps := []) (xs := [vs aS]) (ys := [vs aS]) (res := ⟨[.own 9 1 x1.1.length (x1.1.map eS), .v (vb x1.2)], [], false⟩) (x := .tup [.own 7, vb x1.2]) (y := some (.arr 9 1 x1.1.length (x1.1.map eS))) rfl ents79 (spec_l01Phrase_run aS _ hx1) rfl (by intro hc; cases hc)) ?_
  refine SRun.ck tbok 5 ⟨11, [(4, vb x1.2)], []⟩ ?_
  refine SRun.nil ?_
  refine nx_n ?_
  refine swp_seq ?_
  refine swp_reg ?_
  refine SRun.ck tbok 2 ⟨11, [(2, vb x1.2)], []⟩ ?_
  refine SRun.nil ?_
  refine nx_n ?_
  refine swp_ret ?_
  replace h := Option.some.inj h
  subst h
  exact q_fr (fin1 (by kernel_rfl) (finV rfl SV.flat_of (holds_t (by kernel_rfl))))
theorem ents46 : Ents Tryd.prog 46 := ents_of Tryd.func46 (by kernel_rfl) rfl
noncomputable def spec_l32Vector (aVector : (List Int)) : Option (Bool) :=
  (((forN (aVector.length : Int) (fun (i3 : Int) (_ : Unit) => ((at' aVector i3).bind fun x7 => (bif (decide (x7 < 0)) then some (.inr (.inr false)) else some (.inl ())))) (fun (_ : Unit) => .inl ()) 0 ())).bind (Sum.elim (fun (_ : Unit) => some ((aVector.length : Int) == 4)) some))
set_option maxRecDepth 100000 in
set_option maxHeartbeats 4000000 in
theorem spec_l32Vector_run (aVector : (List Int)) (r : Bool) (h : spec_l32Vector aVector = some r) : SCall Tryd.prog 47 [.v (vl (eI .i64) aVector)] ⟨[.v (vb r)], [], false⟩ := by
  refine scall_in Tryd.func47 rfl [(.tmp 2)] rfl (fun r => ⟨[.v (vb r)], [], false⟩) (r := r) ?_
  unfold spec_l32Vector at h
  refine swp_seq ?_
  refine swp_reg ?_
  refine SRun.ck tbok 1 ⟨18, [(0, vl (eI .i64) aVector)], []⟩ ?_
  refine SRun.nil ?_
  refine nx_n ?_
  refine swp_seq ?_
  refine swp_seq ?_
  refine swp_reg ?_
  refine SRun.ck tbok 1 ⟨18, [(0, vl (eI .i64) aVector), (3, vi 0)], []⟩ ?_
  refine SRun.nil ?_
  refine nx_n ?_
  refine swp_seqE (r := r) h (fun j1 => ⟨18, [(0, vl (eI .i64) aVector)], []⟩) (fun v2 h => ?_) (fun j1 h => ?_)
  refine swp_blk (a := v2) ?_
  refine swp_lpL (r := v2) (s := (0, ())) _ (fun s3 => ⟨18, [(0, vl (eI .i64) aVector), (3, vi s3.1)], []⟩) _ (Le.sub0) h (fun s3 v4 h => ?_)
  refine swp_seq ?_
  refine swp_seq ?_
  refine swp_reg ?_
  refine SRun.ck tbok 4 ⟨18, [(0, vl (eI .i64) aVector), (3, vi s3.1), (7, vb (decide (s3.1 < (aVector.length : Int))))], []⟩ ?_
  refine SRun.nil ?_
  refine nx_n ?_
  refine swp_cond (b := (decide (s3.1 < (aVector.length : Int)))) (by kernel_rfl) (fun hb => ?_) (fun hb => ?_)
  replace h := cond_t hb h
  refine swp_skip ?_
  refine nx_n ?_
  refine swp_seq ?_
  refine swp_seqL (r := v4) h (fun j5 => ⟨18, [(0, vl (eI .i64) aVector), (3, vi s3.1)], []⟩) (fun v6 h => ?_) (fun j5 h => ?_)
  refine swp_blk (a := v6) ?_
  refine swp_seq ?_
  refine swp_reg ?_
  refine SRun.ck tbok 2 ⟨18, [(0, vl (eI .i64) aVector), (3, vi s3.1), (10, vl (eI .i64) aVector), (11, vi s3.1)], []⟩ ?_
  obtain ⟨x7, hx7, h⟩ := bind_some h
  refine SRun.ls (x_index (L := aVector) (f := (eI .i64)) (ti := ti32) (tj := ti2) (e := 2) (k := .i64) tbok rfl hx7) ?_
  refine SRun.ck tbok 2 ⟨18, [(0, vl (eI .i64) aVector), (3, vi s3.1), (14, vb (decide (x7 < 0)))], []⟩ ?_
  refine SRun.nil ?_
  refine nx_n ?_
  refine swp_cond (b := (decide (x7 < 0))) (by kernel_rfl) (fun hb => ?_) (fun hb => ?_)
  replace h := cond_t hb h
  refine swp_seq ?_
  refine swp_reg ?_
  refine SRun.ck tbok 1 ⟨18, [(2, vb false)], []⟩ ?_
  refine SRun.nil ?_
  refine nx_n ?_
  refine swp_ret ?_
  replace h := Option.some.inj h
  subst h
  exact q_br (q_rr (q_rr (q_br (q_rr (q_fr (fin1 (by kernel_rfl) (finV rfl SV.flat_of (holds_t (by kernel_rfl)))))))))
  replace h := cond_f hb h
  refine swp_skip ?_
  replace h := Option.some.inj h
  subst h
  exact q_bn (q_l (Le.sub0))
  refine swp_reg ?_
  refine SRun.ck tbok 3 ⟨18, [(0, vl (eI .i64) aVector), (3, vi (w64 (s3.1 + 1)))], []⟩ ?_
  refine SRun.nil ?_
  replace h := Option.some.inj h
  subst h
  exact q_l (Le.sub0)
  replace h := cond_f hb h
  refine swp_exit ?_
  replace h := Option.some.inj h
  subst h
  exact nx_e (q_re (q_bh (q_l (Le.sub0))))
  refine swp_seq ?_
  refine swp_reg ?_
  refine SRun.ck tbok 4 ⟨18, [(2, vb ((aVector.length : Int) == 4))], []⟩ ?_
  refine SRun.nil ?_
  refine nx_n ?_
  refine swp_ret ?_
  replace h := Option.some.inj h
  subst h
  exact q_fr (fin1 (by kernel_rfl) (finV rfl SV.flat_of (holds_t (by kernel_rfl))))
theorem ents47 : Ents Tryd.prog 47 := ents_of Tryd.func47 (by kernel_rfl) rfl
noncomputable def spec_IsLog (aLog : (List Op)) : Option (Bool) :=
  ((make' 0 4).bind fun x1 => (((forN (aLog.length : Int) (fun (i4 : Int) (s4 : (List Int)) => ((at' aLog i4).bind fun x8 => ((((spec_l01In x8.Office 0 3).bind fun x9 => (bif (!x9) then some true else ((spec_IsWord x8.Key).bind fun x10 => (bif (!x10) then some true else ((spec_IsPhrase x8.Text).bind fun x11 => (bif (!x11) then some true else ((spec_l32Vector x8.Seen).bind fun x12 => (bif (!x12) then some true else ((at' x8.Seen x8.Office).bind fun x13 => (bif (x13 != (w64 (x8.Number - 1))) then some true else ((at' s4 x8.Office).bind fun x14 => some (x8.Number != (w64 (x14 + 1))))))))))))))).bind fun (j15 : Bool) => (bif j15 then some (.inr (.inr false)) else (((forN (s4.length : Int) (fun (i19 : Int) (_ : Unit) => ((at' x8.Seen i19).bind fun x23 => ((at' s4 i19).bind fun x24 => (bif (decide (x23 > x24)) then some (.inr (.inr (.inr (.inr false)))) else some (.inl ()))))) (fun (_ : Unit) => .inl ()) 0 ())).bind (Sum.elim (fun (_ : Unit) => ((at' s4 x8.Office).bind fun _ => some (.inl (List.set s4 (Int.toNat x8.Office) x8.Number)))) some)))))) (fun (_ : (List Int)) => .inl ()) 0 x1)).bind (Sum.elim (fun (_ : Unit) => some (decide ((aLog.length : Int) ≤ 16))) some)))
set_option maxRecDepth 100000 in
set_option maxHeartbeats 4000000 in
theorem spec_IsLog_run (aLog : (List Op)) (r : Bool) (h : spec_IsLog aLog = some r) : SCall Tryd.prog 13 [.v (vl eOp aLog)] ⟨[.v (vb r)], [], false⟩ := by
  refine scall_in Tryd.func13 rfl [(.tmp 2)] rfl (fun r => ⟨[.v (vb r)], [], false⟩) (r := r) ?_
  unfold spec_IsLog at h
  refine swp_seq ?_
  refine swp_reg ?_
  refine SRun.ck tbok 1 ⟨88, [(0, vl eOp aLog)], []⟩ ?_
  refine SRun.nil ?_
  refine nx_n ?_
  refine swp_seq ?_
  refine swp_reg ?_
  obtain ⟨x1, hx1, h⟩ := bind_some h
  refine SRun.ls (x_make (z := 0) (f := (eI .i64)) (ti := ti32) (tj := ti2) (e := 2) (m := 1) (k := .i64) (k' := .i64) hx1 tbok rfl rfl (zs := [.int .i64 0])) ?_
  refine SRun.ck tbok 1 ⟨88, [(0, vl eOp aLog), (3, .own 7)], [(7, .arr 2 1 x1.length (x1.map (eI .i64)))]⟩ ?_
  refine SRun.nil ?_
  refine nx_n ?_
  refine swp_seq ?_
  refine swp_seq ?_
  refine swp_reg ?_
  refine SRun.ck tbok 1 ⟨88, [(0, vl eOp aLog), (3, .own 7), (4, vi 0)], [(7, .arr 2 1 x1.length (x1.map (eI .i64)))]⟩ ?_
  refine SRun.nil ?_
  refine nx_n ?_
  refine swp_seqE (r := r) h (fun j2 => ⟨88, [(0, vl eOp aLog)], []⟩) (fun v3 h => ?_) (fun j2 h => ?_)
  refine swp_blk (a := v3) ?_
  refine swp_lpL (r := v3) (s := (0, x1)) _ (fun s4 => ⟨88, [(0, vl eOp aLog), (3, .own 3), (4, vi s4.1)], [(3, .arr 2 1 s4.2.length (s4.2.map (eI .i64)))]⟩) _ ((Le.sub' ([(0, vl eOp aLog), (3, .own 7), (4, vi 0)] : List (Nat × SV)) ([(7, .arr 2 1 x1.length (x1.map (eI .i64)))] : List (Nat × SO)) (by kernel_rfl) (by kernel_rfl)).trans ((Le.ren' (d := 7) (e := 3) (by kernel_rfl) (by kernel_rfl) (by kernel_rfl)).trans (Le.sub0))) h (fun s4 v5 h => ?_)
  refine swp_seq ?_
  refine swp_seq ?_
  refine swp_reg ?_
  refine SRun.ck tbok 4 ⟨88, [(0, vl eOp aLog), (3, .own 3), (4, vi s4.1), (11, vb (decide (s4.1 < (aLog.length : Int))))], [(3, .arr 2 1 s4.2.length (s4.2.map (eI .i64)))]⟩ ?_
  refine SRun.nil ?_
  refine nx_n ?_
  refine swp_cond (b := (decide (s4.1 < (aLog.length : Int)))) (by kernel_rfl) (fun hb => ?_) (fun hb => ?_)
  replace h := cond_t hb h
  refine swp_skip ?_
  refine nx_n ?_
  refine swp_seq ?_
  refine swp_seqL (r := v5) h (fun j6 => ⟨88, [(0, vl eOp aLog), (3, .own 3), (4, vi s4.1)], [(3, .arr 2 1 j6.length (j6.map (eI .i64)))]⟩) (fun v7 h => ?_) (fun j6 h => ?_)
  refine swp_blk (a := v7) ?_
  refine swp_seq ?_
  refine swp_reg ?_
  refine SRun.ck tbok 2 ⟨88, [(0, vl eOp aLog), (3, .own 3), (4, vi s4.1), (14, vl eOp aLog), (15, vi s4.1)], [(3, .arr 2 1 s4.2.length (s4.2.map (eI .i64)))]⟩ ?_
  obtain ⟨x8, hx8, h⟩ := bind_some h
  refine SRun.ls (x_index (L := aLog) (f := eOp) (ti := ti25) (tj := ti61) (e := 61) (k := .i64) tbok rfl hx8) ?_
  refine SRun.ck tbok 2 ⟨88, [(0, vl eOp aLog), (3, .own 3), (4, vi s4.1), (5, .ref 5 0), (17, .agg [vi x8.Office, vi x8.Number, vs x8.Key, vs x8.Text, vl (eI .i64) x8.Seen])], [(3, .arr 2 1 s4.2.length (s4.2.map (eI .i64))), (5, .box [vi 0, vi 0, vs (ByteArray.mk #[]), vs (ByteArray.mk #[]), vl (eI .i64) ([] : List Int)])]⟩ ?_
  refine SRun.estep (x_estep_store (d := 5) (k := 0) (ti := ti61) (cs := [vi 0, vi 0, vs (ByteArray.mk #[]), vs (ByteArray.mk #[]), vl (eI .i64) ([] : List Int)]) (vs := [vi x8.Office, vi x8.Number, vs x8.Key, vs x8.Text, vl (eI .i64) x8.Seen]) (v := .agg [vi x8.Office, vi x8.Number, vs x8.Key, vs x8.Text, vl (eI .i64) x8.Seen]) tbok rfl rfl) ?_
  refine SRun.nil ?_
  refine nx_n ?_
  refine swp_seq ?_
  refine swp_seq ?_
  refine swp_drJ mixed h (fun j15 => ⟨88, [(0, vl eOp aLog), (3, .own 3), (4, vi s4.1), (5, .ref 5 0), (62, vb j15)], [(3, .arr 2 1 s4.2.length (s4.2.map (eI .i64))), (5, .box [vi x8.Office, vi x8.Number, vs x8.Key, vs x8.Text, vl (eI .i64) x8.Seen])]⟩) (fun v16 h => ?_) (fun j15 h => ?_)
  refine DGo.chunk' tbok 2 (σ' := ⟨88, [(19, vi x8.Office), (18, .ref 5 0), (0, vl eOp aLog), (3, .own 3), (4, vi s4.1), (5, .ref 5 0), (17, .agg [vi x8.Office, vi x8.Number, vs x8.Key, vs x8.Text, vl (eI .i64) x8.Seen])], [(5, .box [vi x8.Office, vi x8.Number, vs x8.Key, vs x8.Text, vl (eI .i64) x8.Seen]), (3, .arr 2 1 s4.2.length (s4.2.map (eI .i64)))]⟩) (by kernel_rfl) ?_
  obtain ⟨x9, hx9, h⟩ := bind_some h
  refine DGo.step (x_lstep_call (f := 44) (caps := []) (xs := [vi x8.Office, vi 0, vi 3]) (ys := [vi x8.Office, vi 0, vi 3]) (res := ⟨[.v (vb x9)], [], false⟩) (x := vb x9) (y := none) rfl ents44 (spec_l01In_run x8.Office 0 3 _ hx9) rfl (by intro hc; cases hc)) ?_
  refine DGo.chunk' tbok 2 (σ' := ⟨88, [(22, vb (!x9)), (21, vb (!x9)), (20, vb x9), (19, vi x8.Office), (18, .ref 5 0), (0, vl eOp aLog), (3, .own 3), (4, vi s4.1), (5, .ref 5 0), (17, .agg [vi x8.Office, vi x8.Number, vs x8.Key, vs x8.Text, vl (eI .i64) x8.Seen])], [(5, .box [vi x8.Office, vi x8.Number, vs x8.Key, vs x8.Text, vl (eI .i64) x8.Seen]), (3, .arr 2 1 s4.2.length (s4.2.map (eI .i64)))]⟩) (by kernel_rfl) ?_
  refine DGo.cut [(22, fun b => b), (21, fun b => b)] (b := (!x9)) (by kernel_rfl) (fun hb => ?_) (fun hb => ?_)
  replace h := cond_t hb h
  refine DGo.chunk' tbok 40 (σ' := ⟨88, [(62, vb true), (61, .tup []), (60, .tup []), (59, .tup []), (58, .tup []), (57, .tup []), (56, .tup []), (55, .tup []), (54, .tup []), (53, .tup []), (52, vb true), (51, vb true), (50, .tup []), (49, .tup []), (48, .tup []), (47, .tup []), (46, .tup []), (45, .tup []), (44, .tup []), (43, .tup []), (42, .tup []), (41, .tup []), (40, vb true), (39, vb true), (38, .tup []), (37, .tup []), (36, .tup []), (35, .tup []), (34, vb true), (33, vb true), (32, .tup []), (31, .tup []), (30, .tup []), (29, .tup []), (28, vb true), (27, vb true), (26, .tup []), (25, .tup []), (24, .tup []), (23, .tup []), (22, vb true), (21, vb true), (20, vb x9), (19, vi x8.Office), (18, .ref 5 0), (0, vl eOp aLog), (3, .own 3), (4, vi s4.1), (5, .ref 5 0), (17, .agg [vi x8.Office, vi x8.Number, vs x8.Key, vs x8.Text, vl (eI .i64) x8.Seen])], [(5, .box [vi x8.Office, vi x8.Number, vs x8.Key, vs x8.Text, vl (eI .i64) x8.Seen]), (3, .arr 2 1 s4.2.length (s4.2.map (eI .i64)))]⟩) (by kernel_rfl) ?_
  refine DGo.nil (by kernel_rfl) ?_
  replace h := Option.some.inj h
  subst h
  exact Le.sub0
  replace h := cond_f hb h
  refine DGo.chunk' tbok 2 (σ' := ⟨88, [(24, vs x8.Key), (23, .ref 5 2), (22, vb false), (21, vb false), (20, vb x9), (19, vi x8.Office), (18, .ref 5 0), (0, vl eOp aLog), (3, .own 3), (4, vi s4.1), (5, .ref 5 0), (17, .agg [vi x8.Office, vi x8.Number, vs x8.Key, vs x8.Text, vl (eI .i64) x8.Seen])], [(5, .box [vi x8.Office, vi x8.Number, vs x8.Key, vs x8.Text, vl (eI .i64) x8.Seen]), (3, .arr 2 1 s4.2.length (s4.2.map (eI .i64)))]⟩) (by kernel_rfl) ?_
  obtain ⟨x10, hx10, h⟩ := bind_some h
  refine DGo.step (x_lstep_call (f := 45) (caps := []) (xs := [vs x8.Key]) (ys := [vs x8.Key]) (res := ⟨[.v (vb x10)], [], false⟩) (x := vb x10) (y := none) rfl ents45 (spec_IsWord_run x8.Key _ hx10) rfl (by intro hc; cases hc)) ?_
  refine DGo.chunk' tbok 3 (σ' := ⟨88, [(28, vb (!x10)), (27, vb (!x10)), (26, vb (!x10)), (25, vb x10), (24, vs x8.Key), (23, .ref 5 2), (22, vb false), (21, vb false), (20, vb x9), (19, vi x8.Office), (18, .ref 5 0), (0, vl eOp aLog), (3, .own 3), (4, vi s4.1), (5, .ref 5 0), (17, .agg [vi x8.Office, vi x8.Number, vs x8.Key, vs x8.Text, vl (eI .i64) x8.Seen])], [(5, .box [vi x8.Office, vi x8.Number, vs x8.Key, vs x8.Text, vl (eI .i64) x8.Seen]), (3, .arr 2 1 s4.2.length (s4.2.map (eI .i64)))]⟩) (by kernel_rfl) ?_
  refine DGo.cut [(28, fun b => b), (27, fun b => b), (26, fun b => b)] (b := (!x10)) (by kernel_rfl) (fun hb => ?_) (fun hb => ?_)
  replace h := cond_t hb h
  refine DGo.chunk' tbok 34 (σ' := ⟨88, [(62, vb true), (61, .tup []), (60, .tup []), (59, .tup []), (58, .tup []), (57, .tup []), (56, .tup []), (55, .tup []), (54, .tup []), (53, .tup []), (52, vb true), (51, vb true), (50, .tup []), (49, .tup []), (48, .tup []), (47, .tup []), (46, .tup []), (45, .tup []), (44, .tup []), (43, .tup []), (42, .tup []), (41, .tup []), (40, vb true), (39, vb true), (38, .tup []), (37, .tup []), (36, .tup []), (35, .tup []), (34, vb true), (33, vb true), (32, .tup []), (31, .tup []), (30, .tup []), (29, .tup []), (28, vb true), (27, vb true), (26, vb true), (25, vb x10), (24, vs x8.Key), (23, .ref 5 2), (22, vb false), (21, vb false), (20, vb x9), (19, vi x8.Office), (18, .ref 5 0), (0, vl eOp aLog), (3, .own 3), (4, vi s4.1), (5, .ref 5 0), (17, .agg [vi x8.Office, vi x8.Number, vs x8.Key, vs x8.Text, vl (eI .i64) x8.Seen])], [(5, .box [vi x8.Office, vi x8.Number, vs x8.Key, vs x8.Text, vl (eI .i64) x8.Seen]), (3, .arr 2 1 s4.2.length (s4.2.map (eI .i64)))]⟩) (by kernel_rfl) ?_
  refine DGo.nil (by kernel_rfl) ?_
  replace h := Option.some.inj h
  subst h
  exact Le.sub0
  replace h := cond_f hb h
  refine DGo.chunk' tbok 2 (σ' := ⟨88, [(30, vs x8.Text), (29, .ref 5 3), (28, vb false), (27, vb false), (26, vb false), (25, vb x10), (24, vs x8.Key), (23, .ref 5 2), (22, vb false), (21, vb false), (20, vb x9), (19, vi x8.Office), (18, .ref 5 0), (0, vl eOp aLog), (3, .own 3), (4, vi s4.1), (5, .ref 5 0), (17, .agg [vi x8.Office, vi x8.Number, vs x8.Key, vs x8.Text, vl (eI .i64) x8.Seen])], [(5, .box [vi x8.Office, vi x8.Number, vs x8.Key, vs x8.Text, vl (eI .i64) x8.Seen]), (3, .arr 2 1 s4.2.length (s4.2.map (eI .i64)))]⟩) (by kernel_rfl) ?_
  obtain ⟨x11, hx11, h⟩ := bind_some h
  refine DGo.step (x_lstep_call (f := 46) (caps := []) (xs := [vs x8.Text]) (ys := [vs x8.Text]) (res := ⟨[.v (vb x11)], [], false⟩) (x := vb x11) (y := none) rfl ents46 (spec_IsPhrase_run x8.Text _ hx11) rfl (by intro hc; cases hc)) ?_
  refine DGo.chunk' tbok 3 (σ' := ⟨88, [(34, vb (!x11)), (33, vb (!x11)), (32, vb (!x11)), (31, vb x11), (30, vs x8.Text), (29, .ref 5 3), (28, vb false), (27, vb false), (26, vb false), (25, vb x10), (24, vs x8.Key), (23, .ref 5 2), (22, vb false), (21, vb false), (20, vb x9), (19, vi x8.Office), (18, .ref 5 0), (0, vl eOp aLog), (3, .own 3), (4, vi s4.1), (5, .ref 5 0), (17, .agg [vi x8.Office, vi x8.Number, vs x8.Key, vs x8.Text, vl (eI .i64) x8.Seen])], [(5, .box [vi x8.Office, vi x8.Number, vs x8.Key, vs x8.Text, vl (eI .i64) x8.Seen]), (3, .arr 2 1 s4.2.length (s4.2.map (eI .i64)))]⟩) (by kernel_rfl) ?_
  refine DGo.cut [(34, fun b => b), (33, fun b => b), (32, fun b => b)] (b := (!x11)) (by kernel_rfl) (fun hb => ?_) (fun hb => ?_)
  replace h := cond_t hb h
  refine DGo.chunk' tbok 28 (σ' := ⟨88, [(62, vb true), (61, .tup []), (60, .tup []), (59, .tup []), (58, .tup []), (57, .tup []), (56, .tup []), (55, .tup []), (54, .tup []), (53, .tup []), (52, vb true), (51, vb true), (50, .tup []), (49, .tup []), (48, .tup []), (47, .tup []), (46, .tup []), (45, .tup []), (44, .tup []), (43, .tup []), (42, .tup []), (41, .tup []), (40, vb true), (39, vb true), (38, .tup []), (37, .tup []), (36, .tup []), (35, .tup []), (34, vb true), (33, vb true), (32, vb true), (31, vb x11), (30, vs x8.Text), (29, .ref 5 3), (28, vb false), (27, vb false), (26, vb false), (25, vb x10), (24, vs x8.Key), (23, .ref 5 2), (22, vb false), (21, vb false), (20, vb x9), (19, vi x8.Office), (18, .ref 5 0), (0, vl eOp aLog), (3, .own 3), (4, vi s4.1), (5, .ref 5 0), (17, .agg [vi x8.Office, vi x8.Number, vs x8.Key, vs x8.Text, vl (eI .i64) x8.Seen])], [(5, .box [vi x8.Office, vi x8.Number, vs x8.Key, vs x8.Text, vl (eI .i64) x8.Seen]), (3, .arr 2 1 s4.2.length (s4.2.map (eI .i64)))]⟩) (by kernel_rfl) ?_
  refine DGo.nil (by kernel_rfl) ?_
  replace h := Option.some.inj h
  subst h
  exact Le.sub0
  replace h := cond_f hb h
  refine DGo.chunk' tbok 2 (σ' := ⟨88, [(36, vl (eI .i64) x8.Seen), (35, .ref 5 4), (34, vb false), (33, vb false), (32, vb false), (31, vb x11), (30, vs x8.Text), (29, .ref 5 3), (28, vb false), (27, vb false), (26, vb false), (25, vb x10), (24, vs x8.Key), (23, .ref 5 2), (22, vb false), (21, vb false), (20, vb x9), (19, vi x8.Office), (18, .ref 5 0), (0, vl eOp aLog), (3, .own 3), (4, vi s4.1), (5, .ref 5 0), (17, .agg [vi x8.Office, vi x8.Number, vs x8.Key, vs x8.Text, vl (eI .i64) x8.Seen])], [(5, .box [vi x8.Office, vi x8.Number, vs x8.Key, vs x8.Text, vl (eI .i64) x8.Seen]), (3, .arr 2 1 s4.2.length (s4.2.map (eI .i64)))]⟩) (by kernel_rfl) ?_
  obtain ⟨x12, hx12, h⟩ := bind_some h
  refine DGo.step (x_lstep_call (f := 47) (caps := []) (xs := [vl (eI .i64) x8.Seen]) (ys := [vl (eI .i64) x8.Seen]) (res := ⟨[.v (vb x12)], [], false⟩) (x := vb x12) (y := none) rfl ents47 (spec_l32Vector_run x8.Seen _ hx12) rfl (by intro hc; cases hc)) ?_
  refine DGo.chunk' tbok 3 (σ' := ⟨88, [(40, vb (!x12)), (39, vb (!x12)), (38, vb (!x12)), (37, vb x12), (36, vl (eI .i64) x8.Seen), (35, .ref 5 4), (34, vb false), (33, vb false), (32, vb false), (31, vb x11), (30, vs x8.Text), (29, .ref 5 3), (28, vb false), (27, vb false), (26, vb false), (25, vb x10), (24, vs x8.Key), (23, .ref 5 2), (22, vb false), (21, vb false), (20, vb x9), (19, vi x8.Office), (18, .ref 5 0), (0, vl eOp aLog), (3, .own 3), (4, vi s4.1), (5, .ref 5 0), (17, .agg [vi x8.Office, vi x8.Number, vs x8.Key, vs x8.Text, vl (eI .i64) x8.Seen])], [(5, .box [vi x8.Office, vi x8.Number, vs x8.Key, vs x8.Text, vl (eI .i64) x8.Seen]), (3, .arr 2 1 s4.2.length (s4.2.map (eI .i64)))]⟩) (by kernel_rfl) ?_
  refine DGo.cut [(40, fun b => b), (39, fun b => b), (38, fun b => b)] (b := (!x12)) (by kernel_rfl) (fun hb => ?_) (fun hb => ?_)
  replace h := cond_t hb h
  refine DGo.chunk' tbok 22 (σ' := ⟨88, [(62, vb true), (61, .tup []), (60, .tup []), (59, .tup []), (58, .tup []), (57, .tup []), (56, .tup []), (55, .tup []), (54, .tup []), (53, .tup []), (52, vb true), (51, vb true), (50, .tup []), (49, .tup []), (48, .tup []), (47, .tup []), (46, .tup []), (45, .tup []), (44, .tup []), (43, .tup []), (42, .tup []), (41, .tup []), (40, vb true), (39, vb true), (38, vb true), (37, vb x12), (36, vl (eI .i64) x8.Seen), (35, .ref 5 4), (34, vb false), (33, vb false), (32, vb false), (31, vb x11), (30, vs x8.Text), (29, .ref 5 3), (28, vb false), (27, vb false), (26, vb false), (25, vb x10), (24, vs x8.Key), (23, .ref 5 2), (22, vb false), (21, vb false), (20, vb x9), (19, vi x8.Office), (18, .ref 5 0), (0, vl eOp aLog), (3, .own 3), (4, vi s4.1), (5, .ref 5 0), (17, .agg [vi x8.Office, vi x8.Number, vs x8.Key, vs x8.Text, vl (eI .i64) x8.Seen])], [(5, .box [vi x8.Office, vi x8.Number, vs x8.Key, vs x8.Text, vl (eI .i64) x8.Seen]), (3, .arr 2 1 s4.2.length (s4.2.map (eI .i64)))]⟩) (by kernel_rfl) ?_
  refine DGo.nil (by kernel_rfl) ?_
  replace h := Option.some.inj h
  subst h
  exact Le.sub0
  replace h := cond_f hb h
  refine DGo.chunk' tbok 4 (σ' := ⟨88, [(44, vi x8.Office), (43, .ref 5 0), (42, vl (eI .i64) x8.Seen), (41, .ref 5 4), (40, vb false), (39, vb false), (38, vb false), (37, vb x12), (36, vl (eI .i64) x8.Seen), (35, .ref 5 4), (34, vb false), (33, vb false), (32, vb false), (31, vb x11), (30, vs x8.Text), (29, .ref 5 3), (28, vb false), (27, vb false), (26, vb false), (25, vb x10), (24, vs x8.Key), (23, .ref 5 2), (22, vb false), (21, vb false), (20, vb x9), (19, vi x8.Office), (18, .ref 5 0), (0, vl eOp aLog), (3, .own 3), (4, vi s4.1), (5, .ref 5 0), (17, .agg [vi x8.Office, vi x8.Number, vs x8.Key, vs x8.Text, vl (eI .i64) x8.Seen])], [(5, .box [vi x8.Office, vi x8.Number, vs x8.Key, vs x8.Text, vl (eI .i64) x8.Seen]), (3, .arr 2 1 s4.2.length (s4.2.map (eI .i64)))]⟩) (by kernel_rfl) ?_
  obtain ⟨x13, hx13, h⟩ := bind_some h
  refine DGo.step (x_index (L := x8.Seen) (f := (eI .i64)) (ti := ti32) (tj := ti2) (e := 2) (k := .i64) tbok rfl hx13) ?_
  refine DGo.chunk' tbok 7 (σ' := ⟨88, [(52, vb (x13 != (w64 (x8.Number - 1)))), (51, vb (x13 != (w64 (x8.Number - 1)))), (50, vb (x13 != (w64 (x8.Number - 1)))), (49, vi (w64 (x8.Number - 1))), (48, vi x8.Number), (47, .ref 5 1), (46, vi x13), (45, .ptr (((eI .i64) x13).map .tr) 0), (44, vi x8.Office), (43, .ref 5 0), (42, vl (eI .i64) x8.Seen), (41, .ref 5 4), (40, vb false), (39, vb false), (38, vb false), (37, vb x12), (36, vl (eI .i64) x8.Seen), (35, .ref 5 4), (34, vb false), (33, vb false), (32, vb false), (31, vb x11), (30, vs x8.Text), (29, .ref 5 3), (28, vb false), (27, vb false), (26, vb false), (25, vb x10), (24, vs x8.Key), (23, .ref 5 2), (22, vb false), (21, vb false), (20, vb x9), (19, vi x8.Office), (18, .ref 5 0), (0, vl eOp aLog), (3, .own 3), (4, vi s4.1), (5, .ref 5 0), (17, .agg [vi x8.Office, vi x8.Number, vs x8.Key, vs x8.Text, vl (eI .i64) x8.Seen])], [(5, .box [vi x8.Office, vi x8.Number, vs x8.Key, vs x8.Text, vl (eI .i64) x8.Seen]), (3, .arr 2 1 s4.2.length (s4.2.map (eI .i64)))]⟩) (by kernel_rfl) ?_
  refine DGo.cut [(52, fun b => b), (51, fun b => b), (50, fun b => b)] (b := (x13 != (w64 (x8.Number - 1)))) (by kernel_rfl) (fun hb => ?_) (fun hb => ?_)
  replace h := cond_t hb h
  refine DGo.chunk' tbok 10 (σ' := ⟨88, [(62, vb true), (61, .tup []), (60, .tup []), (59, .tup []), (58, .tup []), (57, .tup []), (56, .tup []), (55, .tup []), (54, .tup []), (53, .tup []), (52, vb true), (51, vb true), (50, vb true), (49, vi (w64 (x8.Number - 1))), (48, vi x8.Number), (47, .ref 5 1), (46, vi x13), (45, .ptr (((eI .i64) x13).map .tr) 0), (44, vi x8.Office), (43, .ref 5 0), (42, vl (eI .i64) x8.Seen), (41, .ref 5 4), (40, vb false), (39, vb false), (38, vb false), (37, vb x12), (36, vl (eI .i64) x8.Seen), (35, .ref 5 4), (34, vb false), (33, vb false), (32, vb false), (31, vb x11), (30, vs x8.Text), (29, .ref 5 3), (28, vb false), (27, vb false), (26, vb false), (25, vb x10), (24, vs x8.Key), (23, .ref 5 2), (22, vb false), (21, vb false), (20, vb x9), (19, vi x8.Office), (18, .ref 5 0), (0, vl eOp aLog), (3, .own 3), (4, vi s4.1), (5, .ref 5 0), (17, .agg [vi x8.Office, vi x8.Number, vs x8.Key, vs x8.Text, vl (eI .i64) x8.Seen])], [(5, .box [vi x8.Office, vi x8.Number, vs x8.Key, vs x8.Text, vl (eI .i64) x8.Seen]), (3, .arr 2 1 s4.2.length (s4.2.map (eI .i64)))]⟩) (by kernel_rfl) ?_
  refine DGo.nil (by kernel_rfl) ?_
  replace h := Option.some.inj h
  subst h
  exact Le.sub0
  replace h := cond_f hb h
  refine DGo.chunk' tbok 5 (σ' := ⟨88, [(57, vi x8.Office), (56, .ref 5 0), (55, .own 3), (54, vi x8.Number), (53, .ref 5 1), (52, vb false), (51, vb false), (50, vb false), (49, vi (w64 (x8.Number - 1))), (48, vi x8.Number), (47, .ref 5 1), (46, vi x13), (45, .ptr (((eI .i64) x13).map .tr) 0), (44, vi x8.Office), (43, .ref 5 0), (42, vl (eI .i64) x8.Seen), (41, .ref 5 4), (40, vb false), (39, vb false), (38, vb false), (37, vb x12), (36, vl (eI .i64) x8.Seen), (35, .ref 5 4), (34, vb false), (33, vb false), (32, vb false), (31, vb x11), (30, vs x8.Text), (29, .ref 5 3), (28, vb false), (27, vb false), (26, vb false), (25, vb x10), (24, vs x8.Key), (23, .ref 5 2), (22, vb false), (21, vb false), (20, vb x9), (19, vi x8.Office), (18, .ref 5 0), (0, vl eOp aLog), (3, .own 3), (4, vi s4.1), (5, .ref 5 0), (17, .agg [vi x8.Office, vi x8.Number, vs x8.Key, vs x8.Text, vl (eI .i64) x8.Seen])], [(5, .box [vi x8.Office, vi x8.Number, vs x8.Key, vs x8.Text, vl (eI .i64) x8.Seen]), (3, .arr 2 1 s4.2.length (s4.2.map (eI .i64)))]⟩) (by kernel_rfl) ?_
  obtain ⟨x14, hx14, h⟩ := bind_some h
  refine DGo.step (x_index_own (d := 3) (L := s4.2) (f := (eI .i64)) (ti := ti32) (tj := ti2) (e := 2) (e' := 2) (m := 1) (k := .i64) tbok rfl hx14) ?_
  refine DGo.step (x_load_own (d := 3) (m := 1) (j := 0) (L := s4.2) (f := (eI .i64)) (ti := ti2) (e := 2) (v := vi x14) tbok rfl hx14) ?_
  refine DGo.chunk' tbok 3 (σ' := ⟨88, [(62, vb (x8.Number != (w64 (x14 + 1)))), (61, vb (x8.Number != (w64 (x14 + 1)))), (60, vi (w64 (x14 + 1))), (59, vi x14), (58, .eref 3 1 (Int.toNat x8.Office) 0), (57, vi x8.Office), (56, .ref 5 0), (55, .own 3), (54, vi x8.Number), (53, .ref 5 1), (52, vb false), (51, vb false), (50, vb false), (49, vi (w64 (x8.Number - 1))), (48, vi x8.Number), (47, .ref 5 1), (46, vi x13), (45, .ptr (((eI .i64) x13).map .tr) 0), (44, vi x8.Office), (43, .ref 5 0), (42, vl (eI .i64) x8.Seen), (41, .ref 5 4), (40, vb false), (39, vb false), (38, vb false), (37, vb x12), (36, vl (eI .i64) x8.Seen), (35, .ref 5 4), (34, vb false), (33, vb false), (32, vb false), (31, vb x11), (30, vs x8.Text), (29, .ref 5 3), (28, vb false), (27, vb false), (26, vb false), (25, vb x10), (24, vs x8.Key), (23, .ref 5 2), (22, vb false), (21, vb false), (20, vb x9), (19, vi x8.Office), (18, .ref 5 0), (0, vl eOp aLog), (3, .own 3), (4, vi s4.1), (5, .ref 5 0), (17, .agg [vi x8.Office, vi x8.Number, vs x8.Key, vs x8.Text, vl (eI .i64) x8.Seen])], [(5, .box [vi x8.Office, vi x8.Number, vs x8.Key, vs x8.Text, vl (eI .i64) x8.Seen]), (3, .arr 2 1 s4.2.length (s4.2.map (eI .i64)))]⟩) (by kernel_rfl) ?_
  refine DGo.nil (by kernel_rfl) ?_
  replace h := Option.some.inj h
  subst h
  exact Le.sub0
  refine swp_cond (b := j15) (by kernel_rfl) (fun hb => ?_) (fun hb => ?_)
  replace h := cond_t hb h
  refine swp_seq ?_
  refine swp_reg ?_
  refine SRun.ck tbok 1 ⟨88, [(2, vb false)], []⟩ ?_
  refine SRun.nil ?_
  refine nx_n ?_
  refine swp_ret ?_
  replace h := Option.some.inj h
  subst h
  exact nx_r (q_br (q_rr (q_rr (q_br (q_rr (q_fr (fin1 (by kernel_rfl) (finV rfl SV.flat_of (holds_t (by kernel_rfl))))))))))
  replace h := cond_f hb h
  refine swp_skip ?_
  refine nx_n ?_
  refine swp_seq ?_
  refine swp_seq ?_
  refine swp_reg ?_
  refine SRun.ck tbok 1 ⟨88, [(0, vl eOp aLog), (3, .own 3), (4, vi s4.1), (5, .ref 5 0), (6, vi 0)], [(3, .arr 2 1 s4.2.length (s4.2.map (eI .i64))), (5, .box [vi x8.Office, vi x8.Number, vs x8.Key, vs x8.Text, vl (eI .i64) x8.Seen])]⟩ ?_
  refine SRun.nil ?_
  refine nx_n ?_
  refine swp_seqE (r := v7) h (fun j17 => ⟨88, [(0, vl eOp aLog), (3, .own 3), (4, vi s4.1), (5, .ref 5 0)], [(3, .arr 2 1 s4.2.length (s4.2.map (eI .i64))), (5, .box [vi x8.Office, vi x8.Number, vs x8.Key, vs x8.Text, vl (eI .i64) x8.Seen])]⟩) (fun v18 h => ?_) (fun j17 h => ?_)
  refine swp_blk (a := v18) ?_
  refine swp_lpL (r := v18) (s := (0, ())) _ (fun s19 => ⟨88, [(0, vl eOp aLog), (3, .own 3), (4, vi s4.1), (5, .ref 5 0), (6, vi s19.1)], [(3, .arr 2 1 s4.2.length (s4.2.map (eI .i64))), (5, .box [vi x8.Office, vi x8.Number, vs x8.Key, vs x8.Text, vl (eI .i64) x8.Seen])]⟩) _ (Le.sub0) h (fun s19 v20 h => ?_)
  refine swp_seq ?_
  refine swp_seq ?_
  refine swp_reg ?_
  refine SRun.ck tbok 4 ⟨88, [(0, vl eOp aLog), (3, .own 3), (4, vi s4.1), (5, .ref 5 0), (6, vi s19.1), (66, vb (decide (s19.1 < (s4.2.length : Int))))], [(3, .arr 2 1 s4.2.length (s4.2.map (eI .i64))), (5, .box [vi x8.Office, vi x8.Number, vs x8.Key, vs x8.Text, vl (eI .i64) x8.Seen])]⟩ ?_
  refine SRun.nil ?_
  refine nx_n ?_
  refine swp_cond (b := (decide (s19.1 < (s4.2.length : Int)))) (by kernel_rfl) (fun hb => ?_) (fun hb => ?_)
  replace h := cond_t hb h
  refine swp_skip ?_
  refine nx_n ?_
  refine swp_seq ?_
  refine swp_seqL (r := v20) h (fun j21 => ⟨88, [(0, vl eOp aLog), (3, .own 3), (4, vi s4.1), (5, .ref 5 0), (6, vi s19.1)], [(3, .arr 2 1 s4.2.length (s4.2.map (eI .i64))), (5, .box [vi x8.Office, vi x8.Number, vs x8.Key, vs x8.Text, vl (eI .i64) x8.Seen])]⟩) (fun v22 h => ?_) (fun j21 h => ?_)
  refine swp_blk (a := v22) ?_
  refine swp_seq ?_
  refine swp_dr mixed ?_
  refine DGo.chunk' tbok 3 (σ' := ⟨88, [(71, vi s19.1), (70, vl (eI .i64) x8.Seen), (69, .ref 5 4), (0, vl eOp aLog), (3, .own 3), (4, vi s4.1), (5, .ref 5 0), (6, vi s19.1), (66, vb (decide (s19.1 < (s4.2.length : Int))))], [(3, .arr 2 1 s4.2.length (s4.2.map (eI .i64))), (5, .box [vi x8.Office, vi x8.Number, vs x8.Key, vs x8.Text, vl (eI .i64) x8.Seen])]⟩) (by kernel_rfl) ?_
  obtain ⟨x23, hx23, h⟩ := bind_some h
  refine DGo.step (x_index (L := x8.Seen) (f := (eI .i64)) (ti := ti32) (tj := ti2) (e := 2) (k := .i64) tbok rfl hx23) ?_
  refine DGo.chunk' tbok 3 (σ' := ⟨88, [(75, vi s19.1), (74, .own 3), (73, vi x23), (72, .ptr (((eI .i64) x23).map .tr) 0), (71, vi s19.1), (70, vl (eI .i64) x8.Seen), (69, .ref 5 4), (0, vl eOp aLog), (3, .own 3), (4, vi s4.1), (5, .ref 5 0), (6, vi s19.1), (66, vb (decide (s19.1 < (s4.2.length : Int))))], [(3, .arr 2 1 s4.2.length (s4.2.map (eI .i64))), (5, .box [vi x8.Office, vi x8.Number, vs x8.Key, vs x8.Text, vl (eI .i64) x8.Seen])]⟩) (by kernel_rfl) ?_
  obtain ⟨x24, hx24, h⟩ := bind_some h
  refine DGo.step (x_index_own (d := 3) (L := s4.2) (f := (eI .i64)) (ti := ti32) (tj := ti2) (e := 2) (e' := 2) (m := 1) (k := .i64) tbok rfl hx24) ?_
  refine DGo.step (x_load_own (d := 3) (m := 1) (j := 0) (L := s4.2) (f := (eI .i64)) (ti := ti2) (e := 2) (v := vi x24) tbok rfl hx24) ?_
  refine DGo.chunk' tbok 1 (σ' := ⟨88, [(78, vb (decide (x23 > x24))), (77, vi x24), (76, .eref 3 1 (Int.toNat s19.1) 0), (75, vi s19.1), (74, .own 3), (73, vi x23), (72, .ptr (((eI .i64) x23).map .tr) 0), (71, vi s19.1), (70, vl (eI .i64) x8.Seen), (69, .ref 5 4), (0, vl eOp aLog), (3, .own 3), (4, vi s4.1), (5, .ref 5 0), (6, vi s19.1), (66, vb (decide (s19.1 < (s4.2.length : Int))))], [(3, .arr 2 1 s4.2.length (s4.2.map (eI .i64))), (5, .box [vi x8.Office, vi x8.Number, vs x8.Key, vs x8.Text, vl (eI .i64) x8.Seen])]⟩) (by kernel_rfl) ?_
  refine DGo.nil (by kernel_rfl) ?_
  refine nx_n ?_
  refine swp_cond (b := (decide (x23 > x24))) (by kernel_rfl) (fun hb => ?_) (fun hb => ?_)
  replace h := cond_t hb h
  refine swp_seq ?_
  refine swp_reg ?_
  refine SRun.ck tbok 1 ⟨88, [(2, vb false)], []⟩ ?_
  refine SRun.nil ?_
  refine nx_n ?_
  refine swp_ret ?_
  replace h := Option.some.inj h
  subst h
  exact q_br (q_rr (q_rr (q_br (q_rr (q_br (q_rr (q_rr (q_br (q_rr (q_fr (fin1 (by kernel_rfl) (finV rfl SV.flat_of (holds_t (by kernel_rfl))))))))))))))
  replace h := cond_f hb h
  refine swp_skip ?_
  replace h := Option.some.inj h
  subst h
  exact q_bn (q_l (Le.sub0))
  refine swp_reg ?_
  refine SRun.ck tbok 3 ⟨88, [(0, vl eOp aLog), (3, .own 3), (4, vi s4.1), (5, .ref 5 0), (6, vi (w64 (s19.1 + 1)))], [(3, .arr 2 1 s4.2.length (s4.2.map (eI .i64))), (5, .box [vi x8.Office, vi x8.Number, vs x8.Key, vs x8.Text, vl (eI .i64) x8.Seen])]⟩ ?_
  refine SRun.nil ?_
  replace h := Option.some.inj h
  subst h
  exact q_l (Le.sub0)
  replace h := cond_f hb h
  refine swp_exit ?_
  replace h := Option.some.inj h
  subst h
  exact nx_e (q_re (q_bh (q_l (Le.sub0))))
  refine swp_reg ?_
  refine SRun.ck tbok 5 ⟨88, [(0, vl eOp aLog), (3, .own 3), (4, vi s4.1), (79, .own 3), (81, vi x8.Office), (83, vi x8.Number)], [(3, .arr 2 1 s4.2.length (s4.2.map (eI .i64)))]⟩ ?_
  obtain ⟨x25, hx25, h⟩ := bind_some h
  refine SRun.ls (x_index_own (d := 3) (L := s4.2) (f := (eI .i64)) (ti := ti32) (tj := ti2) (e := 2) (e' := 2) (m := 1) (k := .i64) tbok rfl hx25) ?_
  refine SRun.estep (x_store_own (d := 3) (m := 1) (j := 0) (L := s4.2) (f := (eI .i64)) (x := x8.Number) (z := x25) (ti := ti2) (e := 2) (ts := [.int .i64 x8.Number]) (vs := [vi x8.Number]) (v := vi x8.Number) tbok rfl rfl hx25) ?_
  refine SRun.nil ?_
  replace h := Option.some.inj h
  subst h
  exact q_bn (q_l (Le.sub0))
  refine swp_reg ?_
  refine SRun.ck tbok 3 ⟨88, [(0, vl eOp aLog), (3, .own 3), (4, vi (w64 (s4.1 + 1)))], [(3, .arr 2 1 j6.length (j6.map (eI .i64)))]⟩ ?_
  refine SRun.nil ?_
  replace h := Option.some.inj h
  subst h
  exact q_l (Le.sub0)
  replace h := cond_f hb h
  refine swp_exit ?_
  replace h := Option.some.inj h
  subst h
  exact nx_e (q_re (q_bh (q_l (Le.sub0))))
  refine swp_seq ?_
  refine swp_reg ?_
  refine SRun.ck tbok 4 ⟨88, [(2, vb (decide ((aLog.length : Int) ≤ 16)))], []⟩ ?_
  refine SRun.nil ?_
  refine nx_n ?_
  refine swp_ret ?_
  replace h := Option.some.inj h
  subst h
  exact q_fr (fin1 (by kernel_rfl) (finV rfl SV.flat_of (holds_t (by kernel_rfl))))
theorem ents13 : Ents Tryd.prog 13 := ents_of Tryd.func13 (by kernel_rfl) rfl
noncomputable def impl_within (aX : Int) (aLow : Int) (aHigh : Int) : Option (Bool) :=
  some ((decide (aX ≥ aLow)) && (decide (aX ≤ aHigh)))
set_option maxRecDepth 100000 in
set_option maxHeartbeats 4000000 in
theorem impl_within_run (aX : Int) (aLow : Int) (aHigh : Int) (r : Bool) (h : impl_within aX aLow aHigh = some r) : SCall Tryd.prog 64 [.v (vi aX), .v (vi aLow), .v (vi aHigh)] ⟨[.v (vb r)], [], false⟩ := by
  refine scall_in Tryd.func64 rfl [(.tmp 6)] rfl (fun r => ⟨[.v (vb r)], [], false⟩) (r := r) ?_
  unfold impl_within at h
  refine swp_seq ?_
  refine swp_reg ?_
  refine SRun.ck tbok 1 ⟨15, [(0, vi aX), (1, vi aLow), (2, vi aHigh)], []⟩ ?_
  refine SRun.nil ?_
  refine nx_n ?_
  refine swp_seq ?_
  refine swp_regP ⟨15, [(6, vb ((decide (aX ≥ aLow)) && (decide (aX ≤ aHigh))))], []⟩ ?_ ?_
  refine SRun.ck tbok 4 ⟨15, [(0, vi aX), (2, vi aHigh), (10, vb (decide (aX ≥ aLow)))], []⟩ ?_
  generalize (decide (aX ≥ aLow)) = bb
  cases bb
  refine SRun.ck tbok 5 ⟨15, [(6, vb false)], []⟩ ?_
  exact SRun.nil (Le.sub0)
  refine SRun.ck tbok 5 ⟨15, [(6, vb (decide (aX ≤ aHigh)))], []⟩ ?_
  exact SRun.nil (Le.sub0)
  refine swp_ret ?_
  replace h := Option.some.inj h
  subst h
  exact q_fr (fin1 (by kernel_rfl) (finV rfl SV.flat_of (holds_t (by kernel_rfl))))
theorem ents64 : Ents Tryd.prog 64 := ents_of Tryd.func64 (by kernel_rfl) rfl
theorem strings_Trim_run (s c r : ByteArray) (h : strings_Trim s c = some r) : SCall Tryd.prog 103 [.v (.tr (.str s)), .v (.tr (.str c))] ⟨[.v (.tr (.str r))], [], false⟩ := trim_run Tryd.lays160 (by kernel_rfl) 103 rfl s c r h
theorem ents103 : Ents Tryd.prog 103 := ents_of Tryd.func103 (by kernel_rfl) rfl
noncomputable def impl_isSmall (aS : ByteArray) (aLeast : Int) (aMost : Int) : Option (Bool) :=
  ((((impl_within (aS.size : Int) aLeast aMost).bind fun x1 => (bif x1 then ((strings_Trim aS (ByteArray.mk #[97, 98, 99, 100, 101, 102, 103, 104, 105, 106, 107, 108, 109, 110, 111, 112, 113, 114, 115, 116, 117, 118, 119, 120, 121, 122])).bind fun x2 => some (x2.toList == (ByteArray.mk #[]).toList)) else some false))).bind fun (j3 : Bool) => some j3)
set_option maxRecDepth 100000 in
set_option maxHeartbeats 4000000 in
theorem impl_isSmall_run (aS : ByteArray) (aLeast : Int) (aMost : Int) (r : Bool) (h : impl_isSmall aS aLeast aMost = some r) : SCall Tryd.prog 98 [.v (vs aS), .v (vi aLeast), .v (vi aMost)] ⟨[.v (vb r)], [], false⟩ := by
  refine scall_in Tryd.func98 rfl [(.tmp 6)] rfl (fun r => ⟨[.v (vb r)], [], false⟩) (r := r) ?_
  unfold impl_isSmall at h
  refine swp_seq ?_
  refine swp_reg ?_
  refine SRun.ck tbok 1 ⟨17, [(0, vs aS), (1, vi aLeast), (2, vi aMost)], []⟩ ?_
  refine SRun.nil ?_
  refine nx_n ?_
  refine swp_seq ?_
  refine swp_regJ h (fun j3 => ⟨17, [(6, vb j3)], []⟩) (fun v4 h => ?_) (fun j3 h => ?_)
  refine SRun.ck tbok 4 ⟨17, [(0, vs aS), (8, vi (aS.size : Int)), (9, vi aLeast), (10, vi aMost)], []⟩ ?_
  obtain ⟨x1, hx1, h⟩ := bind_some h
  refine SRun.ls (x_lstep_call (f := 64) (caps := []) (xs := [vi (aS.size : Int), vi aLeast, vi aMost]) (ys := [vi (aS.size : Int), vi aLeast, vi aMost]) (res := ⟨[.v (vb x1)], [], false⟩) (x := vb x1) (y := none) rfl ents64 (impl_within_run (aS.size : Int) aLeast aMost _ hx1) rfl (by intro hc; cases hc)) ?_
  refine SRun.ck tbok 1 ⟨17, [(0, vs aS), (12, vb x1)], []⟩ ?_
  refine SRun.cut [(12, fun b => b)] (b := x1) (by kernel_rfl) (fun hb => ?_) (fun hb => ?_)
  replace h := cond_t hb h
  refine SRun.ck tbok 1 ⟨17, [(12, vb true), (13, vs aS)], []⟩ ?_
  obtain ⟨x2, hx2, h⟩ := bind_some h
  refine SRun.ls (x_lstep_call (f := 103) (caps := []) (xs := [vs aS, vs (ByteArray.mk #[97, 98, 99, 100, 101, 102, 103, 104, 105, 106, 107, 108, 109, 110, 111, 112, 113, 114, 115, 116, 117, 118, 119, 120, 121, 122])]) (ys := [vs aS, vs (ByteArray.mk #[97, 98, 99, 100, 101, 102, 103, 104, 105, 106, 107, 108, 109, 110, 111, 112, 113, 114, 115, 116, 117, 118, 119, 120, 121, 122])]) (res := ⟨[.v (vs x2)], [], false⟩) (x := vs x2) (y := none) rfl ents103 (strings_Trim_run aS (ByteArray.mk #[97, 98, 99, 100, 101, 102, 103, 104, 105, 106, 107, 108, 109, 110, 111, 112, 113, 114, 115, 116, 117, 118, 119, 120, 121, 122]) _ hx2) rfl (by intro hc; cases hc)) ?_
  refine SRun.ck tbok 3 ⟨17, [(6, vb (x2.toList == (ByteArray.mk #[]).toList))], []⟩ ?_
  refine SRun.nil ?_
  replace h := Option.some.inj h
  subst h
  exact Le.sub0
  replace h := cond_f hb h
  refine SRun.ck tbok 5 ⟨17, [(6, vb false)], []⟩ ?_
  refine SRun.nil ?_
  replace h := Option.some.inj h
  subst h
  exact Le.sub0
  refine swp_ret ?_
  replace h := Option.some.inj h
  subst h
  exact q_fr (fin1 (by kernel_rfl) (finV rfl SV.flat_of (holds_t (by kernel_rfl))))
theorem ents98 : Ents Tryd.prog 98 := ents_of Tryd.func98 (by kernel_rfl) rfl
noncomputable def impl_IsWord (aS : ByteArray) : Option (Bool) :=
  ((impl_isSmall aS 1 16).bind fun x1 => some x1)
set_option maxRecDepth 100000 in
set_option maxHeartbeats 4000000 in
theorem impl_IsWord_run (aS : ByteArray) (r : Bool) (h : impl_IsWord aS = some r) : SCall Tryd.prog 80 [.v (vs aS)] ⟨[.v (vb r)], [], false⟩ := by
  refine scall_in Tryd.func80 rfl [(.tmp 2)] rfl (fun r => ⟨[.v (vb r)], [], false⟩) (r := r) ?_
  unfold impl_IsWord at h
  refine swp_seq ?_
  refine swp_reg ?_
  refine SRun.ck tbok 1 ⟨5, [(0, vs aS)], []⟩ ?_
  refine SRun.nil ?_
  refine nx_n ?_
  refine swp_seq ?_
  refine swp_reg ?_
  refine SRun.ck tbok 1 ⟨5, [(3, vs aS)], []⟩ ?_
  obtain ⟨x1, hx1, h⟩ := bind_some h
  refine SRun.ls (x_lstep_call (f := 98) (caps := []) (xs := [vs aS, vi 1, vi 16]) (ys := [vs aS, vi 1, vi 16]) (res := ⟨[.v (vb x1)], [], false⟩) (x := vb x1) (y := none) rfl ents98 (impl_isSmall_run aS 1 16 _ hx1) rfl (by intro hc; cases hc)) ?_
  refine SRun.ck tbok 1 ⟨5, [(2, vb x1)], []⟩ ?_
  refine SRun.nil ?_
  refine nx_n ?_
  refine swp_ret ?_
  replace h := Option.some.inj h
  subst h
  exact q_fr (fin1 (by kernel_rfl) (finV rfl SV.flat_of (holds_t (by kernel_rfl))))
theorem ents80 : Ents Tryd.prog 80 := ents_of Tryd.func80 (by kernel_rfl) rfl
theorem strings_Split_run (s c : ByteArray) (r : List ByteArray) (h : strings_Split s c = some r) : SCall Tryd.prog 104 [.v (.tr (.str s)), .v (.tr (.str c))] ⟨[.own 9 1 r.length (r.map eS)], [], false⟩ := split_run Tryd.lays146 (by kernel_rfl) 104 9 rfl rfl s c r h
theorem ents104 : Ents Tryd.prog 104 := ents_of Tryd.func104 (by kernel_rfl) rfl
noncomputable def impl_wordsOf (aS : ByteArray) : Option ((List ByteArray)) :=
  ((strings_Split aS (ByteArray.mk #[32])).bind fun x1 => some x1)
set_option maxRecDepth 100000 in
set_option maxHeartbeats 4000000 in
theorem impl_wordsOf_run (aS : ByteArray) (r : (List ByteArray)) (h : impl_wordsOf aS = some r) : SCall Tryd.prog 99 [.v (vs aS)] ⟨[.own 9 1 r.length (r.map eS)], [], false⟩ := by
  refine scall_in Tryd.func99 rfl [(.tmp 2)] rfl (fun r => ⟨[.own 9 1 r.length (r.map eS)], [], false⟩) (r := r) ?_
  unfold impl_wordsOf at h
  refine swp_seq ?_
  refine swp_reg ?_
  refine SRun.ck tbok 1 ⟨5, [(0, vs aS)], []⟩ ?_
  refine SRun.nil ?_
  refine nx_n ?_
  refine swp_seq ?_
  refine swp_reg ?_
  refine SRun.ck tbok 1 ⟨5, [(3, vs aS)], []⟩ ?_
  obtain ⟨x1, hx1, h⟩ := bind_some h
  refine SRun.ls (x_lstep_call (f := 104) (caps := []) (xs := [vs aS, vs (ByteArray.mk #[32])]) (ys := [vs aS, vs (ByteArray.mk #[32])]) (res := ⟨[.own 9 1 x1.length (x1.map eS)], [], false⟩) (x := .own 4) (y := some (.arr 9 1 x1.length (x1.map eS))) rfl ents104 (strings_Split_run aS (ByteArray.mk #[32]) _ hx1) rfl (by intro hc; cases hc)) ?_
  refine SRun.ck tbok 1 ⟨5, [(2, .own 4)], [(4, .arr 9 1 x1.length (x1.map eS))]⟩ ?_
  refine SRun.nil ?_
  refine nx_n ?_
  refine swp_ret ?_
  replace h := Option.some.inj h
  subst h
  exact q_fr (fin1 (by kernel_rfl) (finO (d := 4) (holds_t (by kernel_rfl)) (by kernel_rfl) (flat_map eS_flat _) (by kernel_rfl)))
theorem ents99 : Ents Tryd.prog 99 := ents_of Tryd.func99 (by kernel_rfl) rfl
noncomputable def impl_areWords (aList : (List ByteArray)) : Option (Bool) :=
  (((forN (aList.length : Int) (fun (i3 : Int) (_ : Unit) => ((at' aList i3).bind fun x7 => ((impl_IsWord x7).bind fun x8 => (bif (!x8) then some (.inr (.inr false)) else some (.inl ()))))) (fun (_ : Unit) => .inl ()) 0 ())).bind (Sum.elim (fun (_ : Unit) => some true) some))
set_option maxRecDepth 100000 in
set_option maxHeartbeats 4000000 in
theorem impl_areWords_run (aList : (List ByteArray)) (r : Bool) (h : impl_areWords aList = some r) : SCall Tryd.prog 100 [.v (vl eS aList)] ⟨[.v (vb r)], [], false⟩ := by
  refine scall_in Tryd.func100 rfl [(.tmp 2)] rfl (fun r => ⟨[.v (vb r)], [], false⟩) (r := r) ?_
  unfold impl_areWords at h
  refine swp_seq ?_
  refine swp_reg ?_
  refine SRun.ck tbok 1 ⟨15, [(0, vl eS aList)], []⟩ ?_
  refine SRun.nil ?_
  refine nx_n ?_
  refine swp_seq ?_
  refine swp_seq ?_
  refine swp_reg ?_
  refine SRun.ck tbok 3 ⟨15, [(5, vl eS aList), (6, vi (aList.length : Int)), (7, vi 0)], []⟩ ?_
  refine SRun.nil ?_
  refine nx_n ?_
  refine swp_seqE (r := r) h (fun j1 => ⟨15, [], []⟩) (fun v2 h => ?_) (fun j1 h => ?_)
  refine swp_blk (a := v2) ?_
  refine swp_lpL (r := v2) (s := (0, ())) _ (fun s3 => ⟨15, [(5, vl eS aList), (6, vi (aList.length : Int)), (7, vi s3.1)], []⟩) _ (Le.sub0) h (fun s3 v4 h => ?_)
  refine swp_seq ?_
  refine swp_reg ?_
  refine SRun.ck tbok 1 ⟨15, [(5, vl eS aList), (6, vi (aList.length : Int)), (7, vi s3.1), (8, vb (decide (s3.1 < (aList.length : Int))))], []⟩ ?_
  refine SRun.nil ?_
  refine nx_n ?_
  refine swp_seq ?_
  refine swp_cond (b := (decide (s3.1 < (aList.length : Int)))) (by kernel_rfl) (fun hb => ?_) (fun hb => ?_)
  replace h := cond_t hb h
  refine swp_skip ?_
  refine nx_n ?_
  refine swp_seq ?_
  refine swp_seqL (r := v4) h (fun j5 => ⟨15, [(5, vl eS aList), (6, vi (aList.length : Int)), (7, vi s3.1)], []⟩) (fun v6 h => ?_) (fun j5 h => ?_)
  refine swp_blk (a := v6) ?_
  refine swp_seq ?_
  refine swp_reg ?_
  obtain ⟨x7, hx7, h⟩ := bind_some h
  refine SRun.ls (x_index (L := aList) (f := eS) (ti := ti86) (tj := ti9) (e := 9) (k := .i64) tbok rfl hx7) ?_
  refine SRun.ck tbok 2 ⟨15, [(4, vs x7), (5, vl eS aList), (6, vi (aList.length : Int)), (7, vi s3.1)], []⟩ ?_
  refine SRun.nil ?_
  refine nx_n ?_
  refine swp_seq ?_
  refine swp_reg ?_
  refine SRun.ck tbok 1 ⟨15, [(5, vl eS aList), (6, vi (aList.length : Int)), (7, vi s3.1), (11, vs x7)], []⟩ ?_
  obtain ⟨x8, hx8, h⟩ := bind_some h
  refine SRun.ls (x_lstep_call (f := 80) (caps := []) (xs := [vs x7]) (ys := [vs x7]) (res := ⟨[.v (vb x8)], [], false⟩) (x := vb x8) (y := none) rfl ents80 (impl_IsWord_run x7 _ hx8) rfl (by intro hc; cases hc)) ?_
  refine SRun.ck tbok 1 ⟨15, [(5, vl eS aList), (6, vi (aList.length : Int)), (7, vi s3.1), (13, vb (!x8))], []⟩ ?_
  refine SRun.nil ?_
  refine nx_n ?_
  refine swp_cond (b := (!x8)) (by kernel_rfl) (fun hb => ?_) (fun hb => ?_)
  replace h := cond_t hb h
  refine swp_seq ?_
  refine swp_reg ?_
  refine SRun.ck tbok 1 ⟨15, [(2, vb false)], []⟩ ?_
  refine SRun.nil ?_
  refine nx_n ?_
  refine swp_ret ?_
  replace h := Option.some.inj h
  subst h
  exact q_br (q_rr (q_rr (q_br (q_rr (q_fr (fin1 (by kernel_rfl) (finV rfl SV.flat_of (holds_t (by kernel_rfl)))))))))
  replace h := cond_f hb h
  refine swp_skip ?_
  replace h := Option.some.inj h
  subst h
  exact q_bn (q_l (Le.sub0))
  refine swp_reg ?_
  refine SRun.ck tbok 2 ⟨15, [(5, vl eS aList), (6, vi (aList.length : Int)), (7, vi (w64 (s3.1 + 1)))], []⟩ ?_
  refine SRun.nil ?_
  replace h := Option.some.inj h
  subst h
  exact q_l (Le.sub0)
  replace h := cond_f hb h
  refine swp_exit ?_
  replace h := Option.some.inj h
  subst h
  exact nx_e (q_re (q_bh (q_l (Le.sub0))))
  refine swp_seq ?_
  refine swp_reg ?_
  refine SRun.ck tbok 1 ⟨15, [(2, vb true)], []⟩ ?_
  refine SRun.nil ?_
  refine nx_n ?_
  refine swp_ret ?_
  replace h := Option.some.inj h
  subst h
  exact q_fr (fin1 (by kernel_rfl) (finV rfl SV.flat_of (holds_t (by kernel_rfl))))
theorem ents100 : Ents Tryd.prog 100 := ents_of Tryd.func100 (by kernel_rfl) rfl
noncomputable def impl_IsPhrase (aS : ByteArray) : Option (Bool) :=
  ((impl_wordsOf aS).bind fun x1 => (((bif (decide ((x1.length : Int) ≤ 8)) then ((impl_areWords x1).bind fun x2 => some x2) else some false)).bind fun (j3 : Bool) => some j3))
set_option maxRecDepth 100000 in
set_option maxHeartbeats 4000000 in
theorem impl_IsPhrase_run (aS : ByteArray) (r : Bool) (h : impl_IsPhrase aS = some r) : SCall Tryd.prog 81 [.v (vs aS)] ⟨[.v (vb r)], [], false⟩ := by
  refine scall_in Tryd.func81 rfl [(.tmp 2)] rfl (fun r => ⟨[.v (vb r)], [], false⟩) (r := r) ?_
  unfold impl_IsPhrase at h
  refine swp_seq ?_
  refine swp_reg ?_
  refine SRun.ck tbok 1 ⟨13, [(0, vs aS)], []⟩ ?_
  refine SRun.nil ?_
  refine nx_n ?_
  refine swp_seq ?_
  refine swp_reg ?_
  refine SRun.ck tbok 1 ⟨13, [(4, vs aS)], []⟩ ?_
  obtain ⟨x1, hx1, h⟩ := bind_some h
  refine SRun.ls (x_lstep_call (f := 99) (caps := []) (xs := [vs aS]) (ys := [vs aS]) (res := ⟨[.own 9 1 x1.length (x1.map eS)], [], false⟩) (x := .own 5) (y := some (.arr 9 1 x1.length (x1.map eS))) rfl ents99 (impl_wordsOf_run aS _ hx1) rfl (by intro hc; cases hc)) ?_
  refine SRun.ck tbok 1 ⟨13, [(3, .own 5)], [(5, .arr 9 1 x1.length (x1.map eS))]⟩ ?_
  refine SRun.nil ?_
  refine nx_n ?_
  refine swp_seq ?_
  refine swp_regJ h (fun j3 => ⟨13, [(2, vb j3)], []⟩) (fun v4 h => ?_) (fun j3 h => ?_)
  refine SRun.ck tbok 4 ⟨13, [(3, .own 5), (9, vb (decide ((x1.length : Int) ≤ 8)))], [(5, .arr 9 1 x1.length (x1.map eS))]⟩ ?_
  refine SRun.cut [(9, fun b => b)] (b := (decide ((x1.length : Int) ≤ 8))) (by kernel_rfl) (fun hb => ?_) (fun hb => ?_)
  replace h := cond_t hb h
  refine SRun.ck tbok 1 ⟨13, [(9, vb true), (10, .own 5)], [(5, .arr 9 1 x1.length (x1.map eS))]⟩ ?_
  obtain ⟨x2, hx2, h⟩ := bind_some h
  refine SRun.ls (x_lstep_call (f := 100) (caps := []) (xs := [.own 5]) (ys := [vl eS x1]) (res := ⟨[.v (vb x2)], [], false⟩) (x := vb x2) (y := none) rfl ents100 (impl_areWords_run x1 _ hx2) rfl (by intro hc; cases hc)) ?_
  refine SRun.ck tbok 2 ⟨13, [(2, vb x2)], []⟩ ?_
  refine SRun.nil ?_
  replace h := Option.some.inj h
  subst h
  exact Le.sub0
  replace h := cond_f hb h
  refine SRun.ck tbok 4 ⟨13, [(2, vb false)], []⟩ ?_
  refine SRun.nil ?_
  replace h := Option.some.inj h
  subst h
  exact Le.sub0
  refine swp_ret ?_
  replace h := Option.some.inj h
  subst h
  exact q_fr (fin1 (by kernel_rfl) (finV rfl SV.flat_of (holds_t (by kernel_rfl))))
theorem ents81 : Ents Tryd.prog 81 := ents_of Tryd.func81 (by kernel_rfl) rfl
noncomputable def impl_isVector_1 (aN : Int) : Option (Bool) :=
  some (decide (aN < 0))
set_option maxRecDepth 100000 in
set_option maxHeartbeats 4000000 in
theorem impl_isVector_1_run (aN : Int) (r : Bool) (h : impl_isVector_1 aN = some r) : SCall Tryd.prog 83 [.v (vi aN)] ⟨[.v (vb r)], [], false⟩ := by
  refine scall_in Tryd.func83 rfl [(.tmp 2)] rfl (fun r => ⟨[.v (vb r)], [], false⟩) (r := r) ?_
  unfold impl_isVector_1 at h
  refine swp_seq ?_
  refine swp_reg ?_
  refine SRun.ck tbok 1 ⟨5, [(0, vi aN)], []⟩ ?_
  refine SRun.nil ?_
  refine nx_n ?_
  refine swp_seq ?_
  refine swp_reg ?_
  refine SRun.ck tbok 3 ⟨5, [(2, vb (decide (aN < 0)))], []⟩ ?_
  refine SRun.nil ?_
  refine nx_n ?_
  refine swp_ret ?_
  replace h := Option.some.inj h
  subst h
  exact q_fr (fin1 (by kernel_rfl) (finV rfl SV.flat_of (holds_t (by kernel_rfl))))
theorem ents83 : Ents Tryd.prog 83 := ents_of Tryd.func83 (by kernel_rfl) rfl
noncomputable def slices_IndexFunc_int64_impl_isVector_1 (aS : (List Int)) : Option (Int) :=
  (((forN (aS.length : Int) (fun (i3 : Int) (_ : Unit) => ((at' aS i3).bind fun x7 => ((impl_isVector_1 x7).bind fun x8 => (bif x8 then some (.inr (.inr i3)) else some (.inl ()))))) (fun (_ : Unit) => .inl ()) 0 ())).bind (Sum.elim (fun (_ : Unit) => some (-1)) some))
set_option maxRecDepth 100000 in
set_option maxHeartbeats 4000000 in
theorem slices_IndexFunc_int64_impl_isVector_1_run (aS : (List Int)) (r : Int) (h : slices_IndexFunc_int64_impl_isVector_1 aS = some r) : SCall Tryd.prog 101 [.v (vl (eI .i64) aS), .v (.clo 83 [])] ⟨[.v (vi r)], [], false⟩ := by
  refine scall_in Tryd.func101 rfl [(.tmp 4)] rfl (fun r => ⟨[.v (vi r)], [], false⟩) (r := r) ?_
  unfold slices_IndexFunc_int64_impl_isVector_1 at h
  refine swp_seq ?_
  refine swp_reg ?_
  refine SRun.ck tbok 1 ⟨19, [(0, vl (eI .i64) aS), (1, .clo 83 [])], []⟩ ?_
  refine SRun.nil ?_
  refine nx_n ?_
  refine swp_seq ?_
  refine swp_seq ?_
  refine swp_reg ?_
  refine SRun.ck tbok 3 ⟨19, [(0, vl (eI .i64) aS), (1, .clo 83 []), (7, vi (aS.length : Int)), (8, vi 0)], []⟩ ?_
  refine SRun.nil ?_
  refine nx_n ?_
  refine swp_seqE (r := r) h (fun j1 => ⟨19, [], []⟩) (fun v2 h => ?_) (fun j1 h => ?_)
  refine swp_blk (a := v2) ?_
  refine swp_lpL (r := v2) (s := (0, ())) _ (fun s3 => ⟨19, [(0, vl (eI .i64) aS), (1, .clo 83 []), (7, vi (aS.length : Int)), (8, vi s3.1)], []⟩) _ (Le.sub0) h (fun s3 v4 h => ?_)
  refine swp_seq ?_
  refine swp_reg ?_
  refine SRun.ck tbok 1 ⟨19, [(0, vl (eI .i64) aS), (1, .clo 83 []), (7, vi (aS.length : Int)), (8, vi s3.1), (9, vb (decide (s3.1 < (aS.length : Int))))], []⟩ ?_
  refine SRun.nil ?_
  refine nx_n ?_
  refine swp_seq ?_
  refine swp_cond (b := (decide (s3.1 < (aS.length : Int)))) (by kernel_rfl) (fun hb => ?_) (fun hb => ?_)
  replace h := cond_t hb h
  refine swp_skip ?_
  refine nx_n ?_
  refine swp_seq ?_
  refine swp_seqL (r := v4) h (fun j5 => ⟨19, [(0, vl (eI .i64) aS), (1, .clo 83 []), (7, vi (aS.length : Int)), (8, vi s3.1)], []⟩) (fun v6 h => ?_) (fun j5 h => ?_)
  refine swp_blk (a := v6) ?_
  refine swp_seq ?_
  refine swp_reg ?_
  refine SRun.ck tbok 2 ⟨19, [(0, vl (eI .i64) aS), (1, .clo 83 []), (5, vi s3.1), (7, vi (aS.length : Int)), (8, vi s3.1)], []⟩ ?_
  refine SRun.nil ?_
  refine nx_n ?_
  refine swp_seq ?_
  refine swp_reg ?_
  refine SRun.ck tbok 3 ⟨19, [(0, vl (eI .i64) aS), (1, .clo 83 []), (5, vi s3.1), (7, vi (aS.length : Int)), (8, vi s3.1), (11, .clo 83 []), (12, vl (eI .i64) aS), (13, vi s3.1)], []⟩ ?_
  obtain ⟨x7, hx7, h⟩ := bind_some h
  refine SRun.ls (x_index (L := aS) (f := (eI .i64)) (ti := ti32) (tj := ti2) (e := 2) (k := .i64) tbok rfl hx7) ?_
  refine SRun.ck tbok 1 ⟨19, [(0, vl (eI .i64) aS), (1, .clo 83 []), (5, vi s3.1), (7, vi (aS.length : Int)), (8, vi s3.1), (11, .clo 83 []), (15, vi x7)], []⟩ ?_
  obtain ⟨x8, hx8, h⟩ := bind_some h
  refine SRun.ls (x_lstep_call (f := 83) (caps := []) (xs := [vi x7]) (ys := [vi x7]) (res := ⟨[.v (vb x8)], [], false⟩) (x := vb x8) (y := none) rfl ents83 (impl_isVector_1_run x7 _ hx8) rfl (by intro hc; cases hc)) ?_
  refine SRun.nil ?_
  refine nx_n ?_
  refine swp_cond (b := x8) (by kernel_rfl) (fun hb => ?_) (fun hb => ?_)
  replace h := cond_t hb h
  refine swp_seq ?_
  refine swp_reg ?_
  refine SRun.ck tbok 2 ⟨19, [(4, vi s3.1)], []⟩ ?_
  refine SRun.nil ?_
  refine nx_n ?_
  refine swp_ret ?_
  replace h := Option.some.inj h
  subst h
  exact q_br (q_rr (q_rr (q_br (q_rr (q_fr (fin1 (by kernel_rfl) (finV rfl SV.flat_of (holds_t (by kernel_rfl)))))))))
  replace h := cond_f hb h
  refine swp_skip ?_
  replace h := Option.some.inj h
  subst h
  exact q_bn (q_l (Le.sub0))
  refine swp_reg ?_
  refine SRun.ck tbok 2 ⟨19, [(0, vl (eI .i64) aS), (1, .clo 83 []), (7, vi (aS.length : Int)), (8, vi (w64 (s3.1 + 1)))], []⟩ ?_
  refine SRun.nil ?_
  replace h := Option.some.inj h
  subst h
  exact q_l (Le.sub0)
  replace h := cond_f hb h
  refine swp_exit ?_
  replace h := Option.some.inj h
  subst h
  exact nx_e (q_re (q_bh (q_l (Le.sub0))))
  refine swp_seq ?_
  refine swp_reg ?_
  refine SRun.ck tbok 1 ⟨19, [(4, vi (-1))], []⟩ ?_
  refine SRun.nil ?_
  refine nx_n ?_
  refine swp_ret ?_
  replace h := Option.some.inj h
  subst h
  exact q_fr (fin1 (by kernel_rfl) (finV rfl SV.flat_of (holds_t (by kernel_rfl))))
theorem ents101 : Ents Tryd.prog 101 := ents_of Tryd.func101 (by kernel_rfl) rfl
noncomputable def slices_ContainsFunc_int64_impl_isVector_1 (aS : (List Int)) : Option (Bool) :=
  ((slices_IndexFunc_int64_impl_isVector_1 aS).bind fun x1 => some (decide (x1 ≥ 0)))
set_option maxRecDepth 100000 in
set_option maxHeartbeats 4000000 in
theorem slices_ContainsFunc_int64_impl_isVector_1_run (aS : (List Int)) (r : Bool) (h : slices_ContainsFunc_int64_impl_isVector_1 aS = some r) : SCall Tryd.prog 82 [.v (vl (eI .i64) aS), .v (.clo 83 [])] ⟨[.v (vb r)], [], false⟩ := by
  refine scall_in Tryd.func82 rfl [(.tmp 4)] rfl (fun r => ⟨[.v (vb r)], [], false⟩) (r := r) ?_
  unfold slices_ContainsFunc_int64_impl_isVector_1 at h
  refine swp_seq ?_
  refine swp_reg ?_
  refine SRun.ck tbok 1 ⟨9, [(0, vl (eI .i64) aS), (1, .clo 83 [])], []⟩ ?_
  refine SRun.nil ?_
  refine nx_n ?_
  refine swp_seq ?_
  refine swp_reg ?_
  refine SRun.ck tbok 2 ⟨9, [(5, vl (eI .i64) aS), (6, .clo 83 [])], []⟩ ?_
  obtain ⟨x1, hx1, h⟩ := bind_some h
  refine SRun.ls (x_lstep_call (f := 101) (caps := []) (xs := [vl (eI .i64) aS, .clo 83 []]) (ys := [vl (eI .i64) aS, .clo 83 []]) (res := ⟨[.v (vi x1)], [], false⟩) (x := vi x1) (y := none) rfl ents101 (slices_IndexFunc_int64_impl_isVector_1_run aS _ hx1) rfl (by intro hc; cases hc)) ?_
  refine SRun.ck tbok 2 ⟨9, [(4, vb (decide (x1 ≥ 0)))], []⟩ ?_
  refine SRun.nil ?_
  refine nx_n ?_
  refine swp_ret ?_
  replace h := Option.some.inj h
  subst h
  exact q_fr (fin1 (by kernel_rfl) (finV rfl SV.flat_of (holds_t (by kernel_rfl))))
theorem ents82 : Ents Tryd.prog 82 := ents_of Tryd.func82 (by kernel_rfl) rfl
noncomputable def impl_isVector (aList : (List Int)) : Option (Bool) :=
  (((bif ((aList.length : Int) == 4) then ((slices_ContainsFunc_int64_impl_isVector_1 aList).bind fun x1 => some (!x1)) else some false)).bind fun (j2 : Bool) => some j2)
set_option maxRecDepth 100000 in
set_option maxHeartbeats 4000000 in
theorem impl_isVector_run (aList : (List Int)) (r : Bool) (h : impl_isVector aList = some r) : SCall Tryd.prog 58 [.v (vl (eI .i64) aList)] ⟨[.v (vb r)], [], false⟩ := by
  refine scall_in Tryd.func58 rfl [(.tmp 2)] rfl (fun r => ⟨[.v (vb r)], [], false⟩) (r := r) ?_
  unfold impl_isVector at h
  refine swp_seq ?_
  refine swp_reg ?_
  refine SRun.ck tbok 1 ⟨11, [(0, vl (eI .i64) aList)], []⟩ ?_
  refine SRun.nil ?_
  refine nx_n ?_
  refine swp_seq ?_
  refine swp_regJ h (fun j2 => ⟨11, [(2, vb j2)], []⟩) (fun v3 h => ?_) (fun j2 h => ?_)
  refine SRun.ck tbok 4 ⟨11, [(0, vl (eI .i64) aList), (6, vb ((aList.length : Int) == 4))], []⟩ ?_
  refine SRun.cut [(6, fun b => b)] (b := ((aList.length : Int) == 4)) (by kernel_rfl) (fun hb => ?_) (fun hb => ?_)
  replace h := cond_t hb h
  refine SRun.ck tbok 1 ⟨11, [(6, vb true), (7, vl (eI .i64) aList)], []⟩ ?_
  obtain ⟨x1, hx1, h⟩ := bind_some h
  refine SRun.ls (x_lstep_call (f := 82) (caps := []) (xs := [vl (eI .i64) aList, .clo 83 []]) (ys := [vl (eI .i64) aList, .clo 83 []]) (res := ⟨[.v (vb x1)], [], false⟩) (x := vb x1) (y := none) rfl ents82 (slices_ContainsFunc_int64_impl_isVector_1_run aList _ hx1) rfl (by intro hc; cases hc)) ?_
  refine SRun.ck tbok 3 ⟨11, [(2, vb (!x1))], []⟩ ?_
  refine SRun.nil ?_
  replace h := Option.some.inj h
  subst h
  exact Le.sub0
  replace h := cond_f hb h
  refine SRun.ck tbok 5 ⟨11, [(2, vb false)], []⟩ ?_
  refine SRun.nil ?_
  replace h := Option.some.inj h
  subst h
  exact Le.sub0
  refine swp_ret ?_
  replace h := Option.some.inj h
  subst h
  exact q_fr (fin1 (by kernel_rfl) (finV rfl SV.flat_of (holds_t (by kernel_rfl))))
theorem ents58 : Ents Tryd.prog 58 := ents_of Tryd.func58 (by kernel_rfl) rfl
noncomputable def impl_isOp (aX : Op) : Option (Bool) :=
  ((((impl_within aX.Office 0 3).bind fun x1 => (bif x1 then (bif (decide (aX.Number ≥ 1)) then ((impl_IsWord aX.Key).bind fun x2 => (bif x2 then ((impl_IsPhrase aX.Text).bind fun x3 => (bif x3 then ((impl_isVector aX.Seen).bind fun x4 => (bif x4 then ((at' aX.Seen aX.Office).bind fun x5 => some (x5 == (w64 (aX.Number - 1)))) else some false)) else some false)) else some false)) else some false) else some false))).bind fun (j6 : Bool) => some j6)
set_option maxRecDepth 100000 in
set_option maxHeartbeats 4000000 in
theorem impl_isOp_run (aX : Op) (r : Bool) (h : impl_isOp aX = some r) : SCall Tryd.prog 49 [.v (.agg [vi aX.Office, vi aX.Number, vs aX.Key, vs aX.Text, vl (eI .i64) aX.Seen])] ⟨[.v (vb r)], [], false⟩ := by
  refine scall_in Tryd.func49 rfl [(.tmp 2)] rfl (fun r => ⟨[.v (vb r)], [], false⟩) (r := r) ?_
  unfold impl_isOp at h
  refine swp_seq ?_
  refine swp_reg ?_
  refine SRun.ck tbok 2 ⟨38, [(1, .ref 1 0)], [(1, .box [vi aX.Office, vi aX.Number, vs aX.Key, vs aX.Text, vl (eI .i64) aX.Seen])]⟩ ?_
  refine SRun.nil ?_
  refine nx_n ?_
  refine swp_seq ?_
  refine swp_drJ mixed h (fun j6 => ⟨38, [(2, vb j6)], []⟩) (fun v7 h => ?_) (fun j6 h => ?_)
  refine DGo.chunk' tbok 2 (σ' := ⟨38, [(4, vi aX.Office), (3, .ref 1 0), (1, .ref 1 0)], [(1, .box [vi aX.Office, vi aX.Number, vs aX.Key, vs aX.Text, vl (eI .i64) aX.Seen])]⟩) (by kernel_rfl) ?_
  obtain ⟨x1, hx1, h⟩ := bind_some h
  refine DGo.step (x_lstep_call (f := 64) (caps := []) (xs := [vi aX.Office, vi 0, vi 3]) (ys := [vi aX.Office, vi 0, vi 3]) (res := ⟨[.v (vb x1)], [], false⟩) (x := vb x1) (y := none) rfl ents64 (impl_within_run aX.Office 0 3 _ hx1) rfl (by intro hc; cases hc)) ?_
  refine DGo.chunk' tbok 1 (σ' := ⟨38, [(6, vb x1), (5, vb x1), (4, vi aX.Office), (3, .ref 1 0), (1, .ref 1 0)], [(1, .box [vi aX.Office, vi aX.Number, vs aX.Key, vs aX.Text, vl (eI .i64) aX.Seen])]⟩) (by kernel_rfl) ?_
  refine DGo.cut [(6, fun b => b), (5, fun b => b)] (b := x1) (by kernel_rfl) (fun hb => ?_) (fun hb => ?_)
  replace h := cond_t hb h
  refine DGo.chunk' tbok 5 (σ' := ⟨38, [(11, vb (decide (aX.Number ≥ 1))), (10, vb (decide (aX.Number ≥ 1))), (9, vb (decide (aX.Number ≥ 1))), (8, vi aX.Number), (7, .ref 1 1), (6, vb true), (5, vb true), (4, vi aX.Office), (3, .ref 1 0), (1, .ref 1 0)], [(1, .box [vi aX.Office, vi aX.Number, vs aX.Key, vs aX.Text, vl (eI .i64) aX.Seen])]⟩) (by kernel_rfl) ?_
  refine DGo.cut [(11, fun b => b), (10, fun b => b), (9, fun b => b)] (b := (decide (aX.Number ≥ 1))) (by kernel_rfl) (fun hb => ?_) (fun hb => ?_)
  replace h := cond_t hb h
  refine DGo.chunk' tbok 2 (σ' := ⟨38, [(13, vs aX.Key), (12, .ref 1 2), (11, vb true), (10, vb true), (9, vb true), (8, vi aX.Number), (7, .ref 1 1), (6, vb true), (5, vb true), (4, vi aX.Office), (3, .ref 1 0), (1, .ref 1 0)], [(1, .box [vi aX.Office, vi aX.Number, vs aX.Key, vs aX.Text, vl (eI .i64) aX.Seen])]⟩) (by kernel_rfl) ?_
  obtain ⟨x2, hx2, h⟩ := bind_some h
  refine DGo.step (x_lstep_call (f := 80) (caps := []) (xs := [vs aX.Key]) (ys := [vs aX.Key]) (res := ⟨[.v (vb x2)], [], false⟩) (x := vb x2) (y := none) rfl ents80 (impl_IsWord_run aX.Key _ hx2) rfl (by intro hc; cases hc)) ?_
  refine DGo.chunk' tbok 2 (σ' := ⟨38, [(16, vb x2), (15, vb x2), (14, vb x2), (13, vs aX.Key), (12, .ref 1 2), (11, vb true), (10, vb true), (9, vb true), (8, vi aX.Number), (7, .ref 1 1), (6, vb true), (5, vb true), (4, vi aX.Office), (3, .ref 1 0), (1, .ref 1 0)], [(1, .box [vi aX.Office, vi aX.Number, vs aX.Key, vs aX.Text, vl (eI .i64) aX.Seen])]⟩) (by kernel_rfl) ?_
  refine DGo.cut [(16, fun b => b), (15, fun b => b), (14, fun b => b)] (b := x2) (by kernel_rfl) (fun hb => ?_) (fun hb => ?_)
  replace h := cond_t hb h
  refine DGo.chunk' tbok 2 (σ' := ⟨38, [(18, vs aX.Text), (17, .ref 1 3), (16, vb true), (15, vb true), (14, vb true), (13, vs aX.Key), (12, .ref 1 2), (11, vb true), (10, vb true), (9, vb true), (8, vi aX.Number), (7, .ref 1 1), (6, vb true), (5, vb true), (4, vi aX.Office), (3, .ref 1 0), (1, .ref 1 0)], [(1, .box [vi aX.Office, vi aX.Number, vs aX.Key, vs aX.Text, vl (eI .i64) aX.Seen])]⟩) (by kernel_rfl) ?_
  obtain ⟨x3, hx3, h⟩ := bind_some h
  refine DGo.step (x_lstep_call (f := 81) (caps := []) (xs := [vs aX.Text]) (ys := [vs aX.Text]) (res := ⟨[.v (vb x3)], [], false⟩) (x := vb x3) (y := none) rfl ents81 (impl_IsPhrase_run aX.Text _ hx3) rfl (by intro hc; cases hc)) ?_
  refine DGo.chunk' tbok 2 (σ' := ⟨38, [(21, vb x3), (20, vb x3), (19, vb x3), (18, vs aX.Text), (17, .ref 1 3), (16, vb true), (15, vb true), (14, vb true), (13, vs aX.Key), (12, .ref 1 2), (11, vb true), (10, vb true), (9, vb true), (8, vi aX.Number), (7, .ref 1 1), (6, vb true), (5, vb true), (4, vi aX.Office), (3, .ref 1 0), (1, .ref 1 0)], [(1, .box [vi aX.Office, vi aX.Number, vs aX.Key, vs aX.Text, vl (eI .i64) aX.Seen])]⟩) (by kernel_rfl) ?_
  refine DGo.cut [(21, fun b => b), (20, fun b => b), (19, fun b => b)] (b := x3) (by kernel_rfl) (fun hb => ?_) (fun hb => ?_)
  replace h := cond_t hb h
  refine DGo.chunk' tbok 2 (σ' := ⟨38, [(23, vl (eI .i64) aX.Seen), (22, .ref 1 4), (21, vb true), (20, vb true), (19, vb true), (18, vs aX.Text), (17, .ref 1 3), (16, vb true), (15, vb true), (14, vb true), (13, vs aX.Key), (12, .ref 1 2), (11, vb true), (10, vb true), (9, vb true), (8, vi aX.Number), (7, .ref 1 1), (6, vb true), (5, vb true), (4, vi aX.Office), (3, .ref 1 0), (1, .ref 1 0)], [(1, .box [vi aX.Office, vi aX.Number, vs aX.Key, vs aX.Text, vl (eI .i64) aX.Seen])]⟩) (by kernel_rfl) ?_
  obtain ⟨x4, hx4, h⟩ := bind_some h
  refine DGo.step (x_lstep_call (f := 58) (caps := []) (xs := [vl (eI .i64) aX.Seen]) (ys := [vl (eI .i64) aX.Seen]) (res := ⟨[.v (vb x4)], [], false⟩) (x := vb x4) (y := none) rfl ents58 (impl_isVector_run aX.Seen _ hx4) rfl (by intro hc; cases hc)) ?_
  refine DGo.chunk' tbok 2 (σ' := ⟨38, [(26, vb x4), (25, vb x4), (24, vb x4), (23, vl (eI .i64) aX.Seen), (22, .ref 1 4), (21, vb true), (20, vb true), (19, vb true), (18, vs aX.Text), (17, .ref 1 3), (16, vb true), (15, vb true), (14, vb true), (13, vs aX.Key), (12, .ref 1 2), (11, vb true), (10, vb true), (9, vb true), (8, vi aX.Number), (7, .ref 1 1), (6, vb true), (5, vb true), (4, vi aX.Office), (3, .ref 1 0), (1, .ref 1 0)], [(1, .box [vi aX.Office, vi aX.Number, vs aX.Key, vs aX.Text, vl (eI .i64) aX.Seen])]⟩) (by kernel_rfl) ?_
  refine DGo.cut [(26, fun b => b), (25, fun b => b), (24, fun b => b)] (b := x4) (by kernel_rfl) (fun hb => ?_) (fun hb => ?_)
  replace h := cond_t hb h
  refine DGo.chunk' tbok 4 (σ' := ⟨38, [(30, vi aX.Office), (29, .ref 1 0), (28, vl (eI .i64) aX.Seen), (27, .ref 1 4), (26, vb true), (25, vb true), (24, vb true), (23, vl (eI .i64) aX.Seen), (22, .ref 1 4), (21, vb true), (20, vb true), (19, vb true), (18, vs aX.Text), (17, .ref 1 3), (16, vb true), (15, vb true), (14, vb true), (13, vs aX.Key), (12, .ref 1 2), (11, vb true), (10, vb true), (9, vb true), (8, vi aX.Number), (7, .ref 1 1), (6, vb true), (5, vb true), (4, vi aX.Office), (3, .ref 1 0), (1, .ref 1 0)], [(1, .box [vi aX.Office, vi aX.Number, vs aX.Key, vs aX.Text, vl (eI .i64) aX.Seen])]⟩) (by kernel_rfl) ?_
  obtain ⟨x5, hx5, h⟩ := bind_some h
  refine DGo.step (x_index (L := aX.Seen) (f := (eI .i64)) (ti := ti32) (tj := ti2) (e := 2) (k := .i64) tbok rfl hx5) ?_
  refine DGo.chunk' tbok 7 (σ' := ⟨38, [(2, vb (x5 == (w64 (aX.Number - 1)))), (37, vb (x5 == (w64 (aX.Number - 1)))), (36, vb (x5 == (w64 (aX.Number - 1)))), (35, vi (w64 (aX.Number - 1))), (34, vi aX.Number), (33, .ref 1 1), (32, vi x5), (31, .ptr (((eI .i64) x5).map .tr) 0), (30, vi aX.Office), (29, .ref 1 0), (28, vl (eI .i64) aX.Seen), (27, .ref 1 4), (26, vb true), (25, vb true), (24, vb true), (23, vl (eI .i64) aX.Seen), (22, .ref 1 4), (21, vb true), (20, vb true), (19, vb true), (18, vs aX.Text), (17, .ref 1 3), (16, vb true), (15, vb true), (14, vb true), (13, vs aX.Key), (12, .ref 1 2), (11, vb true), (10, vb true), (9, vb true), (8, vi aX.Number), (7, .ref 1 1), (6, vb true), (5, vb true), (4, vi aX.Office), (3, .ref 1 0), (1, .ref 1 0)], [(1, .box [vi aX.Office, vi aX.Number, vs aX.Key, vs aX.Text, vl (eI .i64) aX.Seen])]⟩) (by kernel_rfl) ?_
  refine DGo.nil (by kernel_rfl) ?_
  replace h := Option.some.inj h
  subst h
  exact Le.sub0
  replace h := cond_f hb h
  refine DGo.chunk' tbok 12 (σ' := ⟨38, [(2, vb false), (37, vb false), (36, .tup []), (35, .tup []), (34, .tup []), (33, .tup []), (32, .tup []), (31, .tup []), (30, .tup []), (29, .tup []), (28, .tup []), (27, .tup []), (26, vb false), (25, vb false), (24, vb false), (23, vl (eI .i64) aX.Seen), (22, .ref 1 4), (21, vb true), (20, vb true), (19, vb true), (18, vs aX.Text), (17, .ref 1 3), (16, vb true), (15, vb true), (14, vb true), (13, vs aX.Key), (12, .ref 1 2), (11, vb true), (10, vb true), (9, vb true), (8, vi aX.Number), (7, .ref 1 1), (6, vb true), (5, vb true), (4, vi aX.Office), (3, .ref 1 0), (1, .ref 1 0)], [(1, .box [vi aX.Office, vi aX.Number, vs aX.Key, vs aX.Text, vl (eI .i64) aX.Seen])]⟩) (by kernel_rfl) ?_
  refine DGo.nil (by kernel_rfl) ?_
  replace h := Option.some.inj h
  subst h
  exact Le.sub0
  replace h := cond_f hb h
  refine DGo.chunk' tbok 17 (σ' := ⟨38, [(2, vb false), (37, vb false), (36, .tup []), (35, .tup []), (34, .tup []), (33, .tup []), (32, .tup []), (31, .tup []), (30, .tup []), (29, .tup []), (28, .tup []), (27, .tup []), (26, vb false), (25, vb false), (24, .tup []), (23, .tup []), (22, .tup []), (21, vb false), (20, vb false), (19, vb false), (18, vs aX.Text), (17, .ref 1 3), (16, vb true), (15, vb true), (14, vb true), (13, vs aX.Key), (12, .ref 1 2), (11, vb true), (10, vb true), (9, vb true), (8, vi aX.Number), (7, .ref 1 1), (6, vb true), (5, vb true), (4, vi aX.Office), (3, .ref 1 0), (1, .ref 1 0)], [(1, .box [vi aX.Office, vi aX.Number, vs aX.Key, vs aX.Text, vl (eI .i64) aX.Seen])]⟩) (by kernel_rfl) ?_
  refine DGo.nil (by kernel_rfl) ?_
  replace h := Option.some.inj h
  subst h
  exact Le.sub0
  replace h := cond_f hb h
  refine DGo.chunk' tbok 22 (σ' := ⟨38, [(2, vb false), (37, vb false), (36, .tup []), (35, .tup []), (34, .tup []), (33, .tup []), (32, .tup []), (31, .tup []), (30, .tup []), (29, .tup []), (28, .tup []), (27, .tup []), (26, vb false), (25, vb false), (24, .tup []), (23, .tup []), (22, .tup []), (21, vb false), (20, vb false), (19, .tup []), (18, .tup []), (17, .tup []), (16, vb false), (15, vb false), (14, vb false), (13, vs aX.Key), (12, .ref 1 2), (11, vb true), (10, vb true), (9, vb true), (8, vi aX.Number), (7, .ref 1 1), (6, vb true), (5, vb true), (4, vi aX.Office), (3, .ref 1 0), (1, .ref 1 0)], [(1, .box [vi aX.Office, vi aX.Number, vs aX.Key, vs aX.Text, vl (eI .i64) aX.Seen])]⟩) (by kernel_rfl) ?_
  refine DGo.nil (by kernel_rfl) ?_
  replace h := Option.some.inj h
  subst h
  exact Le.sub0
  replace h := cond_f hb h
  refine DGo.chunk' tbok 27 (σ' := ⟨38, [(2, vb false), (37, vb false), (36, .tup []), (35, .tup []), (34, .tup []), (33, .tup []), (32, .tup []), (31, .tup []), (30, .tup []), (29, .tup []), (28, .tup []), (27, .tup []), (26, vb false), (25, vb false), (24, .tup []), (23, .tup []), (22, .tup []), (21, vb false), (20, vb false), (19, .tup []), (18, .tup []), (17, .tup []), (16, vb false), (15, vb false), (14, .tup []), (13, .tup []), (12, .tup []), (11, vb false), (10, vb false), (9, vb false), (8, vi aX.Number), (7, .ref 1 1), (6, vb true), (5, vb true), (4, vi aX.Office), (3, .ref 1 0), (1, .ref 1 0)], [(1, .box [vi aX.Office, vi aX.Number, vs aX.Key, vs aX.Text, vl (eI .i64) aX.Seen])]⟩) (by kernel_rfl) ?_
  refine DGo.nil (by kernel_rfl) ?_
  replace h := Option.some.inj h
  subst h
  exact Le.sub0
  replace h := cond_f hb h
  refine DGo.chunk' tbok 32 (σ' := ⟨38, [(2, vb false), (37, vb false), (36, .tup []), (35, .tup []), (34, .tup []), (33, .tup []), (32, .tup []), (31, .tup []), (30, .tup []), (29, .tup []), (28, .tup []), (27, .tup []), (26, vb false), (25, vb false), (24, .tup []), (23, .tup []), (22, .tup []), (21, vb false), (20, vb false), (19, .tup []), (18, .tup []), (17, .tup []), (16, vb false), (15, vb false), (14, .tup []), (13, .tup []), (12, .tup []), (11, vb false), (10, vb false), (9, .tup []), (8, .tup []), (7, .tup []), (6, vb false), (5, vb false), (4, vi aX.Office), (3, .ref 1 0), (1, .ref 1 0)], [(1, .box [vi aX.Office, vi aX.Number, vs aX.Key, vs aX.Text, vl (eI .i64) aX.Seen])]⟩) (by kernel_rfl) ?_
  refine DGo.nil (by kernel_rfl) ?_
  replace h := Option.some.inj h
  subst h
  exact Le.sub0
  refine swp_ret ?_
  replace h := Option.some.inj h
  subst h
  exact q_fr (fin1 (by kernel_rfl) (finV rfl SV.flat_of (holds_t (by kernel_rfl))))
theorem ents49 : Ents Tryd.prog 49 := ents_of Tryd.func49 (by kernel_rfl) rfl
noncomputable def impl_vectorOf (aLog : (List Op)) : Option ((List Int)) :=
  ((make' 0 4).bind fun x1 => (((forS (aLog.length : Int) (fun (i4 : Int) (s4 : (List Int)) => ((at' aLog i4).bind fun x8 => ((at' s4 x8.Office).bind fun x9 => ((at' s4 x8.Office).bind fun _ => some (List.set s4 (Int.toNat x8.Office) (w64 (x9 + 1))))))) (fun (s4 : (List Int)) => s4) 0 x1)).bind fun (j2 : (List Int)) => some j2))
set_option maxRecDepth 100000 in
set_option maxHeartbeats 4000000 in
theorem impl_vectorOf_run (aLog : (List Op)) (r : (List Int)) (h : impl_vectorOf aLog = some r) : SCall Tryd.prog 50 [.v (vl eOp aLog)] ⟨[.own 2 1 r.length (r.map (eI .i64))], [], false⟩ := by
  refine scall_in Tryd.func50 rfl [(.tmp 2)] rfl (fun r => ⟨[.own 2 1 r.length (r.map (eI .i64))], [], false⟩) (r := r) ?_
  unfold impl_vectorOf at h
  refine swp_seq ?_
  refine swp_reg ?_
  refine SRun.ck tbok 1 ⟨22, [(0, vl eOp aLog)], []⟩ ?_
  refine SRun.nil ?_
  refine nx_n ?_
  refine swp_seq ?_
  refine swp_reg ?_
  obtain ⟨x1, hx1, h⟩ := bind_some h
  refine SRun.ls (x_make (z := 0) (f := (eI .i64)) (ti := ti32) (tj := ti2) (e := 2) (m := 1) (k := .i64) (k' := .i64) hx1 tbok rfl rfl (zs := [.int .i64 0])) ?_
  refine SRun.ck tbok 1 ⟨22, [(0, vl eOp aLog), (3, .own 6)], [(6, .arr 2 1 x1.length (x1.map (eI .i64)))]⟩ ?_
  refine SRun.nil ?_
  refine nx_n ?_
  refine swp_seq ?_
  refine swp_seq ?_
  refine swp_reg ?_
  refine SRun.ck tbok 3 ⟨22, [(3, .own 6), (7, vl eOp aLog), (8, vi (aLog.length : Int)), (9, vi 0)], [(6, .arr 2 1 x1.length (x1.map (eI .i64)))]⟩ ?_
  refine SRun.nil ?_
  refine nx_n ?_
  refine swp_seqJ h (fun j2 => ⟨22, [(3, .own 3)], [(3, .arr 2 1 j2.length (j2.map (eI .i64)))]⟩) (fun v3 h => ?_) (fun j2 h => ?_)
  refine swp_blk (a := v3) ?_
  refine swp_lpL (r := v3) (s := (0, x1)) _ (fun s4 => ⟨22, [(3, .own 3), (7, vl eOp aLog), (8, vi (aLog.length : Int)), (9, vi s4.1)], [(3, .arr 2 1 s4.2.length (s4.2.map (eI .i64)))]⟩) _ ((Le.sub' ([(3, .own 6), (7, vl eOp aLog), (8, vi (aLog.length : Int)), (9, vi 0)] : List (Nat × SV)) ([(6, .arr 2 1 x1.length (x1.map (eI .i64)))] : List (Nat × SO)) (by kernel_rfl) (by kernel_rfl)).trans ((Le.ren' (d := 6) (e := 3) (by kernel_rfl) (by kernel_rfl) (by kernel_rfl)).trans (Le.sub0))) h (fun s4 v5 h => ?_)
  refine swp_seq ?_
  refine swp_reg ?_
  refine SRun.ck tbok 1 ⟨22, [(3, .own 3), (7, vl eOp aLog), (8, vi (aLog.length : Int)), (9, vi s4.1), (10, vb (decide (s4.1 < (aLog.length : Int))))], [(3, .arr 2 1 s4.2.length (s4.2.map (eI .i64)))]⟩ ?_
  refine SRun.nil ?_
  refine nx_n ?_
  refine swp_seq ?_
  refine swp_cond (b := (decide (s4.1 < (aLog.length : Int)))) (by kernel_rfl) (fun hb => ?_) (fun hb => ?_)
  replace h := cond_t hb h
  refine swp_skip ?_
  refine nx_n ?_
  refine swp_seq ?_
  refine swp_seqJ h (fun j6 => ⟨22, [(3, .own 3), (7, vl eOp aLog), (8, vi (aLog.length : Int)), (9, vi s4.1)], [(3, .arr 2 1 j6.length (j6.map (eI .i64)))]⟩) (fun v7 h => ?_) (fun j6 h => ?_)
  refine swp_blk (a := v7) ?_
  refine swp_seq ?_
  refine swp_reg ?_
  obtain ⟨x8, hx8, h⟩ := bind_some h
  refine SRun.ls (x_index (L := aLog) (f := eOp) (ti := ti25) (tj := ti61) (e := 61) (k := .i64) tbok rfl hx8) ?_
  refine SRun.ck tbok 2 ⟨22, [(3, .own 3), (5, .ref 5 0), (7, vl eOp aLog), (8, vi (aLog.length : Int)), (9, vi s4.1), (12, .agg [vi x8.Office, vi x8.Number, vs x8.Key, vs x8.Text, vl (eI .i64) x8.Seen])], [(3, .arr 2 1 s4.2.length (s4.2.map (eI .i64))), (5, .box [vi 0, vi 0, vs (ByteArray.mk #[]), vs (ByteArray.mk #[]), vl (eI .i64) ([] : List Int)])]⟩ ?_
  refine SRun.estep (x_estep_store (d := 5) (k := 0) (ti := ti61) (cs := [vi 0, vi 0, vs (ByteArray.mk #[]), vs (ByteArray.mk #[]), vl (eI .i64) ([] : List Int)]) (vs := [vi x8.Office, vi x8.Number, vs x8.Key, vs x8.Text, vl (eI .i64) x8.Seen]) (v := .agg [vi x8.Office, vi x8.Number, vs x8.Key, vs x8.Text, vl (eI .i64) x8.Seen]) tbok rfl rfl) ?_
  refine SRun.nil ?_
  refine nx_n ?_
  refine swp_reg ?_
  refine SRun.ck tbok 3 ⟨22, [(3, .own 3), (7, vl eOp aLog), (8, vi (aLog.length : Int)), (9, vi s4.1), (13, .own 3), (15, vi x8.Office)], [(3, .arr 2 1 s4.2.length (s4.2.map (eI .i64)))]⟩ ?_
  obtain ⟨x9, hx9, h⟩ := bind_some h
  refine SRun.ls (x_index_own (d := 3) (L := s4.2) (f := (eI .i64)) (ti := ti32) (tj := ti2) (e := 2) (e' := 2) (m := 1) (k := .i64) tbok rfl hx9) ?_
  refine SRun.ls (x_load_own (d := 3) (m := 1) (j := 0) (L := s4.2) (f := (eI .i64)) (ti := ti2) (e := 2) (v := vi x9) tbok rfl hx9) ?_
  refine SRun.ck tbok 1 ⟨22, [(3, .own 3), (7, vl eOp aLog), (8, vi (aLog.length : Int)), (9, vi s4.1), (13, .own 3), (15, vi x8.Office), (18, vi (w64 (x9 + 1)))], [(3, .arr 2 1 s4.2.length (s4.2.map (eI .i64)))]⟩ ?_
  obtain ⟨x10, hx10, h⟩ := bind_some h
  refine SRun.ls (x_index_own (d := 3) (L := s4.2) (f := (eI .i64)) (ti := ti32) (tj := ti2) (e := 2) (e' := 2) (m := 1) (k := .i64) tbok rfl hx10) ?_
  refine SRun.estep (x_store_own (d := 3) (m := 1) (j := 0) (L := s4.2) (f := (eI .i64)) (x := (w64 (x9 + 1))) (z := x10) (ti := ti2) (e := 2) (ts := [.int .i64 (w64 (x9 + 1))]) (vs := [vi (w64 (x9 + 1))]) (v := vi (w64 (x9 + 1))) tbok rfl rfl hx10) ?_
  refine SRun.nil ?_
  replace h := Option.some.inj h
  subst h
  exact q_bn (q_j (Le.sub0))
  refine swp_reg ?_
  refine SRun.ck tbok 2 ⟨22, [(3, .own 3), (7, vl eOp aLog), (8, vi (aLog.length : Int)), (9, vi (w64 (s4.1 + 1)))], [(3, .arr 2 1 j6.length (j6.map (eI .i64)))]⟩ ?_
  refine SRun.nil ?_
  replace h := Option.some.inj h
  subst h
  exact q_l (Le.sub0)
  replace h := cond_f hb h
  refine swp_exit ?_
  replace h := Option.some.inj h
  subst h
  exact nx_e (q_re (q_bh (q_j (Le.sub0))))
  refine swp_seq ?_
  refine swp_reg ?_
  refine SRun.ck tbok 2 ⟨22, [(2, .own 3)], [(3, .arr 2 1 j2.length (j2.map (eI .i64)))]⟩ ?_
  refine SRun.nil ?_
  refine nx_n ?_
  refine swp_ret ?_
  replace h := Option.some.inj h
  subst h
  exact q_fr (fin1 (by kernel_rfl) (finO (d := 3) (holds_t (by kernel_rfl)) (by kernel_rfl) (flat_map (eI_flat .i64) _) (by kernel_rfl)))
theorem ents50 : Ents Tryd.prog 50 := ents_of Tryd.func50 (by kernel_rfl) rfl
noncomputable def impl_IsLog (aLog : (List Op)) : Option (Bool) :=
  (((forN (aLog.length : Int) (fun (i3 : Int) (_ : Unit) => ((at' aLog i3).bind fun x7 => ((impl_isOp x7).bind fun x8 => (bif (!x8) then some (.inr (.inr false)) else ((part' aLog 0 i3).bind fun x9 => ((impl_vectorOf x9).bind fun x10 => (((forN (x7.Seen.length : Int) (fun (i13 : Int) (_ : Unit) => ((at' x7.Seen i13).bind fun x17 => ((at' x10 i13).bind fun x18 => (bif (decide (x17 > x18)) then some (.inr (.inr (.inr (.inr false)))) else some (.inl ()))))) (fun (_ : Unit) => .inl ()) 0 ())).bind (Sum.elim (fun (_ : Unit) => ((at' x10 x7.Office).bind fun x19 => (bif (x7.Number != (w64 (x19 + 1))) then some (.inr (.inr false)) else some (.inl ())))) some)))))))) (fun (_ : Unit) => .inl ()) 0 ())).bind (Sum.elim (fun (_ : Unit) => some (decide ((aLog.length : Int) ≤ 16))) some))
set_option maxRecDepth 100000 in
set_option maxHeartbeats 4000000 in
theorem impl_IsLog_run (aLog : (List Op)) (r : Bool) (h : impl_IsLog aLog = some r) : SCall Tryd.prog 15 [.v (vl eOp aLog)] ⟨[.v (vb r)], [], false⟩ := by
  refine scall_in Tryd.func15 rfl [(.tmp 2)] rfl (fun r => ⟨[.v (vb r)], [], false⟩) (r := r) ?_
  unfold impl_IsLog at h
  refine swp_seq ?_
  refine swp_reg ?_
  refine SRun.ck tbok 1 ⟨50, [(0, vl eOp aLog)], []⟩ ?_
  refine SRun.nil ?_
  refine nx_n ?_
  refine swp_seq ?_
  refine swp_seq ?_
  refine swp_reg ?_
  refine SRun.ck tbok 3 ⟨50, [(0, vl eOp aLog), (8, vl eOp aLog), (9, vi (aLog.length : Int)), (10, vi 0)], []⟩ ?_
  refine SRun.nil ?_
  refine nx_n ?_
  refine swp_seqE (r := r) h (fun j1 => ⟨50, [(0, vl eOp aLog)], []⟩) (fun v2 h => ?_) (fun j1 h => ?_)
  refine swp_blk (a := v2) ?_
  refine swp_lpL (r := v2) (s := (0, ())) _ (fun s3 => ⟨50, [(0, vl eOp aLog), (8, vl eOp aLog), (9, vi (aLog.length : Int)), (10, vi s3.1)], []⟩) _ (Le.sub0) h (fun s3 v4 h => ?_)
  refine swp_seq ?_
  refine swp_reg ?_
  refine SRun.ck tbok 1 ⟨50, [(0, vl eOp aLog), (8, vl eOp aLog), (9, vi (aLog.length : Int)), (10, vi s3.1), (11, vb (decide (s3.1 < (aLog.length : Int))))], []⟩ ?_
  refine SRun.nil ?_
  refine nx_n ?_
  refine swp_seq ?_
  refine swp_cond (b := (decide (s3.1 < (aLog.length : Int)))) (by kernel_rfl) (fun hb => ?_) (fun hb => ?_)
  replace h := cond_t hb h
  refine swp_skip ?_
  refine nx_n ?_
  refine swp_seq ?_
  refine swp_seqL (r := v4) h (fun j5 => ⟨50, [(0, vl eOp aLog), (8, vl eOp aLog), (9, vi (aLog.length : Int)), (10, vi s3.1)], []⟩) (fun v6 h => ?_) (fun j5 h => ?_)
  refine swp_blk (a := v6) ?_
  refine swp_seq ?_
  refine swp_reg ?_
  refine SRun.ck tbok 1 ⟨50, [(0, vl eOp aLog), (8, vl eOp aLog), (9, vi (aLog.length : Int)), (10, vi s3.1), (12, vi s3.1)], []⟩ ?_
  obtain ⟨x7, hx7, h⟩ := bind_some h
  refine SRun.ls (x_index (L := aLog) (f := eOp) (ti := ti25) (tj := ti61) (e := 61) (k := .i64) tbok rfl hx7) ?_
  refine SRun.ck tbok 3 ⟨50, [(0, vl eOp aLog), (3, vi s3.1), (4, .ref 4 0), (8, vl eOp aLog), (9, vi (aLog.length : Int)), (10, vi s3.1), (14, .agg [vi x7.Office, vi x7.Number, vs x7.Key, vs x7.Text, vl (eI .i64) x7.Seen])], [(4, .box [vi 0, vi 0, vs (ByteArray.mk #[]), vs (ByteArray.mk #[]), vl (eI .i64) ([] : List Int)])]⟩ ?_
  refine SRun.estep (x_estep_store (d := 4) (k := 0) (ti := ti61) (cs := [vi 0, vi 0, vs (ByteArray.mk #[]), vs (ByteArray.mk #[]), vl (eI .i64) ([] : List Int)]) (vs := [vi x7.Office, vi x7.Number, vs x7.Key, vs x7.Text, vl (eI .i64) x7.Seen]) (v := .agg [vi x7.Office, vi x7.Number, vs x7.Key, vs x7.Text, vl (eI .i64) x7.Seen]) tbok rfl rfl) ?_
  refine SRun.nil ?_
  refine nx_n ?_
  refine swp_seq ?_
  refine swp_seq ?_
  refine swp_reg ?_
  refine SRun.ck tbok 1 ⟨50, [(0, vl eOp aLog), (3, vi s3.1), (4, .ref 4 0), (8, vl eOp aLog), (9, vi (aLog.length : Int)), (10, vi s3.1), (15, .agg [vi x7.Office, vi x7.Number, vs x7.Key, vs x7.Text, vl (eI .i64) x7.Seen])], [(4, .box [vi x7.Office, vi x7.Number, vs x7.Key, vs x7.Text, vl (eI .i64) x7.Seen])]⟩ ?_
  obtain ⟨x8, hx8, h⟩ := bind_some h
  refine SRun.ls (x_lstep_call (f := 49) (caps := []) (xs := [.agg [vi x7.Office, vi x7.Number, vs x7.Key, vs x7.Text, vl (eI .i64) x7.Seen]]) (ys := [.agg [vi x7.Office, vi x7.Number, vs x7.Key, vs x7.Text, vl (eI .i64) x7.Seen]]) (res := ⟨[.v (vb x8)], [], false⟩) (x := vb x8) (y := none) rfl ents49 (impl_isOp_run x7 _ hx8) rfl (by intro hc; cases hc)) ?_
  refine SRun.ck tbok 1 ⟨50, [(0, vl eOp aLog), (3, vi s3.1), (4, .ref 4 0), (8, vl eOp aLog), (9, vi (aLog.length : Int)), (10, vi s3.1), (17, vb (!x8))], [(4, .box [vi x7.Office, vi x7.Number, vs x7.Key, vs x7.Text, vl (eI .i64) x7.Seen])]⟩ ?_
  refine SRun.nil ?_
  refine nx_n ?_
  refine swp_cond (b := (!x8)) (by kernel_rfl) (fun hb => ?_) (fun hb => ?_)
  replace h := cond_t hb h
  refine swp_seq ?_
  refine swp_reg ?_
  refine SRun.ck tbok 1 ⟨50, [(2, vb false)], []⟩ ?_
  refine SRun.nil ?_
  refine nx_n ?_
  refine swp_ret ?_
  replace h := Option.some.inj h
  subst h
  exact nx_r (q_br (q_rr (q_rr (q_br (q_rr (q_fr (fin1 (by kernel_rfl) (finV rfl SV.flat_of (holds_t (by kernel_rfl))))))))))
  replace h := cond_f hb h
  refine swp_skip ?_
  refine nx_n ?_
  refine swp_seq ?_
  refine swp_reg ?_
  refine SRun.ck tbok 2 ⟨50, [(0, vl eOp aLog), (4, .ref 4 0), (8, vl eOp aLog), (9, vi (aLog.length : Int)), (10, vi s3.1), (18, vl eOp aLog), (19, vi s3.1)], [(4, .box [vi x7.Office, vi x7.Number, vs x7.Key, vs x7.Text, vl (eI .i64) x7.Seen])]⟩ ?_
  obtain ⟨x9, hx9, h⟩ := bind_some h
  refine SRun.ls (x_slice (m := 5) (f := eOp) (ti := ti25) (tj := ti61) (e := 61) hx9 (fun _ => rfl) tbok rfl) ?_
  obtain ⟨x10, hx10, h⟩ := bind_some h
  refine SRun.ls (x_lstep_call (f := 50) (caps := []) (xs := [vl eOp x9]) (ys := [vl eOp x9]) (res := ⟨[.own 2 1 x10.length (x10.map (eI .i64))], [], false⟩) (x := .own 21) (y := some (.arr 2 1 x10.length (x10.map (eI .i64)))) rfl ents50 (impl_vectorOf_run x9 _ hx10) rfl (by intro hc; cases hc)) ?_
  refine SRun.ck tbok 1 ⟨50, [(0, vl eOp aLog), (4, .ref 4 0), (5, .own 21), (8, vl eOp aLog), (9, vi (aLog.length : Int)), (10, vi s3.1)], [(4, .box [vi x7.Office, vi x7.Number, vs x7.Key, vs x7.Text, vl (eI .i64) x7.Seen]), (21, .arr 2 1 x10.length (x10.map (eI .i64)))]⟩ ?_
  refine SRun.nil ?_
  refine nx_n ?_
  refine swp_seq ?_
  refine swp_seq ?_
  refine swp_reg ?_
  refine SRun.ck tbok 4 ⟨50, [(0, vl eOp aLog), (4, .ref 4 0), (5, .own 21), (8, vl eOp aLog), (9, vi (aLog.length : Int)), (10, vi s3.1), (23, vl (eI .i64) x7.Seen), (24, vi (x7.Seen.length : Int)), (25, vi 0)], [(4, .box [vi x7.Office, vi x7.Number, vs x7.Key, vs x7.Text, vl (eI .i64) x7.Seen]), (21, .arr 2 1 x10.length (x10.map (eI .i64)))]⟩ ?_
  refine SRun.nil ?_
  refine nx_n ?_
  refine swp_seqE (r := v6) h (fun j11 => ⟨50, [(0, vl eOp aLog), (4, .ref 4 0), (5, .own 5), (8, vl eOp aLog), (9, vi (aLog.length : Int)), (10, vi s3.1)], [(4, .box [vi x7.Office, vi x7.Number, vs x7.Key, vs x7.Text, vl (eI .i64) x7.Seen]), (5, .arr 2 1 x10.length (x10.map (eI .i64)))]⟩) (fun v12 h => ?_) (fun j11 h => ?_)
  refine swp_blk (a := v12) ?_
  refine swp_lpL (r := v12) (s := (0, ())) _ (fun s13 => ⟨50, [(0, vl eOp aLog), (4, .ref 4 0), (5, .own 5), (8, vl eOp aLog), (9, vi (aLog.length : Int)), (10, vi s3.1), (23, vl (eI .i64) x7.Seen), (24, vi (x7.Seen.length : Int)), (25, vi s13.1)], [(4, .box [vi x7.Office, vi x7.Number, vs x7.Key, vs x7.Text, vl (eI .i64) x7.Seen]), (5, .arr 2 1 x10.length (x10.map (eI .i64)))]⟩) _ ((Le.sub' ([(0, vl eOp aLog), (4, .ref 4 0), (5, .own 21), (8, vl eOp aLog), (9, vi (aLog.length : Int)), (10, vi s3.1), (23, vl (eI .i64) x7.Seen), (24, vi (x7.Seen.length : Int)), (25, vi 0)] : List (Nat × SV)) ([(4, .box [vi x7.Office, vi x7.Number, vs x7.Key, vs x7.Text, vl (eI .i64) x7.Seen]), (21, .arr 2 1 x10.length (x10.map (eI .i64)))] : List (Nat × SO)) (by kernel_rfl) (by kernel_rfl)).trans ((Le.ren' (d := 21) (e := 5) (by kernel_rfl) (by kernel_rfl) (by kernel_rfl)).trans (Le.sub0))) h (fun s13 v14 h => ?_)
  refine swp_seq ?_
  refine swp_reg ?_
  refine SRun.ck tbok 1 ⟨50, [(0, vl eOp aLog), (4, .ref 4 0), (5, .own 5), (8, vl eOp aLog), (9, vi (aLog.length : Int)), (10, vi s3.1), (23, vl (eI .i64) x7.Seen), (24, vi (x7.Seen.length : Int)), (25, vi s13.1), (26, vb (decide (s13.1 < (x7.Seen.length : Int))))], [(4, .box [vi x7.Office, vi x7.Number, vs x7.Key, vs x7.Text, vl (eI .i64) x7.Seen]), (5, .arr 2 1 x10.length (x10.map (eI .i64)))]⟩ ?_
  refine SRun.nil ?_
  refine nx_n ?_
  refine swp_seq ?_
  refine swp_cond (b := (decide (s13.1 < (x7.Seen.length : Int)))) (by kernel_rfl) (fun hb => ?_) (fun hb => ?_)
  replace h := cond_t hb h
  refine swp_skip ?_
  refine nx_n ?_
  refine swp_seq ?_
  refine swp_seqL (r := v14) h (fun j15 => ⟨50, [(0, vl eOp aLog), (4, .ref 4 0), (5, .own 5), (8, vl eOp aLog), (9, vi (aLog.length : Int)), (10, vi s3.1), (23, vl (eI .i64) x7.Seen), (24, vi (x7.Seen.length : Int)), (25, vi s13.1)], [(4, .box [vi x7.Office, vi x7.Number, vs x7.Key, vs x7.Text, vl (eI .i64) x7.Seen]), (5, .arr 2 1 x10.length (x10.map (eI .i64)))]⟩) (fun v16 h => ?_) (fun j15 h => ?_)
  refine swp_blk (a := v16) ?_
  refine swp_seq ?_
  refine swp_reg ?_
  refine SRun.ck tbok 1 ⟨50, [(0, vl eOp aLog), (4, .ref 4 0), (5, .own 5), (8, vl eOp aLog), (9, vi (aLog.length : Int)), (10, vi s3.1), (23, vl (eI .i64) x7.Seen), (24, vi (x7.Seen.length : Int)), (25, vi s13.1), (27, vi s13.1)], [(4, .box [vi x7.Office, vi x7.Number, vs x7.Key, vs x7.Text, vl (eI .i64) x7.Seen]), (5, .arr 2 1 x10.length (x10.map (eI .i64)))]⟩ ?_
  obtain ⟨x17, hx17, h⟩ := bind_some h
  refine SRun.ls (x_index (L := x7.Seen) (f := (eI .i64)) (ti := ti32) (tj := ti2) (e := 2) (k := .i64) tbok rfl hx17) ?_
  refine SRun.ck tbok 3 ⟨50, [(0, vl eOp aLog), (4, .ref 4 0), (5, .own 5), (6, vi s13.1), (7, vi x17), (8, vl eOp aLog), (9, vi (aLog.length : Int)), (10, vi s3.1), (23, vl (eI .i64) x7.Seen), (24, vi (x7.Seen.length : Int)), (25, vi s13.1)], [(4, .box [vi x7.Office, vi x7.Number, vs x7.Key, vs x7.Text, vl (eI .i64) x7.Seen]), (5, .arr 2 1 x10.length (x10.map (eI .i64)))]⟩ ?_
  refine SRun.nil ?_
  refine nx_n ?_
  refine swp_seq ?_
  refine swp_reg ?_
  refine SRun.ck tbok 3 ⟨50, [(0, vl eOp aLog), (4, .ref 4 0), (5, .own 5), (8, vl eOp aLog), (9, vi (aLog.length : Int)), (10, vi s3.1), (23, vl (eI .i64) x7.Seen), (24, vi (x7.Seen.length : Int)), (25, vi s13.1), (30, vi x17), (31, .own 5), (32, vi s13.1)], [(4, .box [vi x7.Office, vi x7.Number, vs x7.Key, vs x7.Text, vl (eI .i64) x7.Seen]), (5, .arr 2 1 x10.length (x10.map (eI .i64)))]⟩ ?_
  obtain ⟨x18, hx18, h⟩ := bind_some h
  refine SRun.ls (x_index_own (d := 5) (L := x10) (f := (eI .i64)) (ti := ti32) (tj := ti2) (e := 2) (e' := 2) (m := 1) (k := .i64) tbok rfl hx18) ?_
  refine SRun.ls (x_load_own (d := 5) (m := 1) (j := 0) (L := x10) (f := (eI .i64)) (ti := ti2) (e := 2) (v := vi x18) tbok rfl hx18) ?_
  refine SRun.ck tbok 1 ⟨50, [(0, vl eOp aLog), (4, .ref 4 0), (5, .own 5), (8, vl eOp aLog), (9, vi (aLog.length : Int)), (10, vi s3.1), (23, vl (eI .i64) x7.Seen), (24, vi (x7.Seen.length : Int)), (25, vi s13.1), (35, vb (decide (x17 > x18)))], [(4, .box [vi x7.Office, vi x7.Number, vs x7.Key, vs x7.Text, vl (eI .i64) x7.Seen]), (5, .arr 2 1 x10.length (x10.map (eI .i64)))]⟩ ?_
  refine SRun.nil ?_
  refine nx_n ?_
  refine swp_cond (b := (decide (x17 > x18))) (by kernel_rfl) (fun hb => ?_) (fun hb => ?_)
  replace h := cond_t hb h
  refine swp_seq ?_
  refine swp_reg ?_
  refine SRun.ck tbok 1 ⟨50, [(2, vb false)], []⟩ ?_
  refine SRun.nil ?_
  refine nx_n ?_
  refine swp_ret ?_
  replace h := Option.some.inj h
  subst h
  exact q_br (q_rr (q_rr (q_br (q_rr (q_br (q_rr (q_rr (q_br (q_rr (q_fr (fin1 (by kernel_rfl) (finV rfl SV.flat_of (holds_t (by kernel_rfl))))))))))))))
  replace h := cond_f hb h
  refine swp_skip ?_
  replace h := Option.some.inj h
  subst h
  exact q_bn (q_l (Le.sub0))
  refine swp_reg ?_
  refine SRun.ck tbok 2 ⟨50, [(0, vl eOp aLog), (4, .ref 4 0), (5, .own 5), (8, vl eOp aLog), (9, vi (aLog.length : Int)), (10, vi s3.1), (23, vl (eI .i64) x7.Seen), (24, vi (x7.Seen.length : Int)), (25, vi (w64 (s13.1 + 1)))], [(4, .box [vi x7.Office, vi x7.Number, vs x7.Key, vs x7.Text, vl (eI .i64) x7.Seen]), (5, .arr 2 1 x10.length (x10.map (eI .i64)))]⟩ ?_
  refine SRun.nil ?_
  replace h := Option.some.inj h
  subst h
  exact q_l (Le.sub0)
  replace h := cond_f hb h
  refine swp_exit ?_
  replace h := Option.some.inj h
  subst h
  exact nx_e (q_re (q_bh (q_l (Le.sub0))))
  refine swp_seq ?_
  refine swp_dr mixed ?_
  refine DGo.chunk' tbok 5 (σ' := ⟨50, [(41, vi x7.Office), (40, .ref 4 0), (39, .own 5), (38, vi x7.Number), (37, .ref 4 1), (0, vl eOp aLog), (4, .ref 4 0), (5, .own 5), (8, vl eOp aLog), (9, vi (aLog.length : Int)), (10, vi s3.1)], [(4, .box [vi x7.Office, vi x7.Number, vs x7.Key, vs x7.Text, vl (eI .i64) x7.Seen]), (5, .arr 2 1 x10.length (x10.map (eI .i64)))]⟩) (by kernel_rfl) ?_
  obtain ⟨x19, hx19, h⟩ := bind_some h
  refine DGo.step (x_index_own (d := 5) (L := x10) (f := (eI .i64)) (ti := ti32) (tj := ti2) (e := 2) (e' := 2) (m := 1) (k := .i64) tbok rfl hx19) ?_
  refine DGo.step (x_load_own (d := 5) (m := 1) (j := 0) (L := x10) (f := (eI .i64)) (ti := ti2) (e := 2) (v := vi x19) tbok rfl hx19) ?_
  refine DGo.chunk' tbok 2 (σ' := ⟨50, [(45, vb (x7.Number != (w64 (x19 + 1)))), (44, vi (w64 (x19 + 1))), (43, vi x19), (42, .eref 5 1 (Int.toNat x7.Office) 0), (41, vi x7.Office), (40, .ref 4 0), (39, .own 5), (38, vi x7.Number), (37, .ref 4 1), (0, vl eOp aLog), (4, .ref 4 0), (5, .own 5), (8, vl eOp aLog), (9, vi (aLog.length : Int)), (10, vi s3.1)], [(4, .box [vi x7.Office, vi x7.Number, vs x7.Key, vs x7.Text, vl (eI .i64) x7.Seen]), (5, .arr 2 1 x10.length (x10.map (eI .i64)))]⟩) (by kernel_rfl) ?_
  refine DGo.nil (by kernel_rfl) ?_
  refine nx_n ?_
  refine swp_cond (b := (x7.Number != (w64 (x19 + 1)))) (by kernel_rfl) (fun hb => ?_) (fun hb => ?_)
  replace h := cond_t hb h
  refine swp_seq ?_
  refine swp_reg ?_
  refine SRun.ck tbok 1 ⟨50, [(2, vb false)], []⟩ ?_
  refine SRun.nil ?_
  refine nx_n ?_
  refine swp_ret ?_
  replace h := Option.some.inj h
  subst h
  exact q_br (q_rr (q_rr (q_br (q_rr (q_fr (fin1 (by kernel_rfl) (finV rfl SV.flat_of (holds_t (by kernel_rfl)))))))))
  replace h := cond_f hb h
  refine swp_skip ?_
  replace h := Option.some.inj h
  subst h
  exact q_bn (q_l (Le.sub0))
  refine swp_reg ?_
  refine SRun.ck tbok 2 ⟨50, [(0, vl eOp aLog), (8, vl eOp aLog), (9, vi (aLog.length : Int)), (10, vi (w64 (s3.1 + 1)))], []⟩ ?_
  refine SRun.nil ?_
  replace h := Option.some.inj h
  subst h
  exact q_l (Le.sub0)
  replace h := cond_f hb h
  refine swp_exit ?_
  replace h := Option.some.inj h
  subst h
  exact nx_e (q_re (q_bh (q_l (Le.sub0))))
  refine swp_seq ?_
  refine swp_reg ?_
  refine SRun.ck tbok 4 ⟨50, [(2, vb (decide ((aLog.length : Int) ≤ 16)))], []⟩ ?_
  refine SRun.nil ?_
  refine nx_n ?_
  refine swp_ret ?_
  replace h := Option.some.inj h
  subst h
  exact q_fr (fin1 (by kernel_rfl) (finV rfl SV.flat_of (holds_t (by kernel_rfl))))
theorem ents15 : Ents Tryd.prog 15 := ents_of Tryd.func15 (by kernel_rfl) rfl
noncomputable def laws_eqInt64S (aA : (List Int)) (aB : (List Int)) : Option (Bool) :=
  (bif ((aA.length : Int) != (aB.length : Int)) then some false else (((forN (aA.length : Int) (fun (i3 : Int) (_ : Unit) => ((at' aA i3).bind fun x7 => ((at' aB i3).bind fun x8 => (bif (x7 != x8) then some (.inr (.inr false)) else some (.inl ()))))) (fun (_ : Unit) => .inl ()) 0 ())).bind (Sum.elim (fun (_ : Unit) => some true) some)))
set_option maxRecDepth 100000 in
set_option maxHeartbeats 4000000 in
theorem laws_eqInt64S_run (aA : (List Int)) (aB : (List Int)) (r : Bool) (h : laws_eqInt64S aA aB = some r) : SCall Tryd.prog 21 [.v (vl (eI .i64) aA), .v (vl (eI .i64) aB)] ⟨[.v (vb r)], [], false⟩ := by
  refine scall_in Tryd.func21 rfl [(.tmp 4)] rfl (fun r => ⟨[.v (vb r)], [], false⟩) (r := r) ?_
  unfold laws_eqInt64S at h
  refine swp_seq ?_
  refine swp_reg ?_
  refine SRun.ck tbok 1 ⟨26, [(0, vl (eI .i64) aA), (1, vl (eI .i64) aB)], []⟩ ?_
  refine SRun.nil ?_
  refine nx_n ?_
  refine swp_seq ?_
  refine swp_seq ?_
  refine swp_reg ?_
  refine SRun.ck tbok 5 ⟨26, [(0, vl (eI .i64) aA), (1, vl (eI .i64) aB), (10, vb ((aA.length : Int) != (aB.length : Int)))], []⟩ ?_
  refine SRun.nil ?_
  refine nx_n ?_
  refine swp_cond (b := ((aA.length : Int) != (aB.length : Int))) (by kernel_rfl) (fun hb => ?_) (fun hb => ?_)
  replace h := cond_t hb h
  refine swp_seq ?_
  refine swp_reg ?_
  refine SRun.ck tbok 1 ⟨26, [(4, vb false)], []⟩ ?_
  refine SRun.nil ?_
  refine nx_n ?_
  refine swp_ret ?_
  replace h := Option.some.inj h
  subst h
  exact nx_r (q_fr (fin1 (by kernel_rfl) (finV rfl SV.flat_of (holds_t (by kernel_rfl)))))
  replace h := cond_f hb h
  refine swp_skip ?_
  refine nx_n ?_
  refine swp_seq ?_
  refine swp_seq ?_
  refine swp_reg ?_
  refine SRun.ck tbok 1 ⟨26, [(0, vl (eI .i64) aA), (1, vl (eI .i64) aB), (5, vi 0)], []⟩ ?_
  refine SRun.nil ?_
  refine nx_n ?_
  refine swp_seqE (r := r) h (fun j1 => ⟨26, [], []⟩) (fun v2 h => ?_) (fun j1 h => ?_)
  refine swp_blk (a := v2) ?_
  refine swp_lpL (r := v2) (s := (0, ())) _ (fun s3 => ⟨26, [(0, vl (eI .i64) aA), (1, vl (eI .i64) aB), (5, vi s3.1)], []⟩) _ (Le.sub0) h (fun s3 v4 h => ?_)
  refine swp_seq ?_
  refine swp_seq ?_
  refine swp_reg ?_
  refine SRun.ck tbok 4 ⟨26, [(0, vl (eI .i64) aA), (1, vl (eI .i64) aB), (5, vi s3.1), (14, vb (decide (s3.1 < (aA.length : Int))))], []⟩ ?_
  refine SRun.nil ?_
  refine nx_n ?_
  refine swp_cond (b := (decide (s3.1 < (aA.length : Int)))) (by kernel_rfl) (fun hb => ?_) (fun hb => ?_)
  replace h := cond_t hb h
  refine swp_skip ?_
  refine nx_n ?_
  refine swp_seq ?_
  refine swp_seqL (r := v4) h (fun j5 => ⟨26, [(0, vl (eI .i64) aA), (1, vl (eI .i64) aB), (5, vi s3.1)], []⟩) (fun v6 h => ?_) (fun j5 h => ?_)
  refine swp_blk (a := v6) ?_
  refine swp_seq ?_
  refine swp_dr mixed ?_
  refine DGo.chunk' tbok 2 (σ' := ⟨26, [(18, vi s3.1), (17, vl (eI .i64) aA), (0, vl (eI .i64) aA), (1, vl (eI .i64) aB), (5, vi s3.1), (14, vb (decide (s3.1 < (aA.length : Int))))], []⟩) (by kernel_rfl) ?_
  obtain ⟨x7, hx7, h⟩ := bind_some h
  refine DGo.step (x_index (L := aA) (f := (eI .i64)) (ti := ti32) (tj := ti2) (e := 2) (k := .i64) tbok rfl hx7) ?_
  refine DGo.chunk' tbok 3 (σ' := ⟨26, [(22, vi s3.1), (21, vl (eI .i64) aB), (20, vi x7), (19, .ptr (((eI .i64) x7).map .tr) 0), (18, vi s3.1), (17, vl (eI .i64) aA), (0, vl (eI .i64) aA), (1, vl (eI .i64) aB), (5, vi s3.1), (14, vb (decide (s3.1 < (aA.length : Int))))], []⟩) (by kernel_rfl) ?_
  obtain ⟨x8, hx8, h⟩ := bind_some h
  refine DGo.step (x_index (L := aB) (f := (eI .i64)) (ti := ti32) (tj := ti2) (e := 2) (k := .i64) tbok rfl hx8) ?_
  refine DGo.chunk' tbok 2 (σ' := ⟨26, [(25, vb (x7 != x8)), (24, vi x8), (23, .ptr (((eI .i64) x8).map .tr) 0), (22, vi s3.1), (21, vl (eI .i64) aB), (20, vi x7), (19, .ptr (((eI .i64) x7).map .tr) 0), (18, vi s3.1), (17, vl (eI .i64) aA), (0, vl (eI .i64) aA), (1, vl (eI .i64) aB), (5, vi s3.1), (14, vb (decide (s3.1 < (aA.length : Int))))], []⟩) (by kernel_rfl) ?_
  refine DGo.nil (by kernel_rfl) ?_
  refine nx_n ?_
  refine swp_cond (b := (x7 != x8)) (by kernel_rfl) (fun hb => ?_) (fun hb => ?_)
  replace h := cond_t hb h
  refine swp_seq ?_
  refine swp_reg ?_
  refine SRun.ck tbok 1 ⟨26, [(4, vb false)], []⟩ ?_
  refine SRun.nil ?_
  refine nx_n ?_
  refine swp_ret ?_
  replace h := Option.some.inj h
  subst h
  exact q_br (q_rr (q_rr (q_br (q_rr (q_fr (fin1 (by kernel_rfl) (finV rfl SV.flat_of (holds_t (by kernel_rfl)))))))))
  replace h := cond_f hb h
  refine swp_skip ?_
  replace h := Option.some.inj h
  subst h
  exact q_bn (q_l (Le.sub0))
  refine swp_reg ?_
  refine SRun.ck tbok 3 ⟨26, [(0, vl (eI .i64) aA), (1, vl (eI .i64) aB), (5, vi (w64 (s3.1 + 1)))], []⟩ ?_
  refine SRun.nil ?_
  replace h := Option.some.inj h
  subst h
  exact q_l (Le.sub0)
  replace h := cond_f hb h
  refine swp_exit ?_
  replace h := Option.some.inj h
  subst h
  exact nx_e (q_re (q_bh (q_l (Le.sub0))))
  refine swp_seq ?_
  refine swp_reg ?_
  refine SRun.ck tbok 1 ⟨26, [(4, vb true)], []⟩ ?_
  refine SRun.nil ?_
  refine nx_n ?_
  refine swp_ret ?_
  replace h := Option.some.inj h
  subst h
  exact q_fr (fin1 (by kernel_rfl) (finV rfl SV.flat_of (holds_t (by kernel_rfl))))
theorem ents21 : Ents Tryd.prog 21 := ents_of Tryd.func21 (by kernel_rfl) rfl
noncomputable def laws_eqOp (aA : Op) (aB : Op) : Option (Bool) :=
  (bif (aA.Office != aB.Office) then some false else (bif (aA.Number != aB.Number) then some false else (bif (!(aA.Key.toList == aB.Key.toList)) then some false else (bif (!(aA.Text.toList == aB.Text.toList)) then some false else ((laws_eqInt64S aA.Seen aB.Seen).bind fun x1 => (bif (!x1) then some false else some true))))))
set_option maxRecDepth 100000 in
set_option maxHeartbeats 4000000 in
theorem laws_eqOp_run (aA : Op) (aB : Op) (r : Bool) (h : laws_eqOp aA aB = some r) : SCall Tryd.prog 51 [.v (.agg [vi aA.Office, vi aA.Number, vs aA.Key, vs aA.Text, vl (eI .i64) aA.Seen]), .v (.agg [vi aB.Office, vi aB.Number, vs aB.Key, vs aB.Text, vl (eI .i64) aB.Seen])] ⟨[.v (vb r)], [], false⟩ := by
  refine scall_in Tryd.func51 rfl [(.tmp 4)] rfl (fun r => ⟨[.v (vb r)], [], false⟩) (r := r) ?_
  unfold laws_eqOp at h
  refine swp_seq ?_
  refine swp_reg ?_
  refine SRun.ck tbok 3 ⟨31, [(2, .ref 2 0), (3, .ref 3 0)], [(2, .box [vi aA.Office, vi aA.Number, vs aA.Key, vs aA.Text, vl (eI .i64) aA.Seen]), (3, .box [vi aB.Office, vi aB.Number, vs aB.Key, vs aB.Text, vl (eI .i64) aB.Seen])]⟩ ?_
  refine SRun.nil ?_
  refine nx_n ?_
  refine swp_seq ?_
  refine swp_seq ?_
  refine swp_reg ?_
  refine SRun.ck tbok 5 ⟨31, [(2, .ref 2 0), (3, .ref 3 0), (9, vb (aA.Office != aB.Office))], [(2, .box [vi aA.Office, vi aA.Number, vs aA.Key, vs aA.Text, vl (eI .i64) aA.Seen]), (3, .box [vi aB.Office, vi aB.Number, vs aB.Key, vs aB.Text, vl (eI .i64) aB.Seen])]⟩ ?_
  refine SRun.nil ?_
  refine nx_n ?_
  refine swp_cond (b := (aA.Office != aB.Office)) (by kernel_rfl) (fun hb => ?_) (fun hb => ?_)
  replace h := cond_t hb h
  refine swp_seq ?_
  refine swp_reg ?_
  refine SRun.ck tbok 1 ⟨31, [(4, vb false)], []⟩ ?_
  refine SRun.nil ?_
  refine nx_n ?_
  refine swp_ret ?_
  replace h := Option.some.inj h
  subst h
  exact nx_r (q_fr (fin1 (by kernel_rfl) (finV rfl SV.flat_of (holds_t (by kernel_rfl)))))
  replace h := cond_f hb h
  refine swp_skip ?_
  refine nx_n ?_
  refine swp_seq ?_
  refine swp_seq ?_
  refine swp_reg ?_
  refine SRun.ck tbok 5 ⟨31, [(2, .ref 2 0), (3, .ref 3 0), (14, vb (aA.Number != aB.Number))], [(2, .box [vi aA.Office, vi aA.Number, vs aA.Key, vs aA.Text, vl (eI .i64) aA.Seen]), (3, .box [vi aB.Office, vi aB.Number, vs aB.Key, vs aB.Text, vl (eI .i64) aB.Seen])]⟩ ?_
  refine SRun.nil ?_
  refine nx_n ?_
  refine swp_cond (b := (aA.Number != aB.Number)) (by kernel_rfl) (fun hb => ?_) (fun hb => ?_)
  replace h := cond_t hb h
  refine swp_seq ?_
  refine swp_reg ?_
  refine SRun.ck tbok 1 ⟨31, [(4, vb false)], []⟩ ?_
  refine SRun.nil ?_
  refine nx_n ?_
  refine swp_ret ?_
  replace h := Option.some.inj h
  subst h
  exact nx_r (q_fr (fin1 (by kernel_rfl) (finV rfl SV.flat_of (holds_t (by kernel_rfl)))))
  replace h := cond_f hb h
  refine swp_skip ?_
  refine nx_n ?_
  refine swp_seq ?_
  refine swp_seq ?_
  refine swp_reg ?_
  refine SRun.ck tbok 5 ⟨31, [(2, .ref 2 0), (3, .ref 3 0), (19, vb (!(aA.Key.toList == aB.Key.toList)))], [(2, .box [vi aA.Office, vi aA.Number, vs aA.Key, vs aA.Text, vl (eI .i64) aA.Seen]), (3, .box [vi aB.Office, vi aB.Number, vs aB.Key, vs aB.Text, vl (eI .i64) aB.Seen])]⟩ ?_
  refine SRun.nil ?_
  refine nx_n ?_
  refine swp_cond (b := (!(aA.Key.toList == aB.Key.toList))) (by kernel_rfl) (fun hb => ?_) (fun hb => ?_)
  replace h := cond_t hb h
  refine swp_seq ?_
  refine swp_reg ?_
  refine SRun.ck tbok 1 ⟨31, [(4, vb false)], []⟩ ?_
  refine SRun.nil ?_
  refine nx_n ?_
  refine swp_ret ?_
  replace h := Option.some.inj h
  subst h
  exact nx_r (q_fr (fin1 (by kernel_rfl) (finV rfl SV.flat_of (holds_t (by kernel_rfl)))))
  replace h := cond_f hb h
  refine swp_skip ?_
  refine nx_n ?_
  refine swp_seq ?_
  refine swp_seq ?_
  refine swp_reg ?_
  refine SRun.ck tbok 5 ⟨31, [(2, .ref 2 0), (3, .ref 3 0), (24, vb (!(aA.Text.toList == aB.Text.toList)))], [(2, .box [vi aA.Office, vi aA.Number, vs aA.Key, vs aA.Text, vl (eI .i64) aA.Seen]), (3, .box [vi aB.Office, vi aB.Number, vs aB.Key, vs aB.Text, vl (eI .i64) aB.Seen])]⟩ ?_
  refine SRun.nil ?_
  refine nx_n ?_
  refine swp_cond (b := (!(aA.Text.toList == aB.Text.toList))) (by kernel_rfl) (fun hb => ?_) (fun hb => ?_)
  replace h := cond_t hb h
  refine swp_seq ?_
  refine swp_reg ?_
  refine SRun.ck tbok 1 ⟨31, [(4, vb false)], []⟩ ?_
  refine SRun.nil ?_
  refine nx_n ?_
  refine swp_ret ?_
  replace h := Option.some.inj h
  subst h
  exact nx_r (q_fr (fin1 (by kernel_rfl) (finV rfl SV.flat_of (holds_t (by kernel_rfl)))))
  replace h := cond_f hb h
  refine swp_skip ?_
  refine nx_n ?_
  refine swp_seq ?_
  refine swp_seq ?_
  refine swp_reg ?_
  refine SRun.ck tbok 4 ⟨31, [(26, vl (eI .i64) aA.Seen), (28, vl (eI .i64) aB.Seen)], []⟩ ?_
  obtain ⟨x1, hx1, h⟩ := bind_some h
  refine SRun.ls (x_lstep_call (f := 21) (caps := []) (xs := [vl (eI .i64) aA.Seen, vl (eI .i64) aB.Seen]) (ys := [vl (eI .i64) aA.Seen, vl (eI .i64) aB.Seen]) (res := ⟨[.v (vb x1)], [], false⟩) (x := vb x1) (y := none) rfl ents21 (laws_eqInt64S_run aA.Seen aB.Seen _ hx1) rfl (by intro hc; cases hc)) ?_
  refine SRun.ck tbok 1 ⟨31, [(30, vb (!x1))], []⟩ ?_
  refine SRun.nil ?_
  refine nx_n ?_
  refine swp_cond (b := (!x1)) (by kernel_rfl) (fun hb => ?_) (fun hb => ?_)
  replace h := cond_t hb h
  refine swp_seq ?_
  refine swp_reg ?_
  refine SRun.ck tbok 1 ⟨31, [(4, vb false)], []⟩ ?_
  refine SRun.nil ?_
  refine nx_n ?_
  refine swp_ret ?_
  replace h := Option.some.inj h
  subst h
  exact nx_r (q_fr (fin1 (by kernel_rfl) (finV rfl SV.flat_of (holds_t (by kernel_rfl)))))
  replace h := cond_f hb h
  refine swp_skip ?_
  refine nx_n ?_
  refine swp_seq ?_
  refine swp_reg ?_
  refine SRun.ck tbok 1 ⟨31, [(4, vb true)], []⟩ ?_
  refine SRun.nil ?_
  refine nx_n ?_
  refine swp_ret ?_
  replace h := Option.some.inj h
  subst h
  exact q_fr (fin1 (by kernel_rfl) (finV rfl SV.flat_of (holds_t (by kernel_rfl))))
theorem ents51 : Ents Tryd.prog 51 := ents_of Tryd.func51 (by kernel_rfl) rfl
noncomputable def laws_eqOpS (aA : (List Op)) (aB : (List Op)) : Option (Bool) :=
  (bif ((aA.length : Int) != (aB.length : Int)) then some false else (((forN (aA.length : Int) (fun (i3 : Int) (_ : Unit) => ((at' aA i3).bind fun x7 => ((at' aB i3).bind fun x8 => ((laws_eqOp x7 x8).bind fun x9 => (bif (!x9) then some (.inr (.inr false)) else some (.inl ())))))) (fun (_ : Unit) => .inl ()) 0 ())).bind (Sum.elim (fun (_ : Unit) => some true) some)))
set_option maxRecDepth 100000 in
set_option maxHeartbeats 4000000 in
theorem laws_eqOpS_run (aA : (List Op)) (aB : (List Op)) (r : Bool) (h : laws_eqOpS aA aB = some r) : SCall Tryd.prog 16 [.v (vl eOp aA), .v (vl eOp aB)] ⟨[.v (vb r)], [], false⟩ := by
  refine scall_in Tryd.func16 rfl [(.tmp 4)] rfl (fun r => ⟨[.v (vb r)], [], false⟩) (r := r) ?_
  unfold laws_eqOpS at h
  refine swp_seq ?_
  refine swp_reg ?_
  refine SRun.ck tbok 1 ⟨27, [(0, vl eOp aA), (1, vl eOp aB)], []⟩ ?_
  refine SRun.nil ?_
  refine nx_n ?_
  refine swp_seq ?_
  refine swp_seq ?_
  refine swp_reg ?_
  refine SRun.ck tbok 5 ⟨27, [(0, vl eOp aA), (1, vl eOp aB), (10, vb ((aA.length : Int) != (aB.length : Int)))], []⟩ ?_
  refine SRun.nil ?_
  refine nx_n ?_
  refine swp_cond (b := ((aA.length : Int) != (aB.length : Int))) (by kernel_rfl) (fun hb => ?_) (fun hb => ?_)
  replace h := cond_t hb h
  refine swp_seq ?_
  refine swp_reg ?_
  refine SRun.ck tbok 1 ⟨27, [(4, vb false)], []⟩ ?_
  refine SRun.nil ?_
  refine nx_n ?_
  refine swp_ret ?_
  replace h := Option.some.inj h
  subst h
  exact nx_r (q_fr (fin1 (by kernel_rfl) (finV rfl SV.flat_of (holds_t (by kernel_rfl)))))
  replace h := cond_f hb h
  refine swp_skip ?_
  refine nx_n ?_
  refine swp_seq ?_
  refine swp_seq ?_
  refine swp_reg ?_
  refine SRun.ck tbok 1 ⟨27, [(0, vl eOp aA), (1, vl eOp aB), (5, vi 0)], []⟩ ?_
  refine SRun.nil ?_
  refine nx_n ?_
  refine swp_seqE (r := r) h (fun j1 => ⟨27, [], []⟩) (fun v2 h => ?_) (fun j1 h => ?_)
  refine swp_blk (a := v2) ?_
  refine swp_lpL (r := v2) (s := (0, ())) _ (fun s3 => ⟨27, [(0, vl eOp aA), (1, vl eOp aB), (5, vi s3.1)], []⟩) _ (Le.sub0) h (fun s3 v4 h => ?_)
  refine swp_seq ?_
  refine swp_seq ?_
  refine swp_reg ?_
  refine SRun.ck tbok 4 ⟨27, [(0, vl eOp aA), (1, vl eOp aB), (5, vi s3.1), (14, vb (decide (s3.1 < (aA.length : Int))))], []⟩ ?_
  refine SRun.nil ?_
  refine nx_n ?_
  refine swp_cond (b := (decide (s3.1 < (aA.length : Int)))) (by kernel_rfl) (fun hb => ?_) (fun hb => ?_)
  replace h := cond_t hb h
  refine swp_skip ?_
  refine nx_n ?_
  refine swp_seq ?_
  refine swp_seqL (r := v4) h (fun j5 => ⟨27, [(0, vl eOp aA), (1, vl eOp aB), (5, vi s3.1)], []⟩) (fun v6 h => ?_) (fun j5 h => ?_)
  refine swp_blk (a := v6) ?_
  refine swp_seq ?_
  refine swp_dr mixed ?_
  refine DGo.chunk' tbok 2 (σ' := ⟨27, [(18, vi s3.1), (17, vl eOp aA), (0, vl eOp aA), (1, vl eOp aB), (5, vi s3.1), (14, vb (decide (s3.1 < (aA.length : Int))))], []⟩) (by kernel_rfl) ?_
  obtain ⟨x7, hx7, h⟩ := bind_some h
  refine DGo.step (x_index (L := aA) (f := eOp) (ti := ti25) (tj := ti61) (e := 61) (k := .i64) tbok rfl hx7) ?_
  refine DGo.chunk' tbok 3 (σ' := ⟨27, [(22, vi s3.1), (21, vl eOp aB), (20, .agg [vi x7.Office, vi x7.Number, vs x7.Key, vs x7.Text, vl (eI .i64) x7.Seen]), (19, .ptr ((eOp x7).map .tr) 0), (18, vi s3.1), (17, vl eOp aA), (0, vl eOp aA), (1, vl eOp aB), (5, vi s3.1), (14, vb (decide (s3.1 < (aA.length : Int))))], []⟩) (by kernel_rfl) ?_
  obtain ⟨x8, hx8, h⟩ := bind_some h
  refine DGo.step (x_index (L := aB) (f := eOp) (ti := ti25) (tj := ti61) (e := 61) (k := .i64) tbok rfl hx8) ?_
  refine DGo.chunk' tbok 1 (σ' := ⟨27, [(24, .agg [vi x8.Office, vi x8.Number, vs x8.Key, vs x8.Text, vl (eI .i64) x8.Seen]), (23, .ptr ((eOp x8).map .tr) 0), (22, vi s3.1), (21, vl eOp aB), (20, .agg [vi x7.Office, vi x7.Number, vs x7.Key, vs x7.Text, vl (eI .i64) x7.Seen]), (19, .ptr ((eOp x7).map .tr) 0), (18, vi s3.1), (17, vl eOp aA), (0, vl eOp aA), (1, vl eOp aB), (5, vi s3.1), (14, vb (decide (s3.1 < (aA.length : Int))))], []⟩) (by kernel_rfl) ?_
  obtain ⟨x9, hx9, h⟩ := bind_some h
  refine DGo.step (x_lstep_call (f := 51) (caps := []) (xs := [.agg [vi x7.Office, vi x7.Number, vs x7.Key, vs x7.Text, vl (eI .i64) x7.Seen], .agg [vi x8.Office, vi x8.Number, vs x8.Key, vs x8.Text, vl (eI .i64) x8.Seen]]) (ys := [.agg [vi x7.Office, vi x7.Number, vs x7.Key, vs x7.Text, vl (eI .i64) x7.Seen], .agg [vi x8.Office, vi x8.Number, vs x8.Key, vs x8.Text, vl (eI .i64) x8.Seen]]) (res := ⟨[.v (vb x9)], [], false⟩) (x := vb x9) (y := none) rfl ents51 (laws_eqOp_run x7 x8 _ hx9) rfl (by intro hc; cases hc)) ?_
  refine DGo.chunk' tbok 1 (σ' := ⟨27, [(26, vb (!x9)), (25, vb x9), (24, .agg [vi x8.Office, vi x8.Number, vs x8.Key, vs x8.Text, vl (eI .i64) x8.Seen]), (23, .ptr ((eOp x8).map .tr) 0), (22, vi s3.1), (21, vl eOp aB), (20, .agg [vi x7.Office, vi x7.Number, vs x7.Key, vs x7.Text, vl (eI .i64) x7.Seen]), (19, .ptr ((eOp x7).map .tr) 0), (18, vi s3.1), (17, vl eOp aA), (0, vl eOp aA), (1, vl eOp aB), (5, vi s3.1), (14, vb (decide (s3.1 < (aA.length : Int))))], []⟩) (by kernel_rfl) ?_
  refine DGo.nil (by kernel_rfl) ?_
  refine nx_n ?_
  refine swp_cond (b := (!x9)) (by kernel_rfl) (fun hb => ?_) (fun hb => ?_)
  replace h := cond_t hb h
  refine swp_seq ?_
  refine swp_reg ?_
  refine SRun.ck tbok 1 ⟨27, [(4, vb false)], []⟩ ?_
  refine SRun.nil ?_
  refine nx_n ?_
  refine swp_ret ?_
  replace h := Option.some.inj h
  subst h
  exact q_br (q_rr (q_rr (q_br (q_rr (q_fr (fin1 (by kernel_rfl) (finV rfl SV.flat_of (holds_t (by kernel_rfl)))))))))
  replace h := cond_f hb h
  refine swp_skip ?_
  replace h := Option.some.inj h
  subst h
  exact q_bn (q_l (Le.sub0))
  refine swp_reg ?_
  refine SRun.ck tbok 3 ⟨27, [(0, vl eOp aA), (1, vl eOp aB), (5, vi (w64 (s3.1 + 1)))], []⟩ ?_
  refine SRun.nil ?_
  replace h := Option.some.inj h
  subst h
  exact q_l (Le.sub0)
  replace h := cond_f hb h
  refine swp_exit ?_
  replace h := Option.some.inj h
  subst h
  exact nx_e (q_re (q_bh (q_l (Le.sub0))))
  refine swp_seq ?_
  refine swp_reg ?_
  refine SRun.ck tbok 1 ⟨27, [(4, vb true)], []⟩ ?_
  refine SRun.nil ?_
  refine nx_n ?_
  refine swp_ret ?_
  replace h := Option.some.inj h
  subst h
  exact q_fr (fin1 (by kernel_rfl) (finV rfl SV.flat_of (holds_t (by kernel_rfl))))
theorem ents16 : Ents Tryd.prog 16 := ents_of Tryd.func16 (by kernel_rfl) rfl
noncomputable def laws_FnExactIsLog (aALog : (List Op)) : Option (Bool) :=
  ((laws_szOpS aALog 1048576).bind fun x1 => (bif (decide (x1 < 0)) then some true else ((laws_toOpS aALog).bind fun x2 => ((spec_IsLog x2).bind fun x3 => ((laws_toOpS aALog).bind fun x4 => ((impl_IsLog x4).bind fun x5 => (bif (!(x5 == x3)) then some false else ((laws_toOpS aALog).bind fun x6 => ((laws_eqOpS x4 x6).bind fun x7 => (bif (!x7) then some false else some true))))))))))
set_option maxRecDepth 100000 in
set_option maxHeartbeats 4000000 in
theorem laws_FnExactIsLog_run (aALog : (List Op)) (r : Bool) (h : laws_FnExactIsLog aALog = some r) : SCall Tryd.prog 3 [.v (vl eOp aALog)] ⟨[.v (vb r)], [], false⟩ := by
  refine scall_in Tryd.func3 rfl [(.tmp 2)] rfl (fun r => ⟨[.v (vb r)], [], false⟩) (r := r) ?_
  unfold laws_FnExactIsLog at h
  refine swp_seq ?_
  refine swp_reg ?_
  refine SRun.ck tbok 1 ⟨27, [(0, vl eOp aALog)], []⟩ ?_
  refine SRun.nil ?_
  refine nx_n ?_
  refine swp_seq ?_
  refine swp_reg ?_
  refine SRun.ck tbok 1 ⟨27, [(0, vl eOp aALog), (3, vi 1048576)], []⟩ ?_
  refine SRun.nil ?_
  refine nx_n ?_
  refine swp_seq ?_
  refine swp_reg ?_
  refine SRun.ck tbok 2 ⟨27, [(0, vl eOp aALog), (7, vl eOp aALog), (8, vi 1048576)], []⟩ ?_
  obtain ⟨x1, hx1, h⟩ := bind_some h
  refine SRun.ls (x_lstep_call (f := 12) (caps := []) (xs := [vl eOp aALog, vi 1048576]) (ys := [vl eOp aALog, vi 1048576]) (res := ⟨[.v (vi x1)], [], false⟩) (x := vi x1) (y := none) rfl ents12 (laws_szOpS_run aALog 1048576 _ hx1) rfl (by intro hc; cases hc)) ?_
  refine SRun.ck tbok 1 ⟨27, [(0, vl eOp aALog), (3, vi x1)], []⟩ ?_
  refine SRun.nil ?_
  refine nx_n ?_
  refine swp_seq ?_
  refine swp_seq ?_
  refine swp_reg ?_
  refine SRun.ck tbok 2 ⟨27, [(0, vl eOp aALog), (11, vb (decide (x1 < 0)))], []⟩ ?_
  refine SRun.nil ?_
  refine nx_n ?_
  refine swp_cond (b := (decide (x1 < 0))) (by kernel_rfl) (fun hb => ?_) (fun hb => ?_)
  replace h := cond_t hb h
  refine swp_seq ?_
  refine swp_reg ?_
  refine SRun.ck tbok 1 ⟨27, [(2, vb true)], []⟩ ?_
  refine SRun.nil ?_
  refine nx_n ?_
  refine swp_ret ?_
  replace h := Option.some.inj h
  subst h
  exact nx_r (q_fr (fin1 (by kernel_rfl) (finV rfl SV.flat_of (holds_t (by kernel_rfl)))))
  replace h := cond_f hb h
  refine swp_skip ?_
  refine nx_n ?_
  refine swp_seq ?_
  refine swp_reg ?_
  refine SRun.ck tbok 1 ⟨27, [(0, vl eOp aALog), (12, vl eOp aALog)], []⟩ ?_
  obtain ⟨x2, hx2, h⟩ := bind_some h
  refine SRun.ls (x_lstep_call (f := 14) (caps := []) (xs := [vl eOp aALog]) (ys := [vl eOp aALog]) (res := ⟨[.deep 61 5 x2.length [.flat, .flat, .flat, .flat, (.sl 2 1 [.flat])] (x2.map eOp)], [], false⟩) (x := .own 13) (y := some (.deep 61 5 x2.length [.flat, .flat, .flat, .flat, (.sl 2 1 [.flat])] (x2.map eOp))) rfl ents14 (laws_toOpS_run aALog _ hx2) rfl (by intro hc; cases hc)) ?_
  obtain ⟨x3, hx3, h⟩ := bind_some h
  refine SRun.ls (x_lstep_call (f := 13) (caps := []) (xs := [.own 13]) (ys := [vl eOp x2]) (res := ⟨[.v (vb x3)], [], false⟩) (x := vb x3) (y := none) rfl ents13 (spec_IsLog_run x2 _ hx3) rfl (by intro hc; cases hc)) ?_
  refine SRun.ck tbok 1 ⟨27, [(0, vl eOp aALog), (4, vb x3)], []⟩ ?_
  refine SRun.nil ?_
  refine nx_n ?_
  refine swp_seq ?_
  refine swp_reg ?_
  refine SRun.ck tbok 1 ⟨27, [(0, vl eOp aALog), (4, vb x3), (15, vl eOp aALog)], []⟩ ?_
  obtain ⟨x4, hx4, h⟩ := bind_some h
  refine SRun.ls (x_lstep_call (f := 14) (caps := []) (xs := [vl eOp aALog]) (ys := [vl eOp aALog]) (res := ⟨[.deep 61 5 x4.length [.flat, .flat, .flat, .flat, (.sl 2 1 [.flat])] (x4.map eOp)], [], false⟩) (x := .own 16) (y := some (.deep 61 5 x4.length [.flat, .flat, .flat, .flat, (.sl 2 1 [.flat])] (x4.map eOp))) rfl ents14 (laws_toOpS_run aALog _ hx4) rfl (by intro hc; cases hc)) ?_
  refine SRun.ck tbok 1 ⟨27, [(0, vl eOp aALog), (4, vb x3), (5, .own 16)], [(16, .deep 61 5 x4.length [.flat, .flat, .flat, .flat, (.sl 2 1 [.flat])] (x4.map eOp))]⟩ ?_
  refine SRun.nil ?_
  refine nx_n ?_
  refine swp_seq ?_
  refine swp_reg ?_
  refine SRun.ck tbok 1 ⟨27, [(0, vl eOp aALog), (4, vb x3), (5, .own 16), (17, .own 16)], [(16, .deep 61 5 x4.length [.flat, .flat, .flat, .flat, (.sl 2 1 [.flat])] (x4.map eOp))]⟩ ?_
  obtain ⟨x5, hx5, h⟩ := bind_some h
  refine SRun.ls (x_lstep_call (f := 15) (caps := []) (xs := [.own 16]) (ys := [vl eOp x4]) (res := ⟨[.v (vb x5)], [], false⟩) (x := vb x5) (y := none) rfl ents15 (impl_IsLog_run x4 _ hx5) rfl (by intro hc; cases hc)) ?_
  refine SRun.ck tbok 1 ⟨27, [(0, vl eOp aALog), (4, vb x3), (5, .own 16), (6, vb x5)], [(16, .deep 61 5 x4.length [.flat, .flat, .flat, .flat, (.sl 2 1 [.flat])] (x4.map eOp))]⟩ ?_
  refine SRun.nil ?_
  refine nx_n ?_
  refine swp_seq ?_
  refine swp_seq ?_
  refine swp_reg ?_
  refine SRun.ck tbok 2 ⟨27, [(0, vl eOp aALog), (5, .own 16), (19, vb x5), (20, vb x3)], [(16, .deep 61 5 x4.length [.flat, .flat, .flat, .flat, (.sl 2 1 [.flat])] (x4.map eOp))]⟩ ?_
  refine SRun.ls (x_lstep_eqb tbok (ti := ti4) (i := x5) (j := x3) true rfl) ?_
  refine SRun.nil ?_
  refine nx_n ?_
  refine swp_cond (b := (!(x5 == x3))) (by kernel_rfl) (fun hb => ?_) (fun hb => ?_)
  replace h := cond_t hb h
  refine swp_seq ?_
  refine swp_reg ?_
  refine SRun.ck tbok 1 ⟨27, [(2, vb false)], []⟩ ?_
  refine SRun.nil ?_
  refine nx_n ?_
  refine swp_ret ?_
  replace h := Option.some.inj h
  subst h
  exact nx_r (q_fr (fin1 (by kernel_rfl) (finV rfl SV.flat_of (holds_t (by kernel_rfl)))))
  replace h := cond_f hb h
  refine swp_skip ?_
  refine nx_n ?_
  refine swp_seq ?_
  refine swp_seq ?_
  refine swp_reg ?_
  refine SRun.ck tbok 2 ⟨27, [(22, .own 16), (23, vl eOp aALog)], [(16, .deep 61 5 x4.length [.flat, .flat, .flat, .flat, (.sl 2 1 [.flat])] (x4.map eOp))]⟩ ?_
  obtain ⟨x6, hx6, h⟩ := bind_some h
  refine SRun.ls (x_lstep_call (f := 14) (caps := []) (xs := [vl eOp aALog]) (ys := [vl eOp aALog]) (res := ⟨[.deep 61 5 x6.length [.flat, .flat, .flat, .flat, (.sl 2 1 [.flat])] (x6.map eOp)], [], false⟩) (x := .own 24) (y := some (.deep 61 5 x6.length [.flat, .flat, .flat, .flat, (.sl 2 1 [.flat])] (x6.map eOp))) rfl ents14 (laws_toOpS_run aALog _ hx6) rfl (by intro hc; cases hc)) ?_
  obtain ⟨x7, hx7, h⟩ := bind_some h
  refine SRun.ls (x_lstep_call (f := 16) (caps := []) (xs := [.own 16, .own 24]) (ys := [vl eOp x4, vl eOp x6]) (res := ⟨[.v (vb x7)], [], false⟩) (x := vb x7) (y := none) rfl ents16 (laws_eqOpS_run x4 x6 _ hx7) rfl (by intro hc; cases hc)) ?_
  refine SRun.ck tbok 1 ⟨27, [(26, vb (!x7))], []⟩ ?_
  refine SRun.nil ?_
  refine nx_n ?_
  refine swp_cond (b := (!x7)) (by kernel_rfl) (fun hb => ?_) (fun hb => ?_)
  replace h := cond_t hb h
  refine swp_seq ?_
  refine swp_reg ?_
  refine SRun.ck tbok 1 ⟨27, [(2, vb false)], []⟩ ?_
  refine SRun.nil ?_
  refine nx_n ?_
  refine swp_ret ?_
  replace h := Option.some.inj h
  subst h
  exact nx_r (q_fr (fin1 (by kernel_rfl) (finV rfl SV.flat_of (holds_t (by kernel_rfl)))))
  replace h := cond_f hb h
  refine swp_skip ?_
  refine nx_n ?_
  refine swp_seq ?_
  refine swp_reg ?_
  refine SRun.ck tbok 1 ⟨27, [(2, vb true)], []⟩ ?_
  refine SRun.nil ?_
  refine nx_n ?_
  refine swp_ret ?_
  replace h := Option.some.inj h
  subst h
  exact q_fr (fin1 (by kernel_rfl) (finV rfl SV.flat_of (holds_t (by kernel_rfl))))
theorem ents3 : Ents Tryd.prog 3 := ents_of Tryd.func3 (by kernel_rfl) rfl
noncomputable def spec_l32Knows (aA : Op) (aB : Op) : Option (Bool) :=
  ((at' aA.Seen aB.Office).bind fun x1 => some (decide (aB.Number ≤ x1)))
set_option maxRecDepth 100000 in
set_option maxHeartbeats 4000000 in
theorem spec_l32Knows_run (aA : Op) (aB : Op) (r : Bool) (h : spec_l32Knows aA aB = some r) : SCall Tryd.prog 52 [.v (.agg [vi aA.Office, vi aA.Number, vs aA.Key, vs aA.Text, vl (eI .i64) aA.Seen]), .v (.agg [vi aB.Office, vi aB.Number, vs aB.Key, vs aB.Text, vl (eI .i64) aB.Seen])] ⟨[.v (vb r)], [], false⟩ := by
  refine scall_in Tryd.func52 rfl [(.tmp 4)] rfl (fun r => ⟨[.v (vb r)], [], false⟩) (r := r) ?_
  unfold spec_l32Knows at h
  refine swp_seq ?_
  refine swp_reg ?_
  refine SRun.ck tbok 3 ⟨14, [(2, .ref 2 0), (3, .ref 3 0)], [(2, .box [vi aA.Office, vi aA.Number, vs aA.Key, vs aA.Text, vl (eI .i64) aA.Seen]), (3, .box [vi aB.Office, vi aB.Number, vs aB.Key, vs aB.Text, vl (eI .i64) aB.Seen])]⟩ ?_
  refine SRun.nil ?_
  refine nx_n ?_
  refine swp_seq ?_
  refine swp_dr mixed ?_
  refine DGo.chunk' tbok 6 (σ' := ⟨14, [(10, vi aB.Office), (9, .ref 3 0), (8, vl (eI .i64) aA.Seen), (7, .ref 2 4), (6, vi aB.Number), (5, .ref 3 1), (2, .ref 2 0), (3, .ref 3 0)], [(2, .box [vi aA.Office, vi aA.Number, vs aA.Key, vs aA.Text, vl (eI .i64) aA.Seen]), (3, .box [vi aB.Office, vi aB.Number, vs aB.Key, vs aB.Text, vl (eI .i64) aB.Seen])]⟩) (by kernel_rfl) ?_
  obtain ⟨x1, hx1, h⟩ := bind_some h
  refine DGo.step (x_index (L := aA.Seen) (f := (eI .i64)) (ti := ti32) (tj := ti2) (e := 2) (k := .i64) tbok rfl hx1) ?_
  refine DGo.chunk' tbok 3 (σ' := ⟨14, [(4, vb (decide (aB.Number ≤ x1))), (13, vb (decide (aB.Number ≤ x1))), (12, vi x1), (11, .ptr (((eI .i64) x1).map .tr) 0), (10, vi aB.Office), (9, .ref 3 0), (8, vl (eI .i64) aA.Seen), (7, .ref 2 4), (6, vi aB.Number), (5, .ref 3 1), (2, .ref 2 0), (3, .ref 3 0)], [(2, .box [vi aA.Office, vi aA.Number, vs aA.Key, vs aA.Text, vl (eI .i64) aA.Seen]), (3, .box [vi aB.Office, vi aB.Number, vs aB.Key, vs aB.Text, vl (eI .i64) aB.Seen])]⟩) (by kernel_rfl) ?_
  refine DGo.nil (by kernel_rfl) ?_
  refine nx_n ?_
  refine swp_ret ?_
  replace h := Option.some.inj h
  subst h
  exact q_fr (fin1 (by kernel_rfl) (finV rfl SV.flat_of (holds_t (by kernel_rfl))))
theorem ents52 : Ents Tryd.prog 52 := ents_of Tryd.func52 (by kernel_rfl) rfl
noncomputable def spec_AtOnce (aLog : (List Op)) (aA : Int) (aB : Int) : Option (Bool × Int) :=
  ((spec_IsLog aLog).bind fun x1 => (bif (!x1) then some (false, 1) else ((((spec_l01In aA 0 (w64 ((aLog.length : Int) - 1))).bind fun x2 => (bif (!x2) then some true else ((spec_l01In aB 0 (w64 ((aLog.length : Int) - 1))).bind fun x3 => (bif (!x3) then some true else some (aA == aB)))))).bind fun (j4 : Bool) => (bif j4 then some (false, 2) else ((((at' aLog aA).bind fun x6 => ((at' aLog aB).bind fun x7 => ((spec_l32Knows x6 x7).bind fun x8 => (bif (!x8) then ((at' aLog aB).bind fun x9 => ((at' aLog aA).bind fun x10 => ((spec_l32Knows x9 x10).bind fun x11 => some (!x11)))) else some false))))).bind fun (j12 : Bool) => some (j12, 0))))))
set_option maxRecDepth 100000 in
set_option maxHeartbeats 4000000 in
theorem spec_AtOnce_run (aLog : (List Op)) (aA : Int) (aB : Int) (r : Bool × Int) (h : spec_AtOnce aLog aA aB = some r) : SCall Tryd.prog 17 [.v (vl eOp aLog), .v (vi aA), .v (vi aB)] ⟨[.v (vb r.1), .v (vi r.2)], [], false⟩ := by
  refine scall_in Tryd.func17 rfl [(.tmp 6), (.tmp 7)] rfl (fun r => ⟨[.v (vb r.1), .v (vi r.2)], [], false⟩) (r := r) ?_
  unfold spec_AtOnce at h
  refine swp_seq ?_
  refine swp_reg ?_
  refine SRun.ck tbok 2 ⟨52, [(0, vl eOp aLog), (1, vi aA), (2, vi aB)], []⟩ ?_
  refine SRun.nil ?_
  refine nx_n ?_
  refine swp_seq ?_
  refine swp_seq ?_
  refine swp_reg ?_
  refine SRun.ck tbok 1 ⟨52, [(0, vl eOp aLog), (1, vi aA), (2, vi aB), (9, vl eOp aLog)], []⟩ ?_
  obtain ⟨x1, hx1, h⟩ := bind_some h
  refine SRun.ls (x_lstep_call (f := 13) (caps := []) (xs := [vl eOp aLog]) (ys := [vl eOp aLog]) (res := ⟨[.v (vb x1)], [], false⟩) (x := vb x1) (y := none) rfl ents13 (spec_IsLog_run aLog _ hx1) rfl (by intro hc; cases hc)) ?_
  refine SRun.ck tbok 1 ⟨52, [(0, vl eOp aLog), (1, vi aA), (2, vi aB), (11, vb (!x1))], []⟩ ?_
  refine SRun.nil ?_
  refine nx_n ?_
  refine swp_cond (b := (!x1)) (by kernel_rfl) (fun hb => ?_) (fun hb => ?_)
  replace h := cond_t hb h
  refine swp_seq ?_
  refine swp_reg ?_
  refine SRun.ck tbok 2 ⟨52, [(6, vb false), (7, vi 1)], []⟩ ?_
  refine SRun.nil ?_
  refine nx_n ?_
  refine swp_ret ?_
  replace h := Option.some.inj h
  subst h
  exact nx_r (q_fr (fin2 (by kernel_rfl) (finV rfl SV.flat_of (holds_t (by kernel_rfl))) (finV rfl SV.flat_of (holds_t (by kernel_rfl)))))
  replace h := cond_f hb h
  refine swp_skip ?_
  refine nx_n ?_
  refine swp_seq ?_
  refine swp_reg ?_
  refine SRun.ck tbok 4 ⟨52, [(0, vl eOp aLog), (1, vi aA), (2, vi aB), (8, vi (w64 ((aLog.length : Int) - 1)))], []⟩ ?_
  refine SRun.nil ?_
  refine nx_n ?_
  refine swp_seq ?_
  refine swp_seq ?_
  refine swp_regJ h (fun j4 => ⟨52, [(0, vl eOp aLog), (1, vi aA), (2, vi aB), (29, vb j4)], []⟩) (fun v5 h => ?_) (fun j4 h => ?_)
  refine SRun.ck tbok 2 ⟨52, [(0, vl eOp aLog), (1, vi aA), (2, vi aB), (8, vi (w64 ((aLog.length : Int) - 1))), (15, vi aA), (16, vi (w64 ((aLog.length : Int) - 1)))], []⟩ ?_
  obtain ⟨x2, hx2, h⟩ := bind_some h
  refine SRun.ls (x_lstep_call (f := 44) (caps := []) (xs := [vi aA, vi 0, vi (w64 ((aLog.length : Int) - 1))]) (ys := [vi aA, vi 0, vi (w64 ((aLog.length : Int) - 1))]) (res := ⟨[.v (vb x2)], [], false⟩) (x := vb x2) (y := none) rfl ents44 (spec_l01In_run aA 0 (w64 ((aLog.length : Int) - 1)) _ hx2) rfl (by intro hc; cases hc)) ?_
  refine SRun.ck tbok 2 ⟨52, [(0, vl eOp aLog), (1, vi aA), (2, vi aB), (8, vi (w64 ((aLog.length : Int) - 1))), (19, vb (!x2))], []⟩ ?_
  refine SRun.cut [(19, fun b => b)] (b := (!x2)) (by kernel_rfl) (fun hb => ?_) (fun hb => ?_)
  replace h := cond_t hb h
  refine SRun.ck tbok 10 ⟨52, [(0, vl eOp aLog), (1, vi aA), (2, vi aB), (29, vb true)], []⟩ ?_
  refine SRun.nil ?_
  replace h := Option.some.inj h
  subst h
  exact Le.sub0
  replace h := cond_f hb h
  refine SRun.ck tbok 2 ⟨52, [(0, vl eOp aLog), (1, vi aA), (2, vi aB), (19, vb false), (20, vi aB), (21, vi (w64 ((aLog.length : Int) - 1)))], []⟩ ?_
  obtain ⟨x3, hx3, h⟩ := bind_some h
  refine SRun.ls (x_lstep_call (f := 44) (caps := []) (xs := [vi aB, vi 0, vi (w64 ((aLog.length : Int) - 1))]) (ys := [vi aB, vi 0, vi (w64 ((aLog.length : Int) - 1))]) (res := ⟨[.v (vb x3)], [], false⟩) (x := vb x3) (y := none) rfl ents44 (spec_l01In_run aB 0 (w64 ((aLog.length : Int) - 1)) _ hx3) rfl (by intro hc; cases hc)) ?_
  refine SRun.ck tbok 3 ⟨52, [(0, vl eOp aLog), (1, vi aA), (2, vi aB), (25, vb (!x3))], []⟩ ?_
  refine SRun.cut [(25, fun b => b)] (b := (!x3)) (by kernel_rfl) (fun hb => ?_) (fun hb => ?_)
  replace h := cond_t hb h
  refine SRun.ck tbok 4 ⟨52, [(0, vl eOp aLog), (1, vi aA), (2, vi aB), (29, vb true)], []⟩ ?_
  refine SRun.nil ?_
  replace h := Option.some.inj h
  subst h
  exact Le.sub0
  replace h := cond_f hb h
  refine SRun.ck tbok 4 ⟨52, [(0, vl eOp aLog), (1, vi aA), (2, vi aB), (29, vb (aA == aB))], []⟩ ?_
  refine SRun.nil ?_
  replace h := Option.some.inj h
  subst h
  exact Le.sub0
  refine swp_cond (b := j4) (by kernel_rfl) (fun hb => ?_) (fun hb => ?_)
  replace h := cond_t hb h
  refine swp_seq ?_
  refine swp_reg ?_
  refine SRun.ck tbok 2 ⟨52, [(6, vb false), (7, vi 2)], []⟩ ?_
  refine SRun.nil ?_
  refine nx_n ?_
  refine swp_ret ?_
  replace h := Option.some.inj h
  subst h
  exact nx_r (q_fr (fin2 (by kernel_rfl) (finV rfl SV.flat_of (holds_t (by kernel_rfl))) (finV rfl SV.flat_of (holds_t (by kernel_rfl)))))
  replace h := cond_f hb h
  refine swp_skip ?_
  refine nx_n ?_
  refine swp_seq ?_
  refine swp_drJ mixed h (fun j12 => ⟨52, [(6, vb j12), (7, vi 0)], []⟩) (fun v13 h => ?_) (fun j12 h => ?_)
  refine DGo.chunk' tbok 2 (σ' := ⟨52, [(31, vi aA), (30, vl eOp aLog), (0, vl eOp aLog), (1, vi aA), (2, vi aB), (29, vb j4)], []⟩) (by kernel_rfl) ?_
  obtain ⟨x6, hx6, h⟩ := bind_some h
  refine DGo.step (x_index (L := aLog) (f := eOp) (ti := ti25) (tj := ti61) (e := 61) (k := .i64) tbok rfl hx6) ?_
  refine DGo.chunk' tbok 3 (σ' := ⟨52, [(35, vi aB), (34, vl eOp aLog), (33, .agg [vi x6.Office, vi x6.Number, vs x6.Key, vs x6.Text, vl (eI .i64) x6.Seen]), (32, .ptr ((eOp x6).map .tr) 0), (31, vi aA), (30, vl eOp aLog), (0, vl eOp aLog), (1, vi aA), (2, vi aB), (29, vb j4)], []⟩) (by kernel_rfl) ?_
  obtain ⟨x7, hx7, h⟩ := bind_some h
  refine DGo.step (x_index (L := aLog) (f := eOp) (ti := ti25) (tj := ti61) (e := 61) (k := .i64) tbok rfl hx7) ?_
  refine DGo.chunk' tbok 1 (σ' := ⟨52, [(37, .agg [vi x7.Office, vi x7.Number, vs x7.Key, vs x7.Text, vl (eI .i64) x7.Seen]), (36, .ptr ((eOp x7).map .tr) 0), (35, vi aB), (34, vl eOp aLog), (33, .agg [vi x6.Office, vi x6.Number, vs x6.Key, vs x6.Text, vl (eI .i64) x6.Seen]), (32, .ptr ((eOp x6).map .tr) 0), (31, vi aA), (30, vl eOp aLog), (0, vl eOp aLog), (1, vi aA), (2, vi aB), (29, vb j4)], []⟩) (by kernel_rfl) ?_
  obtain ⟨x8, hx8, h⟩ := bind_some h
  refine DGo.step (x_lstep_call (f := 52) (caps := []) (xs := [.agg [vi x6.Office, vi x6.Number, vs x6.Key, vs x6.Text, vl (eI .i64) x6.Seen], .agg [vi x7.Office, vi x7.Number, vs x7.Key, vs x7.Text, vl (eI .i64) x7.Seen]]) (ys := [.agg [vi x6.Office, vi x6.Number, vs x6.Key, vs x6.Text, vl (eI .i64) x6.Seen], .agg [vi x7.Office, vi x7.Number, vs x7.Key, vs x7.Text, vl (eI .i64) x7.Seen]]) (res := ⟨[.v (vb x8)], [], false⟩) (x := vb x8) (y := none) rfl ents52 (spec_l32Knows_run x6 x7 _ hx8) rfl (by intro hc; cases hc)) ?_
  refine DGo.chunk' tbok 2 (σ' := ⟨52, [(40, vb (!x8)), (39, vb (!x8)), (38, vb x8), (37, .agg [vi x7.Office, vi x7.Number, vs x7.Key, vs x7.Text, vl (eI .i64) x7.Seen]), (36, .ptr ((eOp x7).map .tr) 0), (35, vi aB), (34, vl eOp aLog), (33, .agg [vi x6.Office, vi x6.Number, vs x6.Key, vs x6.Text, vl (eI .i64) x6.Seen]), (32, .ptr ((eOp x6).map .tr) 0), (31, vi aA), (30, vl eOp aLog), (0, vl eOp aLog), (1, vi aA), (2, vi aB), (29, vb j4)], []⟩) (by kernel_rfl) ?_
  refine DGo.cut [(40, fun b => b), (39, fun b => b)] (b := (!x8)) (by kernel_rfl) (fun hb => ?_) (fun hb => ?_)
  replace h := cond_t hb h
  refine DGo.chunk' tbok 2 (σ' := ⟨52, [(42, vi aB), (41, vl eOp aLog), (40, vb true), (39, vb true), (38, vb x8), (37, .agg [vi x7.Office, vi x7.Number, vs x7.Key, vs x7.Text, vl (eI .i64) x7.Seen]), (36, .ptr ((eOp x7).map .tr) 0), (35, vi aB), (34, vl eOp aLog), (33, .agg [vi x6.Office, vi x6.Number, vs x6.Key, vs x6.Text, vl (eI .i64) x6.Seen]), (32, .ptr ((eOp x6).map .tr) 0), (31, vi aA), (30, vl eOp aLog), (0, vl eOp aLog), (1, vi aA), (2, vi aB), (29, vb j4)], []⟩) (by kernel_rfl) ?_
  obtain ⟨x9, hx9, h⟩ := bind_some h
  refine DGo.step (x_index (L := aLog) (f := eOp) (ti := ti25) (tj := ti61) (e := 61) (k := .i64) tbok rfl hx9) ?_
  refine DGo.chunk' tbok 3 (σ' := ⟨52, [(46, vi aA), (45, vl eOp aLog), (44, .agg [vi x9.Office, vi x9.Number, vs x9.Key, vs x9.Text, vl (eI .i64) x9.Seen]), (43, .ptr ((eOp x9).map .tr) 0), (42, vi aB), (41, vl eOp aLog), (40, vb true), (39, vb true), (38, vb x8), (37, .agg [vi x7.Office, vi x7.Number, vs x7.Key, vs x7.Text, vl (eI .i64) x7.Seen]), (36, .ptr ((eOp x7).map .tr) 0), (35, vi aB), (34, vl eOp aLog), (33, .agg [vi x6.Office, vi x6.Number, vs x6.Key, vs x6.Text, vl (eI .i64) x6.Seen]), (32, .ptr ((eOp x6).map .tr) 0), (31, vi aA), (30, vl eOp aLog), (0, vl eOp aLog), (1, vi aA), (2, vi aB), (29, vb j4)], []⟩) (by kernel_rfl) ?_
  obtain ⟨x10, hx10, h⟩ := bind_some h
  refine DGo.step (x_index (L := aLog) (f := eOp) (ti := ti25) (tj := ti61) (e := 61) (k := .i64) tbok rfl hx10) ?_
  refine DGo.chunk' tbok 1 (σ' := ⟨52, [(48, .agg [vi x10.Office, vi x10.Number, vs x10.Key, vs x10.Text, vl (eI .i64) x10.Seen]), (47, .ptr ((eOp x10).map .tr) 0), (46, vi aA), (45, vl eOp aLog), (44, .agg [vi x9.Office, vi x9.Number, vs x9.Key, vs x9.Text, vl (eI .i64) x9.Seen]), (43, .ptr ((eOp x9).map .tr) 0), (42, vi aB), (41, vl eOp aLog), (40, vb true), (39, vb true), (38, vb x8), (37, .agg [vi x7.Office, vi x7.Number, vs x7.Key, vs x7.Text, vl (eI .i64) x7.Seen]), (36, .ptr ((eOp x7).map .tr) 0), (35, vi aB), (34, vl eOp aLog), (33, .agg [vi x6.Office, vi x6.Number, vs x6.Key, vs x6.Text, vl (eI .i64) x6.Seen]), (32, .ptr ((eOp x6).map .tr) 0), (31, vi aA), (30, vl eOp aLog), (0, vl eOp aLog), (1, vi aA), (2, vi aB), (29, vb j4)], []⟩) (by kernel_rfl) ?_
  obtain ⟨x11, hx11, h⟩ := bind_some h
  refine DGo.step (x_lstep_call (f := 52) (caps := []) (xs := [.agg [vi x9.Office, vi x9.Number, vs x9.Key, vs x9.Text, vl (eI .i64) x9.Seen], .agg [vi x10.Office, vi x10.Number, vs x10.Key, vs x10.Text, vl (eI .i64) x10.Seen]]) (ys := [.agg [vi x9.Office, vi x9.Number, vs x9.Key, vs x9.Text, vl (eI .i64) x9.Seen], .agg [vi x10.Office, vi x10.Number, vs x10.Key, vs x10.Text, vl (eI .i64) x10.Seen]]) (res := ⟨[.v (vb x11)], [], false⟩) (x := vb x11) (y := none) rfl ents52 (spec_l32Knows_run x9 x10 _ hx11) rfl (by intro hc; cases hc)) ?_
  refine DGo.chunk' tbok 4 (σ' := ⟨52, [(7, vi 0), (6, vb (!x11)), (51, vb (!x11)), (50, vb (!x11)), (49, vb x11), (48, .agg [vi x10.Office, vi x10.Number, vs x10.Key, vs x10.Text, vl (eI .i64) x10.Seen]), (47, .ptr ((eOp x10).map .tr) 0), (46, vi aA), (45, vl eOp aLog), (44, .agg [vi x9.Office, vi x9.Number, vs x9.Key, vs x9.Text, vl (eI .i64) x9.Seen]), (43, .ptr ((eOp x9).map .tr) 0), (42, vi aB), (41, vl eOp aLog), (40, vb true), (39, vb true), (38, vb x8), (37, .agg [vi x7.Office, vi x7.Number, vs x7.Key, vs x7.Text, vl (eI .i64) x7.Seen]), (36, .ptr ((eOp x7).map .tr) 0), (35, vi aB), (34, vl eOp aLog), (33, .agg [vi x6.Office, vi x6.Number, vs x6.Key, vs x6.Text, vl (eI .i64) x6.Seen]), (32, .ptr ((eOp x6).map .tr) 0), (31, vi aA), (30, vl eOp aLog), (0, vl eOp aLog), (1, vi aA), (2, vi aB), (29, vb j4)], []⟩) (by kernel_rfl) ?_
  refine DGo.nil (by kernel_rfl) ?_
  replace h := Option.some.inj h
  subst h
  exact Le.sub0
  replace h := cond_f hb h
  refine DGo.chunk' tbok 13 (σ' := ⟨52, [(7, vi 0), (6, vb false), (51, vb false), (50, .tup []), (49, .tup []), (48, .tup []), (47, .tup []), (46, .tup []), (45, .tup []), (44, .tup []), (43, .tup []), (42, .tup []), (41, .tup []), (40, vb false), (39, vb false), (38, vb x8), (37, .agg [vi x7.Office, vi x7.Number, vs x7.Key, vs x7.Text, vl (eI .i64) x7.Seen]), (36, .ptr ((eOp x7).map .tr) 0), (35, vi aB), (34, vl eOp aLog), (33, .agg [vi x6.Office, vi x6.Number, vs x6.Key, vs x6.Text, vl (eI .i64) x6.Seen]), (32, .ptr ((eOp x6).map .tr) 0), (31, vi aA), (30, vl eOp aLog), (0, vl eOp aLog), (1, vi aA), (2, vi aB), (29, vb j4)], []⟩) (by kernel_rfl) ?_
  refine DGo.nil (by kernel_rfl) ?_
  replace h := Option.some.inj h
  subst h
  exact Le.sub0
  refine swp_ret ?_
  replace h := Option.some.inj h
  subst h
  exact q_fr (fin2 (by kernel_rfl) (finV rfl SV.flat_of (holds_t (by kernel_rfl))) (finV rfl SV.flat_of (holds_t (by kernel_rfl))))
theorem ents17 : Ents Tryd.prog 17 := ents_of Tryd.func17 (by kernel_rfl) rfl
noncomputable def impl_length_Op (aList : (List Op)) : Option (Int) :=
  some (aList.length : Int)
set_option maxRecDepth 100000 in
set_option maxHeartbeats 4000000 in
theorem impl_length_Op_run (aList : (List Op)) (r : Int) (h : impl_length_Op aList = some r) : SCall Tryd.prog 54 [.v (vl eOp aList)] ⟨[.v (vi r)], [], false⟩ := by
  refine scall_in Tryd.func54 rfl [(.tmp 2)] rfl (fun r => ⟨[.v (vi r)], [], false⟩) (r := r) ?_
  unfold impl_length_Op at h
  refine swp_seq ?_
  refine swp_reg ?_
  refine SRun.ck tbok 1 ⟨5, [(0, vl eOp aList)], []⟩ ?_
  refine SRun.nil ?_
  refine nx_n ?_
  refine swp_seq ?_
  refine swp_reg ?_
  refine SRun.ck tbok 3 ⟨5, [(2, vi (aList.length : Int))], []⟩ ?_
  refine SRun.nil ?_
  refine nx_n ?_
  refine swp_ret ?_
  replace h := Option.some.inj h
  subst h
  exact q_fr (fin1 (by kernel_rfl) (finV rfl SV.flat_of (holds_t (by kernel_rfl))))
theorem ents54 : Ents Tryd.prog 54 := ents_of Tryd.func54 (by kernel_rfl) rfl
noncomputable def impl_areWithin (aList : (List Int)) (aLow : Int) (aHigh : Int) : Option (Bool) :=
  (((forN (aList.length : Int) (fun (i3 : Int) (_ : Unit) => ((at' aList i3).bind fun x7 => ((impl_within x7 aLow aHigh).bind fun x8 => (bif (!x8) then some (.inr (.inr false)) else some (.inl ()))))) (fun (_ : Unit) => .inl ()) 0 ())).bind (Sum.elim (fun (_ : Unit) => some true) some))
set_option maxRecDepth 100000 in
set_option maxHeartbeats 4000000 in
theorem impl_areWithin_run (aList : (List Int)) (aLow : Int) (aHigh : Int) (r : Bool) (h : impl_areWithin aList aLow aHigh = some r) : SCall Tryd.prog 53 [.v (vl (eI .i64) aList), .v (vi aLow), .v (vi aHigh)] ⟨[.v (vb r)], [], false⟩ := by
  refine scall_in Tryd.func53 rfl [(.tmp 6)] rfl (fun r => ⟨[.v (vb r)], [], false⟩) (r := r) ?_
  unfold impl_areWithin at h
  refine swp_seq ?_
  refine swp_reg ?_
  refine SRun.ck tbok 1 ⟨21, [(0, vl (eI .i64) aList), (1, vi aLow), (2, vi aHigh)], []⟩ ?_
  refine SRun.nil ?_
  refine nx_n ?_
  refine swp_seq ?_
  refine swp_seq ?_
  refine swp_reg ?_
  refine SRun.ck tbok 3 ⟨21, [(1, vi aLow), (2, vi aHigh), (9, vl (eI .i64) aList), (10, vi (aList.length : Int)), (11, vi 0)], []⟩ ?_
  refine SRun.nil ?_
  refine nx_n ?_
  refine swp_seqE (r := r) h (fun j1 => ⟨21, [], []⟩) (fun v2 h => ?_) (fun j1 h => ?_)
  refine swp_blk (a := v2) ?_
  refine swp_lpL (r := v2) (s := (0, ())) _ (fun s3 => ⟨21, [(1, vi aLow), (2, vi aHigh), (9, vl (eI .i64) aList), (10, vi (aList.length : Int)), (11, vi s3.1)], []⟩) _ (Le.sub0) h (fun s3 v4 h => ?_)
  refine swp_seq ?_
  refine swp_reg ?_
  refine SRun.ck tbok 1 ⟨21, [(1, vi aLow), (2, vi aHigh), (9, vl (eI .i64) aList), (10, vi (aList.length : Int)), (11, vi s3.1), (12, vb (decide (s3.1 < (aList.length : Int))))], []⟩ ?_
  refine SRun.nil ?_
  refine nx_n ?_
  refine swp_seq ?_
  refine swp_cond (b := (decide (s3.1 < (aList.length : Int)))) (by kernel_rfl) (fun hb => ?_) (fun hb => ?_)
  replace h := cond_t hb h
  refine swp_skip ?_
  refine nx_n ?_
  refine swp_seq ?_
  refine swp_seqL (r := v4) h (fun j5 => ⟨21, [(1, vi aLow), (2, vi aHigh), (9, vl (eI .i64) aList), (10, vi (aList.length : Int)), (11, vi s3.1)], []⟩) (fun v6 h => ?_) (fun j5 h => ?_)
  refine swp_blk (a := v6) ?_
  refine swp_seq ?_
  refine swp_reg ?_
  obtain ⟨x7, hx7, h⟩ := bind_some h
  refine SRun.ls (x_index (L := aList) (f := (eI .i64)) (ti := ti32) (tj := ti2) (e := 2) (k := .i64) tbok rfl hx7) ?_
  refine SRun.ck tbok 2 ⟨21, [(1, vi aLow), (2, vi aHigh), (8, vi x7), (9, vl (eI .i64) aList), (10, vi (aList.length : Int)), (11, vi s3.1)], []⟩ ?_
  refine SRun.nil ?_
  refine nx_n ?_
  refine swp_seq ?_
  refine swp_reg ?_
  refine SRun.ck tbok 3 ⟨21, [(1, vi aLow), (2, vi aHigh), (9, vl (eI .i64) aList), (10, vi (aList.length : Int)), (11, vi s3.1), (15, vi x7), (16, vi aLow), (17, vi aHigh)], []⟩ ?_
  obtain ⟨x8, hx8, h⟩ := bind_some h
  refine SRun.ls (x_lstep_call (f := 64) (caps := []) (xs := [vi x7, vi aLow, vi aHigh]) (ys := [vi x7, vi aLow, vi aHigh]) (res := ⟨[.v (vb x8)], [], false⟩) (x := vb x8) (y := none) rfl ents64 (impl_within_run x7 aLow aHigh _ hx8) rfl (by intro hc; cases hc)) ?_
  refine SRun.ck tbok 1 ⟨21, [(1, vi aLow), (2, vi aHigh), (9, vl (eI .i64) aList), (10, vi (aList.length : Int)), (11, vi s3.1), (19, vb (!x8))], []⟩ ?_
  refine SRun.nil ?_
  refine nx_n ?_
  refine swp_cond (b := (!x8)) (by kernel_rfl) (fun hb => ?_) (fun hb => ?_)
  replace h := cond_t hb h
  refine swp_seq ?_
  refine swp_reg ?_
  refine SRun.ck tbok 1 ⟨21, [(6, vb false)], []⟩ ?_
  refine SRun.nil ?_
  refine nx_n ?_
  refine swp_ret ?_
  replace h := Option.some.inj h
  subst h
  exact q_br (q_rr (q_rr (q_br (q_rr (q_fr (fin1 (by kernel_rfl) (finV rfl SV.flat_of (holds_t (by kernel_rfl)))))))))
  replace h := cond_f hb h
  refine swp_skip ?_
  replace h := Option.some.inj h
  subst h
  exact q_bn (q_l (Le.sub0))
  refine swp_reg ?_
  refine SRun.ck tbok 2 ⟨21, [(1, vi aLow), (2, vi aHigh), (9, vl (eI .i64) aList), (10, vi (aList.length : Int)), (11, vi (w64 (s3.1 + 1)))], []⟩ ?_
  refine SRun.nil ?_
  replace h := Option.some.inj h
  subst h
  exact q_l (Le.sub0)
  replace h := cond_f hb h
  refine swp_exit ?_
  replace h := Option.some.inj h
  subst h
  exact nx_e (q_re (q_bh (q_l (Le.sub0))))
  refine swp_seq ?_
  refine swp_reg ?_
  refine SRun.ck tbok 1 ⟨21, [(6, vb true)], []⟩ ?_
  refine SRun.nil ?_
  refine nx_n ?_
  refine swp_ret ?_
  replace h := Option.some.inj h
  subst h
  exact q_fr (fin1 (by kernel_rfl) (finV rfl SV.flat_of (holds_t (by kernel_rfl))))
theorem ents53 : Ents Tryd.prog 53 := ents_of Tryd.func53 (by kernel_rfl) rfl
noncomputable def impl_Op_knows (aX : Op) (aY : Op) : Option (Bool) :=
  ((at' aX.Seen aY.Office).bind fun x1 => some (decide (aY.Number ≤ x1)))
set_option maxRecDepth 100000 in
set_option maxHeartbeats 4000000 in
theorem impl_Op_knows_run (aX : Op) (aY : Op) (r : Bool) (h : impl_Op_knows aX aY = some r) : SCall Tryd.prog 55 [.v (.agg [vi aX.Office, vi aX.Number, vs aX.Key, vs aX.Text, vl (eI .i64) aX.Seen]), .v (.agg [vi aY.Office, vi aY.Number, vs aY.Key, vs aY.Text, vl (eI .i64) aY.Seen])] ⟨[.v (vb r)], [], false⟩ := by
  refine scall_in Tryd.func55 rfl [(.tmp 4)] rfl (fun r => ⟨[.v (vb r)], [], false⟩) (r := r) ?_
  unfold impl_Op_knows at h
  refine swp_seq ?_
  refine swp_reg ?_
  refine SRun.ck tbok 3 ⟨14, [(2, .ref 2 0), (3, .ref 3 0)], [(2, .box [vi aX.Office, vi aX.Number, vs aX.Key, vs aX.Text, vl (eI .i64) aX.Seen]), (3, .box [vi aY.Office, vi aY.Number, vs aY.Key, vs aY.Text, vl (eI .i64) aY.Seen])]⟩ ?_
  refine SRun.nil ?_
  refine nx_n ?_
  refine swp_seq ?_
  refine swp_dr mixed ?_
  refine DGo.chunk' tbok 6 (σ' := ⟨14, [(10, vi aY.Office), (9, .ref 3 0), (8, vl (eI .i64) aX.Seen), (7, .ref 2 4), (6, vi aY.Number), (5, .ref 3 1), (2, .ref 2 0), (3, .ref 3 0)], [(2, .box [vi aX.Office, vi aX.Number, vs aX.Key, vs aX.Text, vl (eI .i64) aX.Seen]), (3, .box [vi aY.Office, vi aY.Number, vs aY.Key, vs aY.Text, vl (eI .i64) aY.Seen])]⟩) (by kernel_rfl) ?_
  obtain ⟨x1, hx1, h⟩ := bind_some h
  refine DGo.step (x_index (L := aX.Seen) (f := (eI .i64)) (ti := ti32) (tj := ti2) (e := 2) (k := .i64) tbok rfl hx1) ?_
  refine DGo.chunk' tbok 3 (σ' := ⟨14, [(4, vb (decide (aY.Number ≤ x1))), (13, vb (decide (aY.Number ≤ x1))), (12, vi x1), (11, .ptr (((eI .i64) x1).map .tr) 0), (10, vi aY.Office), (9, .ref 3 0), (8, vl (eI .i64) aX.Seen), (7, .ref 2 4), (6, vi aY.Number), (5, .ref 3 1), (2, .ref 2 0), (3, .ref 3 0)], [(2, .box [vi aX.Office, vi aX.Number, vs aX.Key, vs aX.Text, vl (eI .i64) aX.Seen]), (3, .box [vi aY.Office, vi aY.Number, vs aY.Key, vs aY.Text, vl (eI .i64) aY.Seen])]⟩) (by kernel_rfl) ?_
  refine DGo.nil (by kernel_rfl) ?_
  refine nx_n ?_
  refine swp_ret ?_
  replace h := Option.some.inj h
  subst h
  exact q_fr (fin1 (by kernel_rfl) (finV rfl SV.flat_of (holds_t (by kernel_rfl))))
theorem ents55 : Ents Tryd.prog 55 := ents_of Tryd.func55 (by kernel_rfl) rfl
noncomputable def impl_AtOnce (aLog : (List Op)) (aA : Int) (aB : Int) : Option (Bool × Int) :=
  ((((impl_IsLog aLog).bind fun x3 => (bif (!x3) then some (.inr (false, 1)) else ((((impl_length_Op aLog).bind fun x4 => ((impl_areWithin ([aA, aB] : List Int) 0 (w64 (x4 - 1))).bind fun x5 => (bif (!x5) then some true else some (aA == aB))))).bind fun (j6 : Bool) => (bif j6 then some (.inr (false, 2)) else some (.inl ())))))).bind (Sum.elim (fun (_ : Unit) => ((((at' aLog aA).bind fun x8 => ((at' aLog aB).bind fun x9 => ((impl_Op_knows x8 x9).bind fun x10 => (bif (!x10) then ((at' aLog aB).bind fun x11 => ((at' aLog aA).bind fun x12 => ((impl_Op_knows x11 x12).bind fun x13 => some (!x13)))) else some false))))).bind fun (j14 : Bool) => some (j14, 0))) some))
set_option maxRecDepth 100000 in
set_option maxHeartbeats 4000000 in
theorem impl_AtOnce_run (aLog : (List Op)) (aA : Int) (aB : Int) (r : Bool × Int) (h : impl_AtOnce aLog aA aB = some r) : SCall Tryd.prog 18 [.v (vl eOp aLog), .v (vi aA), .v (vi aB)] ⟨[.v (vb r.1), .v (vi r.2)], [], false⟩ := by
  refine scall_in Tryd.func18 rfl [(.tmp 6), (.tmp 7)] rfl (fun r => ⟨[.v (vb r.1), .v (vi r.2)], [], false⟩) (r := r) ?_
  unfold impl_AtOnce at h
  refine swp_seq ?_
  refine swp_reg ?_
  refine SRun.ck tbok 2 ⟨48, [(0, vl eOp aLog), (1, vi aA), (2, vi aB)], []⟩ ?_
  refine SRun.nil ?_
  refine nx_n ?_
  refine swp_seq ?_
  refine swp_seqE (r := r) h (fun j1 => ⟨48, [(0, vl eOp aLog), (1, vi aA), (2, vi aB)], []⟩) (fun v2 h => ?_) (fun j1 h => ?_)
  refine swp_blk (a := v2) ?_
  refine swp_seq ?_
  refine swp_reg ?_
  refine SRun.ck tbok 1 ⟨48, [(0, vl eOp aLog), (1, vi aA), (2, vi aB), (9, vl eOp aLog)], []⟩ ?_
  obtain ⟨x3, hx3, h⟩ := bind_some h
  refine SRun.ls (x_lstep_call (f := 15) (caps := []) (xs := [vl eOp aLog]) (ys := [vl eOp aLog]) (res := ⟨[.v (vb x3)], [], false⟩) (x := vb x3) (y := none) rfl ents15 (impl_IsLog_run aLog _ hx3) rfl (by intro hc; cases hc)) ?_
  refine SRun.ck tbok 2 ⟨48, [(0, vl eOp aLog), (1, vi aA), (2, vi aB), (8, vb (!x3))], []⟩ ?_
  refine SRun.nil ?_
  refine nx_n ?_
  refine swp_cond (b := (!x3)) (by kernel_rfl) (fun hb => ?_) (fun hb => ?_)
  replace h := cond_t hb h
  refine swp_seq ?_
  refine swp_reg ?_
  refine SRun.ck tbok 2 ⟨48, [(6, vb false), (7, vi 1)], []⟩ ?_
  refine SRun.nil ?_
  refine nx_n ?_
  refine swp_ret ?_
  replace h := Option.some.inj h
  subst h
  exact q_br (q_rr (q_fr (fin2 (by kernel_rfl) (finV rfl SV.flat_of (holds_t (by kernel_rfl))) (finV rfl SV.flat_of (holds_t (by kernel_rfl))))))
  replace h := cond_f hb h
  refine swp_seq ?_
  refine swp_regJ h (fun j6 => ⟨48, [(0, vl eOp aLog), (1, vi aA), (2, vi aB), (12, vb j6)], []⟩) (fun v7 h => ?_) (fun j6 h => ?_)
  refine SRun.ck tbok 4 ⟨48, [(0, vl eOp aLog), (1, vi aA), (2, vi aB), (15, .own 15), (16, vl eOp aLog)], [(15, .arr 2 1 ([aA, aB] : List Int).length (([aA, aB] : List Int).map (eI .i64)))]⟩ ?_
  obtain ⟨x4, hx4, h⟩ := bind_some h
  refine SRun.ls (x_lstep_call (f := 54) (caps := []) (xs := [vl eOp aLog]) (ys := [vl eOp aLog]) (res := ⟨[.v (vi x4)], [], false⟩) (x := vi x4) (y := none) rfl ents54 (impl_length_Op_run aLog _ hx4) rfl (by intro hc; cases hc)) ?_
  refine SRun.ck tbok 1 ⟨48, [(0, vl eOp aLog), (1, vi aA), (2, vi aB), (15, .own 15), (18, vi (w64 (x4 - 1)))], [(15, .arr 2 1 ([aA, aB] : List Int).length (([aA, aB] : List Int).map (eI .i64)))]⟩ ?_
  obtain ⟨x5, hx5, h⟩ := bind_some h
  refine SRun.ls (x_lstep_call (f := 53) (caps := []) (xs := [.own 15, vi 0, vi (w64 (x4 - 1))]) (ys := [vl (eI .i64) ([aA, aB] : List Int), vi 0, vi (w64 (x4 - 1))]) (res := ⟨[.v (vb x5)], [], false⟩) (x := vb x5) (y := none) rfl ents53 (impl_areWithin_run ([aA, aB] : List Int) 0 (w64 (x4 - 1)) _ hx5) rfl (by intro hc; cases hc)) ?_
  refine SRun.ck tbok 2 ⟨48, [(0, vl eOp aLog), (1, vi aA), (2, vi aB), (21, vb (!x5))], []⟩ ?_
  refine SRun.cut [(21, fun b => b)] (b := (!x5)) (by kernel_rfl) (fun hb => ?_) (fun hb => ?_)
  replace h := cond_t hb h
  refine SRun.ck tbok 5 ⟨48, [(0, vl eOp aLog), (1, vi aA), (2, vi aB), (12, vb true)], []⟩ ?_
  refine SRun.nil ?_
  replace h := Option.some.inj h
  subst h
  exact Le.sub0
  replace h := cond_f hb h
  refine SRun.ck tbok 5 ⟨48, [(0, vl eOp aLog), (1, vi aA), (2, vi aB), (12, vb (aA == aB))], []⟩ ?_
  refine SRun.nil ?_
  replace h := Option.some.inj h
  subst h
  exact Le.sub0
  refine swp_cond (b := j6) (by kernel_rfl) (fun hb => ?_) (fun hb => ?_)
  replace h := cond_t hb h
  refine swp_seq ?_
  refine swp_reg ?_
  refine SRun.ck tbok 2 ⟨48, [(6, vb false), (7, vi 2)], []⟩ ?_
  refine SRun.nil ?_
  refine nx_n ?_
  refine swp_ret ?_
  replace h := Option.some.inj h
  subst h
  exact q_br (q_rr (q_fr (fin2 (by kernel_rfl) (finV rfl SV.flat_of (holds_t (by kernel_rfl))) (finV rfl SV.flat_of (holds_t (by kernel_rfl))))))
  replace h := cond_f hb h
  refine swp_skip ?_
  replace h := Option.some.inj h
  subst h
  exact q_bn (q_l (Le.sub0))
  refine swp_seq ?_
  refine swp_drJ mixed h (fun j14 => ⟨48, [(6, vb j14), (7, vi 0)], []⟩) (fun v15 h => ?_) (fun j14 h => ?_)
  refine DGo.chunk' tbok 2 (σ' := ⟨48, [(27, vi aA), (26, vl eOp aLog), (0, vl eOp aLog), (1, vi aA), (2, vi aB)], []⟩) (by kernel_rfl) ?_
  obtain ⟨x8, hx8, h⟩ := bind_some h
  refine DGo.step (x_index (L := aLog) (f := eOp) (ti := ti25) (tj := ti61) (e := 61) (k := .i64) tbok rfl hx8) ?_
  refine DGo.chunk' tbok 3 (σ' := ⟨48, [(31, vi aB), (30, vl eOp aLog), (29, .agg [vi x8.Office, vi x8.Number, vs x8.Key, vs x8.Text, vl (eI .i64) x8.Seen]), (28, .ptr ((eOp x8).map .tr) 0), (27, vi aA), (26, vl eOp aLog), (0, vl eOp aLog), (1, vi aA), (2, vi aB)], []⟩) (by kernel_rfl) ?_
  obtain ⟨x9, hx9, h⟩ := bind_some h
  refine DGo.step (x_index (L := aLog) (f := eOp) (ti := ti25) (tj := ti61) (e := 61) (k := .i64) tbok rfl hx9) ?_
  refine DGo.chunk' tbok 1 (σ' := ⟨48, [(33, .agg [vi x9.Office, vi x9.Number, vs x9.Key, vs x9.Text, vl (eI .i64) x9.Seen]), (32, .ptr ((eOp x9).map .tr) 0), (31, vi aB), (30, vl eOp aLog), (29, .agg [vi x8.Office, vi x8.Number, vs x8.Key, vs x8.Text, vl (eI .i64) x8.Seen]), (28, .ptr ((eOp x8).map .tr) 0), (27, vi aA), (26, vl eOp aLog), (0, vl eOp aLog), (1, vi aA), (2, vi aB)], []⟩) (by kernel_rfl) ?_
  obtain ⟨x10, hx10, h⟩ := bind_some h
  refine DGo.step (x_lstep_call (f := 55) (caps := []) (xs := [.agg [vi x8.Office, vi x8.Number, vs x8.Key, vs x8.Text, vl (eI .i64) x8.Seen], .agg [vi x9.Office, vi x9.Number, vs x9.Key, vs x9.Text, vl (eI .i64) x9.Seen]]) (ys := [.agg [vi x8.Office, vi x8.Number, vs x8.Key, vs x8.Text, vl (eI .i64) x8.Seen], .agg [vi x9.Office, vi x9.Number, vs x9.Key, vs x9.Text, vl (eI .i64) x9.Seen]]) (res := ⟨[.v (vb x10)], [], false⟩) (x := vb x10) (y := none) rfl ents55 (impl_Op_knows_run x8 x9 _ hx10) rfl (by intro hc; cases hc)) ?_
  refine DGo.chunk' tbok 2 (σ' := ⟨48, [(36, vb (!x10)), (35, vb (!x10)), (34, vb x10), (33, .agg [vi x9.Office, vi x9.Number, vs x9.Key, vs x9.Text, vl (eI .i64) x9.Seen]), (32, .ptr ((eOp x9).map .tr) 0), (31, vi aB), (30, vl eOp aLog), (29, .agg [vi x8.Office, vi x8.Number, vs x8.Key, vs x8.Text, vl (eI .i64) x8.Seen]), (28, .ptr ((eOp x8).map .tr) 0), (27, vi aA), (26, vl eOp aLog), (0, vl eOp aLog), (1, vi aA), (2, vi aB)], []⟩) (by kernel_rfl) ?_
  refine DGo.cut [(36, fun b => b), (35, fun b => b)] (b := (!x10)) (by kernel_rfl) (fun hb => ?_) (fun hb => ?_)
  replace h := cond_t hb h
  refine DGo.chunk' tbok 2 (σ' := ⟨48, [(38, vi aB), (37, vl eOp aLog), (36, vb true), (35, vb true), (34, vb x10), (33, .agg [vi x9.Office, vi x9.Number, vs x9.Key, vs x9.Text, vl (eI .i64) x9.Seen]), (32, .ptr ((eOp x9).map .tr) 0), (31, vi aB), (30, vl eOp aLog), (29, .agg [vi x8.Office, vi x8.Number, vs x8.Key, vs x8.Text, vl (eI .i64) x8.Seen]), (28, .ptr ((eOp x8).map .tr) 0), (27, vi aA), (26, vl eOp aLog), (0, vl eOp aLog), (1, vi aA), (2, vi aB)], []⟩) (by kernel_rfl) ?_
  obtain ⟨x11, hx11, h⟩ := bind_some h
  refine DGo.step (x_index (L := aLog) (f := eOp) (ti := ti25) (tj := ti61) (e := 61) (k := .i64) tbok rfl hx11) ?_
  refine DGo.chunk' tbok 3 (σ' := ⟨48, [(42, vi aA), (41, vl eOp aLog), (40, .agg [vi x11.Office, vi x11.Number, vs x11.Key, vs x11.Text, vl (eI .i64) x11.Seen]), (39, .ptr ((eOp x11).map .tr) 0), (38, vi aB), (37, vl eOp aLog), (36, vb true), (35, vb true), (34, vb x10), (33, .agg [vi x9.Office, vi x9.Number, vs x9.Key, vs x9.Text, vl (eI .i64) x9.Seen]), (32, .ptr ((eOp x9).map .tr) 0), (31, vi aB), (30, vl eOp aLog), (29, .agg [vi x8.Office, vi x8.Number, vs x8.Key, vs x8.Text, vl (eI .i64) x8.Seen]), (28, .ptr ((eOp x8).map .tr) 0), (27, vi aA), (26, vl eOp aLog), (0, vl eOp aLog), (1, vi aA), (2, vi aB)], []⟩) (by kernel_rfl) ?_
  obtain ⟨x12, hx12, h⟩ := bind_some h
  refine DGo.step (x_index (L := aLog) (f := eOp) (ti := ti25) (tj := ti61) (e := 61) (k := .i64) tbok rfl hx12) ?_
  refine DGo.chunk' tbok 1 (σ' := ⟨48, [(44, .agg [vi x12.Office, vi x12.Number, vs x12.Key, vs x12.Text, vl (eI .i64) x12.Seen]), (43, .ptr ((eOp x12).map .tr) 0), (42, vi aA), (41, vl eOp aLog), (40, .agg [vi x11.Office, vi x11.Number, vs x11.Key, vs x11.Text, vl (eI .i64) x11.Seen]), (39, .ptr ((eOp x11).map .tr) 0), (38, vi aB), (37, vl eOp aLog), (36, vb true), (35, vb true), (34, vb x10), (33, .agg [vi x9.Office, vi x9.Number, vs x9.Key, vs x9.Text, vl (eI .i64) x9.Seen]), (32, .ptr ((eOp x9).map .tr) 0), (31, vi aB), (30, vl eOp aLog), (29, .agg [vi x8.Office, vi x8.Number, vs x8.Key, vs x8.Text, vl (eI .i64) x8.Seen]), (28, .ptr ((eOp x8).map .tr) 0), (27, vi aA), (26, vl eOp aLog), (0, vl eOp aLog), (1, vi aA), (2, vi aB)], []⟩) (by kernel_rfl) ?_
  obtain ⟨x13, hx13, h⟩ := bind_some h
  refine DGo.step (x_lstep_call (f := 55) (caps := []) (xs := [.agg [vi x11.Office, vi x11.Number, vs x11.Key, vs x11.Text, vl (eI .i64) x11.Seen], .agg [vi x12.Office, vi x12.Number, vs x12.Key, vs x12.Text, vl (eI .i64) x12.Seen]]) (ys := [.agg [vi x11.Office, vi x11.Number, vs x11.Key, vs x11.Text, vl (eI .i64) x11.Seen], .agg [vi x12.Office, vi x12.Number, vs x12.Key, vs x12.Text, vl (eI .i64) x12.Seen]]) (res := ⟨[.v (vb x13)], [], false⟩) (x := vb x13) (y := none) rfl ents55 (impl_Op_knows_run x11 x12 _ hx13) rfl (by intro hc; cases hc)) ?_
  refine DGo.chunk' tbok 4 (σ' := ⟨48, [(7, vi 0), (6, vb (!x13)), (47, vb (!x13)), (46, vb (!x13)), (45, vb x13), (44, .agg [vi x12.Office, vi x12.Number, vs x12.Key, vs x12.Text, vl (eI .i64) x12.Seen]), (43, .ptr ((eOp x12).map .tr) 0), (42, vi aA), (41, vl eOp aLog), (40, .agg [vi x11.Office, vi x11.Number, vs x11.Key, vs x11.Text, vl (eI .i64) x11.Seen]), (39, .ptr ((eOp x11).map .tr) 0), (38, vi aB), (37, vl eOp aLog), (36, vb true), (35, vb true), (34, vb x10), (33, .agg [vi x9.Office, vi x9.Number, vs x9.Key, vs x9.Text, vl (eI .i64) x9.Seen]), (32, .ptr ((eOp x9).map .tr) 0), (31, vi aB), (30, vl eOp aLog), (29, .agg [vi x8.Office, vi x8.Number, vs x8.Key, vs x8.Text, vl (eI .i64) x8.Seen]), (28, .ptr ((eOp x8).map .tr) 0), (27, vi aA), (26, vl eOp aLog), (0, vl eOp aLog), (1, vi aA), (2, vi aB)], []⟩) (by kernel_rfl) ?_
  refine DGo.nil (by kernel_rfl) ?_
  replace h := Option.some.inj h
  subst h
  exact Le.sub0
  replace h := cond_f hb h
  refine DGo.chunk' tbok 13 (σ' := ⟨48, [(7, vi 0), (6, vb false), (47, vb false), (46, .tup []), (45, .tup []), (44, .tup []), (43, .tup []), (42, .tup []), (41, .tup []), (40, .tup []), (39, .tup []), (38, .tup []), (37, .tup []), (36, vb false), (35, vb false), (34, vb x10), (33, .agg [vi x9.Office, vi x9.Number, vs x9.Key, vs x9.Text, vl (eI .i64) x9.Seen]), (32, .ptr ((eOp x9).map .tr) 0), (31, vi aB), (30, vl eOp aLog), (29, .agg [vi x8.Office, vi x8.Number, vs x8.Key, vs x8.Text, vl (eI .i64) x8.Seen]), (28, .ptr ((eOp x8).map .tr) 0), (27, vi aA), (26, vl eOp aLog), (0, vl eOp aLog), (1, vi aA), (2, vi aB)], []⟩) (by kernel_rfl) ?_
  refine DGo.nil (by kernel_rfl) ?_
  replace h := Option.some.inj h
  subst h
  exact Le.sub0
  refine swp_ret ?_
  replace h := Option.some.inj h
  subst h
  exact q_fr (fin2 (by kernel_rfl) (finV rfl SV.flat_of (holds_t (by kernel_rfl))) (finV rfl SV.flat_of (holds_t (by kernel_rfl))))
theorem ents18 : Ents Tryd.prog 18 := ents_of Tryd.func18 (by kernel_rfl) rfl
noncomputable def laws_FnExactAtOnce (aALog : (List Op)) (aAA : Int) (aAB : Int) : Option (Bool) :=
  ((laws_szOpS aALog 1048576).bind fun x1 => (bif (decide (x1 < 0)) then some true else ((laws_toOpS aALog).bind fun x2 => ((spec_AtOnce x2 aAA aAB).bind fun x3 => ((laws_toOpS aALog).bind fun x4 => ((impl_AtOnce x4 aAA aAB).bind fun x5 => (bif ((!(x5.1 == x3.1)) || (x5.2 != x3.2)) then some false else ((laws_toOpS aALog).bind fun x6 => ((laws_eqOpS x4 x6).bind fun x7 => (bif (!x7) then some false else some true))))))))))
set_option maxRecDepth 100000 in
set_option maxHeartbeats 4000000 in
theorem laws_FnExactAtOnce_run (aALog : (List Op)) (aAA : Int) (aAB : Int) (r : Bool) (h : laws_FnExactAtOnce aALog aAA aAB = some r) : SCall Tryd.prog 4 [.v (vl eOp aALog), .v (vi aAA), .v (vi aAB)] ⟨[.v (vb r)], [], false⟩ := by
  refine scall_in Tryd.func4 rfl [(.tmp 6)] rfl (fun r => ⟨[.v (vb r)], [], false⟩) (r := r) ?_
  unfold laws_FnExactAtOnce at h
  refine swp_seq ?_
  refine swp_reg ?_
  refine SRun.ck tbok 1 ⟨48, [(0, vl eOp aALog), (1, vi aAA), (2, vi aAB)], []⟩ ?_
  refine SRun.nil ?_
  refine nx_n ?_
  refine swp_seq ?_
  refine swp_reg ?_
  refine SRun.ck tbok 1 ⟨48, [(0, vl eOp aALog), (1, vi aAA), (2, vi aAB), (7, vi 1048576)], []⟩ ?_
  refine SRun.nil ?_
  refine nx_n ?_
  refine swp_seq ?_
  refine swp_reg ?_
  refine SRun.ck tbok 2 ⟨48, [(0, vl eOp aALog), (1, vi aAA), (2, vi aAB), (13, vl eOp aALog), (14, vi 1048576)], []⟩ ?_
  obtain ⟨x1, hx1, h⟩ := bind_some h
  refine SRun.ls (x_lstep_call (f := 12) (caps := []) (xs := [vl eOp aALog, vi 1048576]) (ys := [vl eOp aALog, vi 1048576]) (res := ⟨[.v (vi x1)], [], false⟩) (x := vi x1) (y := none) rfl ents12 (laws_szOpS_run aALog 1048576 _ hx1) rfl (by intro hc; cases hc)) ?_
  refine SRun.ck tbok 1 ⟨48, [(0, vl eOp aALog), (1, vi aAA), (2, vi aAB), (7, vi x1)], []⟩ ?_
  refine SRun.nil ?_
  refine nx_n ?_
  refine swp_seq ?_
  refine swp_seq ?_
  refine swp_reg ?_
  refine SRun.ck tbok 2 ⟨48, [(0, vl eOp aALog), (1, vi aAA), (2, vi aAB), (17, vb (decide (x1 < 0)))], []⟩ ?_
  refine SRun.nil ?_
  refine nx_n ?_
  refine swp_cond (b := (decide (x1 < 0))) (by kernel_rfl) (fun hb => ?_) (fun hb => ?_)
  replace h := cond_t hb h
  refine swp_seq ?_
  refine swp_reg ?_
  refine SRun.ck tbok 1 ⟨48, [(6, vb true)], []⟩ ?_
  refine SRun.nil ?_
  refine nx_n ?_
  refine swp_ret ?_
  replace h := Option.some.inj h
  subst h
  exact nx_r (q_fr (fin1 (by kernel_rfl) (finV rfl SV.flat_of (holds_t (by kernel_rfl)))))
  replace h := cond_f hb h
  refine swp_skip ?_
  refine nx_n ?_
  refine swp_seq ?_
  refine swp_reg ?_
  refine SRun.ck tbok 1 ⟨48, [(0, vl eOp aALog), (1, vi aAA), (2, vi aAB), (19, vl eOp aALog)], []⟩ ?_
  obtain ⟨x2, hx2, h⟩ := bind_some h
  refine SRun.ls (x_lstep_call (f := 14) (caps := []) (xs := [vl eOp aALog]) (ys := [vl eOp aALog]) (res := ⟨[.deep 61 5 x2.length [.flat, .flat, .flat, .flat, (.sl 2 1 [.flat])] (x2.map eOp)], [], false⟩) (x := .own 20) (y := some (.deep 61 5 x2.length [.flat, .flat, .flat, .flat, (.sl 2 1 [.flat])] (x2.map eOp))) rfl ents14 (laws_toOpS_run aALog _ hx2) rfl (by intro hc; cases hc)) ?_
  refine SRun.ck tbok 2 ⟨48, [(0, vl eOp aALog), (1, vi aAA), (2, vi aAB), (20, .own 20), (21, vi aAA), (22, vi aAB)], [(20, .deep 61 5 x2.length [.flat, .flat, .flat, .flat, (.sl 2 1 [.flat])] (x2.map eOp))]⟩ ?_
  obtain ⟨x3, hx3, h⟩ := bind_some h
  refine SRun.ls (x_lstep_call (f := 17) (caps := []) (xs := [.own 20, vi aAA, vi aAB]) (ys := [vl eOp x2, vi aAA, vi aAB]) (res := ⟨[.v (vb x3.1), .v (vi x3.2)], [], false⟩) (x := .tup [vb x3.1, vi x3.2]) (y := none) rfl ents17 (spec_AtOnce_run x2 aAA aAB _ hx3) rfl (by intro hc; cases hc)) ?_
  refine SRun.ck tbok 5 ⟨48, [(0, vl eOp aALog), (1, vi aAA), (2, vi aAB), (8, vb x3.1), (9, vi x3.2)], []⟩ ?_
  refine SRun.nil ?_
  refine nx_n ?_
  refine swp_seq ?_
  refine swp_reg ?_
  refine SRun.ck tbok 1 ⟨48, [(0, vl eOp aALog), (1, vi aAA), (2, vi aAB), (8, vb x3.1), (9, vi x3.2), (26, vl eOp aALog)], []⟩ ?_
  obtain ⟨x4, hx4, h⟩ := bind_some h
  refine SRun.ls (x_lstep_call (f := 14) (caps := []) (xs := [vl eOp aALog]) (ys := [vl eOp aALog]) (res := ⟨[.deep 61 5 x4.length [.flat, .flat, .flat, .flat, (.sl 2 1 [.flat])] (x4.map eOp)], [], false⟩) (x := .own 27) (y := some (.deep 61 5 x4.length [.flat, .flat, .flat, .flat, (.sl 2 1 [.flat])] (x4.map eOp))) rfl ents14 (laws_toOpS_run aALog _ hx4) rfl (by intro hc; cases hc)) ?_
  refine SRun.ck tbok 1 ⟨48, [(0, vl eOp aALog), (1, vi aAA), (2, vi aAB), (8, vb x3.1), (9, vi x3.2), (10, .own 27)], [(27, .deep 61 5 x4.length [.flat, .flat, .flat, .flat, (.sl 2 1 [.flat])] (x4.map eOp))]⟩ ?_
  refine SRun.nil ?_
  refine nx_n ?_
  refine swp_seq ?_
  refine swp_reg ?_
  refine SRun.ck tbok 3 ⟨48, [(0, vl eOp aALog), (8, vb x3.1), (9, vi x3.2), (10, .own 27), (29, .own 27), (30, vi aAA), (31, vi aAB)], [(27, .deep 61 5 x4.length [.flat, .flat, .flat, .flat, (.sl 2 1 [.flat])] (x4.map eOp))]⟩ ?_
  obtain ⟨x5, hx5, h⟩ := bind_some h
  refine SRun.ls (x_lstep_call (f := 18) (caps := []) (xs := [.own 27, vi aAA, vi aAB]) (ys := [vl eOp x4, vi aAA, vi aAB]) (res := ⟨[.v (vb x5.1), .v (vi x5.2)], [], false⟩) (x := .tup [vb x5.1, vi x5.2]) (y := none) rfl ents18 (impl_AtOnce_run x4 aAA aAB _ hx5) rfl (by intro hc; cases hc)) ?_
  refine SRun.ck tbok 5 ⟨48, [(0, vl eOp aALog), (8, vb x3.1), (9, vi x3.2), (10, .own 27), (11, vb x5.1), (12, vi x5.2)], [(27, .deep 61 5 x4.length [.flat, .flat, .flat, .flat, (.sl 2 1 [.flat])] (x4.map eOp))]⟩ ?_
  refine SRun.nil ?_
  refine nx_n ?_
  refine swp_seq ?_
  refine swp_seq ?_
  refine swp_regP ⟨48, [(0, vl eOp aALog), (10, .own 27), (42, vb ((!(x5.1 == x3.1)) || (x5.2 != x3.2)))], [(27, .deep 61 5 x4.length [.flat, .flat, .flat, .flat, (.sl 2 1 [.flat])] (x4.map eOp))]⟩ ?_ ?_
  refine SRun.ck tbok 2 ⟨48, [(0, vl eOp aALog), (9, vi x3.2), (10, .own 27), (12, vi x5.2), (35, vb x5.1), (36, vb x3.1)], [(27, .deep 61 5 x4.length [.flat, .flat, .flat, .flat, (.sl 2 1 [.flat])] (x4.map eOp))]⟩ ?_
  refine SRun.ls (x_lstep_eqb tbok (ti := ti4) (i := x5.1) (j := x3.1) true rfl) ?_
  refine SRun.ck tbok 1 ⟨48, [(0, vl eOp aALog), (9, vi x3.2), (10, .own 27), (12, vi x5.2), (38, vb (!(x5.1 == x3.1)))], [(27, .deep 61 5 x4.length [.flat, .flat, .flat, .flat, (.sl 2 1 [.flat])] (x4.map eOp))]⟩ ?_
  generalize (!(x5.1 == x3.1)) = bb
  cases bb
  refine SRun.ck tbok 4 ⟨48, [(0, vl eOp aALog), (10, .own 27), (42, vb (x5.2 != x3.2))], [(27, .deep 61 5 x4.length [.flat, .flat, .flat, .flat, (.sl 2 1 [.flat])] (x4.map eOp))]⟩ ?_
  exact SRun.nil (Le.sub0)
  refine SRun.ck tbok 4 ⟨48, [(0, vl eOp aALog), (10, .own 27), (42, vb true)], [(27, .deep 61 5 x4.length [.flat, .flat, .flat, .flat, (.sl 2 1 [.flat])] (x4.map eOp))]⟩ ?_
  exact SRun.nil (Le.sub0)
  refine swp_cond (b := ((!(x5.1 == x3.1)) || (x5.2 != x3.2))) (by kernel_rfl) (fun hb => ?_) (fun hb => ?_)
  replace h := cond_t hb h
  refine swp_seq ?_
  refine swp_reg ?_
  refine SRun.ck tbok 1 ⟨48, [(6, vb false)], []⟩ ?_
  refine SRun.nil ?_
  refine nx_n ?_
  refine swp_ret ?_
  replace h := Option.some.inj h
  subst h
  exact nx_r (q_fr (fin1 (by kernel_rfl) (finV rfl SV.flat_of (holds_t (by kernel_rfl)))))
  replace h := cond_f hb h
  refine swp_skip ?_
  refine nx_n ?_
  refine swp_seq ?_
  refine swp_seq ?_
  refine swp_reg ?_
  refine SRun.ck tbok 2 ⟨48, [(43, .own 27), (44, vl eOp aALog)], [(27, .deep 61 5 x4.length [.flat, .flat, .flat, .flat, (.sl 2 1 [.flat])] (x4.map eOp))]⟩ ?_
  obtain ⟨x6, hx6, h⟩ := bind_some h
  refine SRun.ls (x_lstep_call (f := 14) (caps := []) (xs := [vl eOp aALog]) (ys := [vl eOp aALog]) (res := ⟨[.deep 61 5 x6.length [.flat, .flat, .flat, .flat, (.sl 2 1 [.flat])] (x6.map eOp)], [], false⟩) (x := .own 45) (y := some (.deep 61 5 x6.length [.flat, .flat, .flat, .flat, (.sl 2 1 [.flat])] (x6.map eOp))) rfl ents14 (laws_toOpS_run aALog _ hx6) rfl (by intro hc; cases hc)) ?_
  obtain ⟨x7, hx7, h⟩ := bind_some h
  refine SRun.ls (x_lstep_call (f := 16) (caps := []) (xs := [.own 27, .own 45]) (ys := [vl eOp x4, vl eOp x6]) (res := ⟨[.v (vb x7)], [], false⟩) (x := vb x7) (y := none) rfl ents16 (laws_eqOpS_run x4 x6 _ hx7) rfl (by intro hc; cases hc)) ?_
  refine SRun.ck tbok 1 ⟨48, [(47, vb (!x7))], []⟩ ?_
  refine SRun.nil ?_
  refine nx_n ?_
  refine swp_cond (b := (!x7)) (by kernel_rfl) (fun hb => ?_) (fun hb => ?_)
  replace h := cond_t hb h
  refine swp_seq ?_
  refine swp_reg ?_
  refine SRun.ck tbok 1 ⟨48, [(6, vb false)], []⟩ ?_
  refine SRun.nil ?_
  refine nx_n ?_
  refine swp_ret ?_
  replace h := Option.some.inj h
  subst h
  exact nx_r (q_fr (fin1 (by kernel_rfl) (finV rfl SV.flat_of (holds_t (by kernel_rfl)))))
  replace h := cond_f hb h
  refine swp_skip ?_
  refine nx_n ?_
  refine swp_seq ?_
  refine swp_reg ?_
  refine SRun.ck tbok 1 ⟨48, [(6, vb true)], []⟩ ?_
  refine SRun.nil ?_
  refine nx_n ?_
  refine swp_ret ?_
  replace h := Option.some.inj h
  subst h
  exact q_fr (fin1 (by kernel_rfl) (finV rfl SV.flat_of (holds_t (by kernel_rfl))))
theorem ents4 : Ents Tryd.prog 4 := ents_of Tryd.func4 (by kernel_rfl) rfl
noncomputable def spec_l32Rivals (aLog : (List Op)) (aKey : ByteArray) : Option ((List Int)) :=
  (((forS (aLog.length : Int) (fun (i3 : Int) (s3 : (List Int)) => ((at' aLog i3).bind fun x7 => (((forS (aLog.length : Int) (fun (i10 : Int) (s10 : Bool) => (bif s10 then (bif (i10 == i3) then some true else ((at' aLog i10).bind fun x14 => (bif (!(x14.Key.toList == aKey.toList)) then some true else ((at' aLog i10).bind fun x15 => ((at' aLog i3).bind fun x16 => ((spec_l32Knows x15 x16).bind fun x17 => some (!x17))))))) else some false)) (fun (s10 : Bool) => s10) 0 (x7.Key.toList == aKey.toList))).bind fun (j8 : Bool) => (bif j8 then ((app' s3 ([i3] : List Int)).bind fun x18 => some x18) else some s3)))) (fun (s3 : (List Int)) => s3) 0 ([] : List Int))).bind fun (j1 : (List Int)) => some j1)
set_option maxRecDepth 100000 in
set_option maxHeartbeats 4000000 in
theorem spec_l32Rivals_run (aLog : (List Op)) (aKey : ByteArray) (r : (List Int)) (h : spec_l32Rivals aLog aKey = some r) : SCall Tryd.prog 61 [.v (vl eOp aLog), .v (vs aKey)] ⟨[.own 2 1 r.length (r.map (eI .i64))], [], false⟩ := by
  refine scall_in Tryd.func61 rfl [(.tmp 4)] rfl (fun r => ⟨[.own 2 1 r.length (r.map (eI .i64))], [], false⟩) (r := r) ?_
  unfold spec_l32Rivals at h
  refine swp_seq ?_
  refine swp_reg ?_
  refine SRun.ck tbok 1 ⟨62, [(0, vl eOp aLog), (1, vs aKey)], []⟩ ?_
  refine SRun.nil ?_
  refine nx_n ?_
  refine swp_seq ?_
  refine swp_reg ?_
  refine SRun.ck tbok 2 ⟨62, [(0, vl eOp aLog), (1, vs aKey), (5, .own 9)], [(9, .arr 2 1 ([] : List Int).length (([] : List Int).map (eI .i64)))]⟩ ?_
  refine SRun.nil ?_
  refine nx_n ?_
  refine swp_seq ?_
  refine swp_seq ?_
  refine swp_reg ?_
  refine SRun.ck tbok 1 ⟨62, [(0, vl eOp aLog), (1, vs aKey), (5, .own 9), (6, vi 0)], [(9, .arr 2 1 ([] : List Int).length (([] : List Int).map (eI .i64)))]⟩ ?_
  refine SRun.nil ?_
  refine nx_n ?_
  refine swp_seqJ h (fun j1 => ⟨62, [(5, .own 5)], [(5, .arr 2 1 j1.length (j1.map (eI .i64)))]⟩) (fun v2 h => ?_) (fun j1 h => ?_)
  refine swp_blk (a := v2) ?_
  refine swp_lpL (r := v2) (s := (0, ([] : List Int))) _ (fun s3 => ⟨62, [(0, vl eOp aLog), (1, vs aKey), (5, .own 5), (6, vi s3.1)], [(5, .arr 2 1 s3.2.length (s3.2.map (eI .i64)))]⟩) _ ((Le.sub' ([(0, vl eOp aLog), (1, vs aKey), (5, .own 9), (6, vi 0)] : List (Nat × SV)) ([(9, .arr 2 1 ([] : List Int).length (([] : List Int).map (eI .i64)))] : List (Nat × SO)) (by kernel_rfl) (by kernel_rfl)).trans ((Le.ren' (d := 9) (e := 5) (by kernel_rfl) (by kernel_rfl) (by kernel_rfl)).trans (Le.sub0))) h (fun s3 v4 h => ?_)
  refine swp_seq ?_
  refine swp_seq ?_
  refine swp_reg ?_
  refine SRun.ck tbok 4 ⟨62, [(0, vl eOp aLog), (1, vs aKey), (5, .own 5), (6, vi s3.1), (13, vb (decide (s3.1 < (aLog.length : Int))))], [(5, .arr 2 1 s3.2.length (s3.2.map (eI .i64)))]⟩ ?_
  refine SRun.nil ?_
  refine nx_n ?_
  refine swp_cond (b := (decide (s3.1 < (aLog.length : Int)))) (by kernel_rfl) (fun hb => ?_) (fun hb => ?_)
  replace h := cond_t hb h
  refine swp_skip ?_
  refine nx_n ?_
  refine swp_seq ?_
  refine swp_seqJ h (fun j5 => ⟨62, [(0, vl eOp aLog), (1, vs aKey), (5, .own 5), (6, vi s3.1)], [(5, .arr 2 1 j5.length (j5.map (eI .i64)))]⟩) (fun v6 h => ?_) (fun j5 h => ?_)
  refine swp_blk (a := v6) ?_
  refine swp_seq ?_
  refine swp_reg ?_
  refine SRun.ck tbok 2 ⟨62, [(0, vl eOp aLog), (1, vs aKey), (5, .own 5), (6, vi s3.1), (16, vl eOp aLog), (17, vi s3.1)], [(5, .arr 2 1 s3.2.length (s3.2.map (eI .i64)))]⟩ ?_
  obtain ⟨x7, hx7, h⟩ := bind_some h
  refine SRun.ls (x_index (L := aLog) (f := eOp) (ti := ti25) (tj := ti61) (e := 61) (k := .i64) tbok rfl hx7) ?_
  refine SRun.ck tbok 5 ⟨62, [(0, vl eOp aLog), (1, vs aKey), (5, .own 5), (6, vi s3.1), (7, vb (x7.Key.toList == aKey.toList))], [(5, .arr 2 1 s3.2.length (s3.2.map (eI .i64)))]⟩ ?_
  refine SRun.nil ?_
  refine nx_n ?_
  refine swp_seq ?_
  refine swp_seq ?_
  refine swp_reg ?_
  refine SRun.ck tbok 1 ⟨62, [(0, vl eOp aLog), (1, vs aKey), (5, .own 5), (6, vi s3.1), (7, vb (x7.Key.toList == aKey.toList)), (8, vi 0)], [(5, .arr 2 1 s3.2.length (s3.2.map (eI .i64)))]⟩ ?_
  refine SRun.nil ?_
  refine nx_n ?_
  refine swp_seqJ h (fun j8 => ⟨62, [(0, vl eOp aLog), (1, vs aKey), (5, .own 5), (6, vi s3.1), (7, vb j8)], [(5, .arr 2 1 s3.2.length (s3.2.map (eI .i64)))]⟩) (fun v9 h => ?_) (fun j8 h => ?_)
  refine swp_blk (a := v9) ?_
  refine swp_lpL (r := v9) (s := (0, (x7.Key.toList == aKey.toList))) _ (fun s10 => ⟨62, [(0, vl eOp aLog), (1, vs aKey), (5, .own 5), (6, vi s3.1), (7, vb s10.2), (8, vi s10.1)], [(5, .arr 2 1 s3.2.length (s3.2.map (eI .i64)))]⟩) _ (Le.sub0) h (fun s10 v11 h => ?_)
  refine swp_seq ?_
  refine swp_seq ?_
  refine swp_reg ?_
  refine SRun.ck tbok 4 ⟨62, [(0, vl eOp aLog), (1, vs aKey), (5, .own 5), (6, vi s3.1), (7, vb s10.2), (8, vi s10.1), (26, vb (decide (s10.1 < (aLog.length : Int))))], [(5, .arr 2 1 s3.2.length (s3.2.map (eI .i64)))]⟩ ?_
  refine SRun.nil ?_
  refine nx_n ?_
  refine swp_cond (b := (decide (s10.1 < (aLog.length : Int)))) (by kernel_rfl) (fun hb => ?_) (fun hb => ?_)
  replace h := cond_t hb h
  refine swp_skip ?_
  refine nx_n ?_
  refine swp_seq ?_
  refine swp_seqJ h (fun j12 => ⟨62, [(0, vl eOp aLog), (1, vs aKey), (5, .own 5), (6, vi s3.1), (7, vb j12), (8, vi s10.1)], [(5, .arr 2 1 s3.2.length (s3.2.map (eI .i64)))]⟩) (fun v13 h => ?_) (fun j12 h => ?_)
  refine swp_blk (a := v13) ?_
  refine swp_dr mixed ?_
  refine DGo.chunk' tbok 2 (σ' := ⟨62, [(30, vb s10.2), (29, vb s10.2), (0, vl eOp aLog), (1, vs aKey), (5, .own 5), (6, vi s3.1), (7, vb s10.2), (8, vi s10.1), (26, vb (decide (s10.1 < (aLog.length : Int))))], [(5, .arr 2 1 s3.2.length (s3.2.map (eI .i64)))]⟩) (by kernel_rfl) ?_
  refine DGo.cut [(30, fun b => b), (29, fun b => b), (7, fun b => b)] (b := s10.2) (by kernel_rfl) (fun hb => ?_) (fun hb => ?_)
  replace h := cond_t hb h
  refine DGo.chunk' tbok 4 (σ' := ⟨62, [(34, vb (s10.1 == s3.1)), (33, vb (s10.1 == s3.1)), (32, vi s3.1), (31, vi s10.1), (30, vb true), (29, vb true), (0, vl eOp aLog), (1, vs aKey), (5, .own 5), (6, vi s3.1), (7, vb true), (8, vi s10.1), (26, vb (decide (s10.1 < (aLog.length : Int))))], [(5, .arr 2 1 s3.2.length (s3.2.map (eI .i64)))]⟩) (by kernel_rfl) ?_
  refine DGo.cut [(34, fun b => b), (33, fun b => b)] (b := (s10.1 == s3.1)) (by kernel_rfl) (fun hb => ?_) (fun hb => ?_)
  replace h := cond_t hb h
  refine DGo.chunk' tbok 22 (σ' := ⟨62, [(7, vb true), (55, vb true), (54, vb true), (53, .tup []), (52, .tup []), (51, .tup []), (50, .tup []), (49, .tup []), (48, .tup []), (47, .tup []), (46, .tup []), (45, .tup []), (44, .tup []), (43, vb true), (42, vb true), (41, .tup []), (40, .tup []), (39, .tup []), (38, .tup []), (37, .tup []), (36, .tup []), (35, .tup []), (34, vb true), (33, vb true), (32, vi s3.1), (31, vi s10.1), (30, vb true), (29, vb true), (0, vl eOp aLog), (1, vs aKey), (5, .own 5), (6, vi s3.1), (8, vi s10.1), (26, vb (decide (s10.1 < (aLog.length : Int))))], [(5, .arr 2 1 s3.2.length (s3.2.map (eI .i64)))]⟩) (by kernel_rfl) ?_
  refine DGo.nil (by kernel_rfl) ?_
  replace h := Option.some.inj h
  subst h
  exact q_bn (q_j (Le.sub0))
  replace h := cond_f hb h
  refine DGo.chunk' tbok 2 (σ' := ⟨62, [(36, vi s10.1), (35, vl eOp aLog), (34, vb false), (33, vb false), (32, vi s3.1), (31, vi s10.1), (30, vb true), (29, vb true), (0, vl eOp aLog), (1, vs aKey), (5, .own 5), (6, vi s3.1), (7, vb true), (8, vi s10.1), (26, vb (decide (s10.1 < (aLog.length : Int))))], [(5, .arr 2 1 s3.2.length (s3.2.map (eI .i64)))]⟩) (by kernel_rfl) ?_
  obtain ⟨x14, hx14, h⟩ := bind_some h
  refine DGo.step (x_index (L := aLog) (f := eOp) (ti := ti25) (tj := ti61) (e := 61) (k := .i64) tbok rfl hx14) ?_
  refine DGo.chunk' tbok 6 (σ' := ⟨62, [(43, vb (!(x14.Key.toList == aKey.toList))), (42, vb (!(x14.Key.toList == aKey.toList))), (41, vb (!(x14.Key.toList == aKey.toList))), (40, vs aKey), (39, vs x14.Key), (38, .ptr ((eOp x14).map .tr) 2), (37, .ptr ((eOp x14).map .tr) 0), (36, vi s10.1), (35, vl eOp aLog), (34, vb false), (33, vb false), (32, vi s3.1), (31, vi s10.1), (30, vb true), (29, vb true), (0, vl eOp aLog), (1, vs aKey), (5, .own 5), (6, vi s3.1), (7, vb true), (8, vi s10.1), (26, vb (decide (s10.1 < (aLog.length : Int))))], [(5, .arr 2 1 s3.2.length (s3.2.map (eI .i64)))]⟩) (by kernel_rfl) ?_
  refine DGo.cut [(43, fun b => b), (42, fun b => b), (41, fun b => b)] (b := (!(x14.Key.toList == aKey.toList))) (by kernel_rfl) (fun hb => ?_) (fun hb => ?_)
  replace h := cond_t hb h
  refine DGo.chunk' tbok 13 (σ' := ⟨62, [(7, vb true), (55, vb true), (54, vb true), (53, .tup []), (52, .tup []), (51, .tup []), (50, .tup []), (49, .tup []), (48, .tup []), (47, .tup []), (46, .tup []), (45, .tup []), (44, .tup []), (43, vb true), (42, vb true), (41, vb true), (40, vs aKey), (39, vs x14.Key), (38, .ptr ((eOp x14).map .tr) 2), (37, .ptr ((eOp x14).map .tr) 0), (36, vi s10.1), (35, vl eOp aLog), (34, vb false), (33, vb false), (32, vi s3.1), (31, vi s10.1), (30, vb true), (29, vb true), (0, vl eOp aLog), (1, vs aKey), (5, .own 5), (6, vi s3.1), (8, vi s10.1), (26, vb (decide (s10.1 < (aLog.length : Int))))], [(5, .arr 2 1 s3.2.length (s3.2.map (eI .i64)))]⟩) (by kernel_rfl) ?_
  refine DGo.nil (by kernel_rfl) ?_
  replace h := Option.some.inj h
  subst h
  exact q_bn (q_j (Le.sub0))
  replace h := cond_f hb h
  refine DGo.chunk' tbok 2 (σ' := ⟨62, [(45, vi s10.1), (44, vl eOp aLog), (43, vb false), (42, vb false), (41, vb false), (40, vs aKey), (39, vs x14.Key), (38, .ptr ((eOp x14).map .tr) 2), (37, .ptr ((eOp x14).map .tr) 0), (36, vi s10.1), (35, vl eOp aLog), (34, vb false), (33, vb false), (32, vi s3.1), (31, vi s10.1), (30, vb true), (29, vb true), (0, vl eOp aLog), (1, vs aKey), (5, .own 5), (6, vi s3.1), (7, vb true), (8, vi s10.1), (26, vb (decide (s10.1 < (aLog.length : Int))))], [(5, .arr 2 1 s3.2.length (s3.2.map (eI .i64)))]⟩) (by kernel_rfl) ?_
  obtain ⟨x15, hx15, h⟩ := bind_some h
  refine DGo.step (x_index (L := aLog) (f := eOp) (ti := ti25) (tj := ti61) (e := 61) (k := .i64) tbok rfl hx15) ?_
  refine DGo.chunk' tbok 3 (σ' := ⟨62, [(49, vi s3.1), (48, vl eOp aLog), (47, .agg [vi x15.Office, vi x15.Number, vs x15.Key, vs x15.Text, vl (eI .i64) x15.Seen]), (46, .ptr ((eOp x15).map .tr) 0), (45, vi s10.1), (44, vl eOp aLog), (43, vb false), (42, vb false), (41, vb false), (40, vs aKey), (39, vs x14.Key), (38, .ptr ((eOp x14).map .tr) 2), (37, .ptr ((eOp x14).map .tr) 0), (36, vi s10.1), (35, vl eOp aLog), (34, vb false), (33, vb false), (32, vi s3.1), (31, vi s10.1), (30, vb true), (29, vb true), (0, vl eOp aLog), (1, vs aKey), (5, .own 5), (6, vi s3.1), (7, vb true), (8, vi s10.1), (26, vb (decide (s10.1 < (aLog.length : Int))))], [(5, .arr 2 1 s3.2.length (s3.2.map (eI .i64)))]⟩) (by kernel_rfl) ?_
  obtain ⟨x16, hx16, h⟩ := bind_some h
  refine DGo.step (x_index (L := aLog) (f := eOp) (ti := ti25) (tj := ti61) (e := 61) (k := .i64) tbok rfl hx16) ?_
  refine DGo.chunk' tbok 1 (σ' := ⟨62, [(51, .agg [vi x16.Office, vi x16.Number, vs x16.Key, vs x16.Text, vl (eI .i64) x16.Seen]), (50, .ptr ((eOp x16).map .tr) 0), (49, vi s3.1), (48, vl eOp aLog), (47, .agg [vi x15.Office, vi x15.Number, vs x15.Key, vs x15.Text, vl (eI .i64) x15.Seen]), (46, .ptr ((eOp x15).map .tr) 0), (45, vi s10.1), (44, vl eOp aLog), (43, vb false), (42, vb false), (41, vb false), (40, vs aKey), (39, vs x14.Key), (38, .ptr ((eOp x14).map .tr) 2), (37, .ptr ((eOp x14).map .tr) 0), (36, vi s10.1), (35, vl eOp aLog), (34, vb false), (33, vb false), (32, vi s3.1), (31, vi s10.1), (30, vb true), (29, vb true), (0, vl eOp aLog), (1, vs aKey), (5, .own 5), (6, vi s3.1), (7, vb true), (8, vi s10.1), (26, vb (decide (s10.1 < (aLog.length : Int))))], [(5, .arr 2 1 s3.2.length (s3.2.map (eI .i64)))]⟩) (by kernel_rfl) ?_
  obtain ⟨x17, hx17, h⟩ := bind_some h
  refine DGo.step (x_lstep_call (f := 52) (caps := []) (xs := [.agg [vi x15.Office, vi x15.Number, vs x15.Key, vs x15.Text, vl (eI .i64) x15.Seen], .agg [vi x16.Office, vi x16.Number, vs x16.Key, vs x16.Text, vl (eI .i64) x16.Seen]]) (ys := [.agg [vi x15.Office, vi x15.Number, vs x15.Key, vs x15.Text, vl (eI .i64) x15.Seen], .agg [vi x16.Office, vi x16.Number, vs x16.Key, vs x16.Text, vl (eI .i64) x16.Seen]]) (res := ⟨[.v (vb x17)], [], false⟩) (x := vb x17) (y := none) rfl ents52 (spec_l32Knows_run x15 x16 _ hx17) rfl (by intro hc; cases hc)) ?_
  refine DGo.chunk' tbok 4 (σ' := ⟨62, [(7, vb (!x17)), (55, vb (!x17)), (54, vb (!x17)), (53, vb (!x17)), (52, vb x17), (51, .agg [vi x16.Office, vi x16.Number, vs x16.Key, vs x16.Text, vl (eI .i64) x16.Seen]), (50, .ptr ((eOp x16).map .tr) 0), (49, vi s3.1), (48, vl eOp aLog), (47, .agg [vi x15.Office, vi x15.Number, vs x15.Key, vs x15.Text, vl (eI .i64) x15.Seen]), (46, .ptr ((eOp x15).map .tr) 0), (45, vi s10.1), (44, vl eOp aLog), (43, vb false), (42, vb false), (41, vb false), (40, vs aKey), (39, vs x14.Key), (38, .ptr ((eOp x14).map .tr) 2), (37, .ptr ((eOp x14).map .tr) 0), (36, vi s10.1), (35, vl eOp aLog), (34, vb false), (33, vb false), (32, vi s3.1), (31, vi s10.1), (30, vb true), (29, vb true), (0, vl eOp aLog), (1, vs aKey), (5, .own 5), (6, vi s3.1), (8, vi s10.1), (26, vb (decide (s10.1 < (aLog.length : Int))))], [(5, .arr 2 1 s3.2.length (s3.2.map (eI .i64)))]⟩) (by kernel_rfl) ?_
  refine DGo.nil (by kernel_rfl) ?_
  replace h := Option.some.inj h
  subst h
  exact q_bn (q_j (Le.sub0))
  replace h := cond_f hb h
  refine DGo.chunk' tbok 26 (σ' := ⟨62, [(7, vb false), (55, vb false), (54, .tup []), (53, .tup []), (52, .tup []), (51, .tup []), (50, .tup []), (49, .tup []), (48, .tup []), (47, .tup []), (46, .tup []), (45, .tup []), (44, .tup []), (43, .tup []), (42, .tup []), (41, .tup []), (40, .tup []), (39, .tup []), (38, .tup []), (37, .tup []), (36, .tup []), (35, .tup []), (34, .tup []), (33, .tup []), (32, .tup []), (31, .tup []), (30, vb false), (29, vb false), (0, vl eOp aLog), (1, vs aKey), (5, .own 5), (6, vi s3.1), (8, vi s10.1), (26, vb (decide (s10.1 < (aLog.length : Int))))], [(5, .arr 2 1 s3.2.length (s3.2.map (eI .i64)))]⟩) (by kernel_rfl) ?_
  refine DGo.nil (by kernel_rfl) ?_
  replace h := Option.some.inj h
  subst h
  exact q_bn (q_j (Le.sub0))
  refine swp_reg ?_
  refine SRun.ck tbok 3 ⟨62, [(0, vl eOp aLog), (1, vs aKey), (5, .own 5), (6, vi s3.1), (7, vb j12), (8, vi (w64 (s10.1 + 1)))], [(5, .arr 2 1 s3.2.length (s3.2.map (eI .i64)))]⟩ ?_
  refine SRun.nil ?_
  replace h := Option.some.inj h
  subst h
  exact q_l (Le.sub0)
  replace h := cond_f hb h
  refine swp_exit ?_
  replace h := Option.some.inj h
  subst h
  exact nx_e (q_re (q_bh (q_j (Le.sub0))))
  refine swp_seq ?_
  refine swp_reg ?_
  refine SRun.ck tbok 1 ⟨62, [(0, vl eOp aLog), (1, vs aKey), (5, .own 5), (6, vi s3.1), (56, vb j8)], [(5, .arr 2 1 s3.2.length (s3.2.map (eI .i64)))]⟩ ?_
  refine SRun.nil ?_
  refine nx_n ?_
  refine swp_cond (b := j8) (by kernel_rfl) (fun hb => ?_) (fun hb => ?_)
  replace h := cond_t hb h
  refine swp_reg ?_
  refine SRun.ck tbok 3 ⟨62, [(0, vl eOp aLog), (1, vs aKey), (6, vi s3.1), (57, .own 5), (59, .own 59)], [(5, .arr 2 1 s3.2.length (s3.2.map (eI .i64))), (59, .arr 2 1 ([s3.1] : List Int).length (([s3.1] : List Int).map (eI .i64)))]⟩ ?_
  obtain ⟨x18, hx18, h⟩ := bind_some h
  refine SRun.estep (x_append (f := (eI .i64)) (t := 32) (ti := ti32) (tj := ti2) (zs := [.int .i64 0]) (e := 2) (m := 1) (d := 5) (xv := .own 59) hx18 tbok rfl rfl rfl rfl (x_src_o (e := 2))) ?_
  refine SRun.ck tbok 1 ⟨62, [(0, vl eOp aLog), (1, vs aKey), (5, .own 60), (6, vi s3.1)], [(60, .arr 2 1 x18.length (x18.map (eI .i64)))]⟩ ?_
  refine SRun.nil ?_
  replace h := Option.some.inj h
  subst h
  exact q_bn (q_j ((Le.sub' ([(0, vl eOp aLog), (1, vs aKey), (5, .own 60), (6, vi s3.1)] : List (Nat × SV)) ([(60, .arr 2 1 x18.length (x18.map (eI .i64)))] : List (Nat × SO)) (by kernel_rfl) (by kernel_rfl)).trans ((Le.ren' (d := 60) (e := 5) (by kernel_rfl) (by kernel_rfl) (by kernel_rfl)).trans (Le.sub0))))
  replace h := cond_f hb h
  refine swp_skip ?_
  replace h := Option.some.inj h
  subst h
  exact q_bn (q_j (Le.sub0))
  refine swp_reg ?_
  refine SRun.ck tbok 3 ⟨62, [(0, vl eOp aLog), (1, vs aKey), (5, .own 5), (6, vi (w64 (s3.1 + 1)))], [(5, .arr 2 1 j5.length (j5.map (eI .i64)))]⟩ ?_
  refine SRun.nil ?_
  replace h := Option.some.inj h
  subst h
  exact q_l (Le.sub0)
  replace h := cond_f hb h
  refine swp_exit ?_
  replace h := Option.some.inj h
  subst h
  exact nx_e (q_re (q_bh (q_j (Le.sub0))))
  refine swp_seq ?_
  refine swp_reg ?_
  refine SRun.ck tbok 2 ⟨62, [(4, .own 5)], [(5, .arr 2 1 j1.length (j1.map (eI .i64)))]⟩ ?_
  refine SRun.nil ?_
  refine nx_n ?_
  refine swp_ret ?_
  replace h := Option.some.inj h
  subst h
  exact q_fr (fin1 (by kernel_rfl) (finO (d := 5) (holds_t (by kernel_rfl)) (by kernel_rfl) (flat_map (eI_flat .i64) _) (by kernel_rfl)))
theorem ents61 : Ents Tryd.prog 61 := ents_of Tryd.func61 (by kernel_rfl) rfl
noncomputable def spec_l32Text (aLog : (List Op)) (aKey : ByteArray) : Option (ByteArray) :=
  ((spec_l32Rivals aLog aKey).bind fun x1 => (((forS (x1.length : Int) (fun (i4 : Int) (s4 : ByteArray × Int) => ((at' x1 i4).bind fun x8 => ((at' aLog x8).bind fun x9 => (bif (decide (x9.Office > s4.2)) then some (x9.Text, x9.Office) else some (s4.1, s4.2))))) (fun (s4 : ByteArray × Int) => s4.1) 0 ((ByteArray.mk #[]), (-1)))).bind fun (j2 : ByteArray) => some j2))
set_option maxRecDepth 100000 in
set_option maxHeartbeats 4000000 in
theorem spec_l32Text_run (aLog : (List Op)) (aKey : ByteArray) (r : ByteArray) (h : spec_l32Text aLog aKey = some r) : SCall Tryd.prog 59 [.v (vl eOp aLog), .v (vs aKey)] ⟨[.v (vs r)], [], false⟩ := by
  refine scall_in Tryd.func59 rfl [(.tmp 4)] rfl (fun r => ⟨[.v (vs r)], [], false⟩) (r := r) ?_
  unfold spec_l32Text at h
  refine swp_seq ?_
  refine swp_reg ?_
  refine SRun.ck tbok 1 ⟨35, [(0, vl eOp aLog), (1, vs aKey)], []⟩ ?_
  refine SRun.nil ?_
  refine nx_n ?_
  refine swp_seq ?_
  refine swp_reg ?_
  refine SRun.ck tbok 2 ⟨35, [(0, vl eOp aLog), (10, vl eOp aLog), (11, vs aKey)], []⟩ ?_
  obtain ⟨x1, hx1, h⟩ := bind_some h
  refine SRun.ls (x_lstep_call (f := 61) (caps := []) (xs := [vl eOp aLog, vs aKey]) (ys := [vl eOp aLog, vs aKey]) (res := ⟨[.own 2 1 x1.length (x1.map (eI .i64))], [], false⟩) (x := .own 12) (y := some (.arr 2 1 x1.length (x1.map (eI .i64)))) rfl ents61 (spec_l32Rivals_run aLog aKey _ hx1) rfl (by intro hc; cases hc)) ?_
  refine SRun.ck tbok 1 ⟨35, [(0, vl eOp aLog), (5, .own 12)], [(12, .arr 2 1 x1.length (x1.map (eI .i64)))]⟩ ?_
  refine SRun.nil ?_
  refine nx_n ?_
  refine swp_seq ?_
  refine swp_reg ?_
  refine SRun.ck tbok 2 ⟨35, [(0, vl eOp aLog), (5, .own 12), (6, vs (ByteArray.mk #[])), (7, vi (-1))], [(12, .arr 2 1 x1.length (x1.map (eI .i64)))]⟩ ?_
  refine SRun.nil ?_
  refine nx_n ?_
  refine swp_seq ?_
  refine swp_seq ?_
  refine swp_reg ?_
  refine SRun.ck tbok 1 ⟨35, [(0, vl eOp aLog), (5, .own 12), (6, vs (ByteArray.mk #[])), (7, vi (-1)), (8, vi 0)], [(12, .arr 2 1 x1.length (x1.map (eI .i64)))]⟩ ?_
  refine SRun.nil ?_
  refine nx_n ?_
  refine swp_seqJ h (fun j2 => ⟨35, [(6, vs j2)], []⟩) (fun v3 h => ?_) (fun j2 h => ?_)
  refine swp_blk (a := v3) ?_
  refine swp_lpL (r := v3) (s := (0, (ByteArray.mk #[]), (-1))) _ (fun s4 => ⟨35, [(0, vl eOp aLog), (5, .own 5), (6, vs s4.2.1), (7, vi s4.2.2), (8, vi s4.1)], [(5, .arr 2 1 x1.length (x1.map (eI .i64)))]⟩) _ ((Le.sub' ([(0, vl eOp aLog), (5, .own 12), (6, vs (ByteArray.mk #[])), (7, vi (-1)), (8, vi 0)] : List (Nat × SV)) ([(12, .arr 2 1 x1.length (x1.map (eI .i64)))] : List (Nat × SO)) (by kernel_rfl) (by kernel_rfl)).trans ((Le.ren' (d := 12) (e := 5) (by kernel_rfl) (by kernel_rfl) (by kernel_rfl)).trans (Le.sub0))) h (fun s4 v5 h => ?_)
  refine swp_seq ?_
  refine swp_seq ?_
  refine swp_reg ?_
  refine SRun.ck tbok 4 ⟨35, [(0, vl eOp aLog), (5, .own 5), (6, vs s4.2.1), (7, vi s4.2.2), (8, vi s4.1), (16, vb (decide (s4.1 < (x1.length : Int))))], [(5, .arr 2 1 x1.length (x1.map (eI .i64)))]⟩ ?_
  refine SRun.nil ?_
  refine nx_n ?_
  refine swp_cond (b := (decide (s4.1 < (x1.length : Int)))) (by kernel_rfl) (fun hb => ?_) (fun hb => ?_)
  replace h := cond_t hb h
  refine swp_skip ?_
  refine nx_n ?_
  refine swp_seq ?_
  refine swp_seqJ h (fun j6 => ⟨35, [(0, vl eOp aLog), (5, .own 5), (6, vs j6.1), (7, vi j6.2), (8, vi s4.1)], [(5, .arr 2 1 x1.length (x1.map (eI .i64)))]⟩) (fun v7 h => ?_) (fun j6 h => ?_)
  refine swp_blk (a := v7) ?_
  refine swp_seq ?_
  refine swp_reg ?_
  refine SRun.ck tbok 3 ⟨35, [(0, vl eOp aLog), (5, .own 5), (6, vs s4.2.1), (7, vi s4.2.2), (8, vi s4.1), (19, vl eOp aLog), (20, .own 5), (21, vi s4.1)], [(5, .arr 2 1 x1.length (x1.map (eI .i64)))]⟩ ?_
  obtain ⟨x8, hx8, h⟩ := bind_some h
  refine SRun.ls (x_index_own (d := 5) (L := x1) (f := (eI .i64)) (ti := ti32) (tj := ti2) (e := 2) (e' := 2) (m := 1) (k := .i64) tbok rfl hx8) ?_
  refine SRun.ls (x_load_own (d := 5) (m := 1) (j := 0) (L := x1) (f := (eI .i64)) (ti := ti2) (e := 2) (v := vi x8) tbok rfl hx8) ?_
  obtain ⟨x9, hx9, h⟩ := bind_some h
  refine SRun.ls (x_index (L := aLog) (f := eOp) (ti := ti25) (tj := ti61) (e := 61) (k := .i64) tbok rfl hx9) ?_
  refine SRun.ck tbok 2 ⟨35, [(0, vl eOp aLog), (5, .own 5), (6, vs s4.2.1), (7, vi s4.2.2), (8, vi s4.1), (9, .ref 9 0), (25, .agg [vi x9.Office, vi x9.Number, vs x9.Key, vs x9.Text, vl (eI .i64) x9.Seen])], [(5, .arr 2 1 x1.length (x1.map (eI .i64))), (9, .box [vi 0, vi 0, vs (ByteArray.mk #[]), vs (ByteArray.mk #[]), vl (eI .i64) ([] : List Int)])]⟩ ?_
  refine SRun.estep (x_estep_store (d := 9) (k := 0) (ti := ti61) (cs := [vi 0, vi 0, vs (ByteArray.mk #[]), vs (ByteArray.mk #[]), vl (eI .i64) ([] : List Int)]) (vs := [vi x9.Office, vi x9.Number, vs x9.Key, vs x9.Text, vl (eI .i64) x9.Seen]) (v := .agg [vi x9.Office, vi x9.Number, vs x9.Key, vs x9.Text, vl (eI .i64) x9.Seen]) tbok rfl rfl) ?_
  refine SRun.nil ?_
  refine nx_n ?_
  refine swp_seq ?_
  refine swp_reg ?_
  refine SRun.ck tbok 4 ⟨35, [(0, vl eOp aLog), (5, .own 5), (6, vs s4.2.1), (7, vi s4.2.2), (8, vi s4.1), (9, .ref 9 0), (29, vb (decide (x9.Office > s4.2.2)))], [(5, .arr 2 1 x1.length (x1.map (eI .i64))), (9, .box [vi x9.Office, vi x9.Number, vs x9.Key, vs x9.Text, vl (eI .i64) x9.Seen])]⟩ ?_
  refine SRun.nil ?_
  refine nx_n ?_
  refine swp_cond (b := (decide (x9.Office > s4.2.2))) (by kernel_rfl) (fun hb => ?_) (fun hb => ?_)
  replace h := cond_t hb h
  refine swp_seq ?_
  refine swp_reg ?_
  refine SRun.ck tbok 3 ⟨35, [(0, vl eOp aLog), (5, .own 5), (6, vs x9.Text), (8, vi s4.1), (9, .ref 9 0)], [(5, .arr 2 1 x1.length (x1.map (eI .i64))), (9, .box [vi x9.Office, vi x9.Number, vs x9.Key, vs x9.Text, vl (eI .i64) x9.Seen])]⟩ ?_
  refine SRun.nil ?_
  refine nx_n ?_
  refine swp_reg ?_
  refine SRun.ck tbok 3 ⟨35, [(0, vl eOp aLog), (5, .own 5), (6, vs x9.Text), (7, vi x9.Office), (8, vi s4.1)], [(5, .arr 2 1 x1.length (x1.map (eI .i64)))]⟩ ?_
  refine SRun.nil ?_
  replace h := Option.some.inj h
  subst h
  exact q_bn (q_j (Le.sub0))
  replace h := cond_f hb h
  refine swp_skip ?_
  replace h := Option.some.inj h
  subst h
  exact q_bn (q_j (Le.sub0))
  refine swp_reg ?_
  refine SRun.ck tbok 3 ⟨35, [(0, vl eOp aLog), (5, .own 5), (6, vs j6.1), (7, vi j6.2), (8, vi (w64 (s4.1 + 1)))], [(5, .arr 2 1 x1.length (x1.map (eI .i64)))]⟩ ?_
  refine SRun.nil ?_
  replace h := Option.some.inj h
  subst h
  exact q_l (Le.sub0)
  replace h := cond_f hb h
  refine swp_exit ?_
  replace h := Option.some.inj h
  subst h
  exact nx_e (q_re (q_bh (q_j (Le.sub0))))
  refine swp_seq ?_
  refine swp_reg ?_
  refine SRun.ck tbok 2 ⟨35, [(4, vs j2)], []⟩ ?_
  refine SRun.nil ?_
  refine nx_n ?_
  refine swp_ret ?_
  replace h := Option.some.inj h
  subst h
  exact q_fr (fin1 (by kernel_rfl) (finV rfl SV.flat_of (holds_t (by kernel_rfl))))
theorem ents59 : Ents Tryd.prog 59 := ents_of Tryd.func59 (by kernel_rfl) rfl
noncomputable def spec_TextOf (aLog : (List Op)) (aKey : ByteArray) : Option (ByteArray × Int) :=
  ((spec_IsLog aLog).bind fun x1 => (bif (!x1) then some ((ByteArray.mk #[]), 1) else ((spec_l32Text aLog aKey).bind fun x2 => (bif (x2.toList == (ByteArray.mk #[]).toList) then some ((ByteArray.mk #[]), 4) else some (x2, 0)))))
set_option maxRecDepth 100000 in
set_option maxHeartbeats 4000000 in
theorem spec_TextOf_run (aLog : (List Op)) (aKey : ByteArray) (r : ByteArray × Int) (h : spec_TextOf aLog aKey = some r) : SCall Tryd.prog 28 [.v (vl eOp aLog), .v (vs aKey)] ⟨[.v (vs r.1), .v (vi r.2)], [], false⟩ := by
  refine scall_in Tryd.func28 rfl [(.tmp 4), (.tmp 5)] rfl (fun r => ⟨[.v (vs r.1), .v (vi r.2)], [], false⟩) (r := r) ?_
  unfold spec_TextOf at h
  refine swp_seq ?_
  refine swp_reg ?_
  refine SRun.ck tbok 2 ⟨16, [(0, vl eOp aLog), (1, vs aKey)], []⟩ ?_
  refine SRun.nil ?_
  refine nx_n ?_
  refine swp_seq ?_
  refine swp_seq ?_
  refine swp_reg ?_
  refine SRun.ck tbok 1 ⟨16, [(0, vl eOp aLog), (1, vs aKey), (7, vl eOp aLog)], []⟩ ?_
  obtain ⟨x1, hx1, h⟩ := bind_some h
  refine SRun.ls (x_lstep_call (f := 13) (caps := []) (xs := [vl eOp aLog]) (ys := [vl eOp aLog]) (res := ⟨[.v (vb x1)], [], false⟩) (x := vb x1) (y := none) rfl ents13 (spec_IsLog_run aLog _ hx1) rfl (by intro hc; cases hc)) ?_
  refine SRun.ck tbok 1 ⟨16, [(0, vl eOp aLog), (1, vs aKey), (9, vb (!x1))], []⟩ ?_
  refine SRun.nil ?_
  refine nx_n ?_
  refine swp_cond (b := (!x1)) (by kernel_rfl) (fun hb => ?_) (fun hb => ?_)
  replace h := cond_t hb h
  refine swp_seq ?_
  refine swp_reg ?_
  refine SRun.ck tbok 2 ⟨16, [(4, vs (ByteArray.mk #[])), (5, vi 1)], []⟩ ?_
  refine SRun.nil ?_
  refine nx_n ?_
  refine swp_ret ?_
  replace h := Option.some.inj h
  subst h
  exact nx_r (q_fr (fin2 (by kernel_rfl) (finV rfl SV.flat_of (holds_t (by kernel_rfl))) (finV rfl SV.flat_of (holds_t (by kernel_rfl)))))
  replace h := cond_f hb h
  refine swp_skip ?_
  refine nx_n ?_
  refine swp_seq ?_
  refine swp_reg ?_
  refine SRun.ck tbok 2 ⟨16, [(10, vl eOp aLog), (11, vs aKey)], []⟩ ?_
  obtain ⟨x2, hx2, h⟩ := bind_some h
  refine SRun.ls (x_lstep_call (f := 59) (caps := []) (xs := [vl eOp aLog, vs aKey]) (ys := [vl eOp aLog, vs aKey]) (res := ⟨[.v (vs x2)], [], false⟩) (x := vs x2) (y := none) rfl ents59 (spec_l32Text_run aLog aKey _ hx2) rfl (by intro hc; cases hc)) ?_
  refine SRun.ck tbok 1 ⟨16, [(6, vs x2)], []⟩ ?_
  refine SRun.nil ?_
  refine nx_n ?_
  refine swp_seq ?_
  refine swp_seq ?_
  refine swp_reg ?_
  refine SRun.ck tbok 2 ⟨16, [(6, vs x2), (14, vb (x2.toList == (ByteArray.mk #[]).toList))], []⟩ ?_
  refine SRun.nil ?_
  refine nx_n ?_
  refine swp_cond (b := (x2.toList == (ByteArray.mk #[]).toList)) (by kernel_rfl) (fun hb => ?_) (fun hb => ?_)
  replace h := cond_t hb h
  refine swp_seq ?_
  refine swp_reg ?_
  refine SRun.ck tbok 2 ⟨16, [(4, vs (ByteArray.mk #[])), (5, vi 4)], []⟩ ?_
  refine SRun.nil ?_
  refine nx_n ?_
  refine swp_ret ?_
  replace h := Option.some.inj h
  subst h
  exact nx_r (q_fr (fin2 (by kernel_rfl) (finV rfl SV.flat_of (holds_t (by kernel_rfl))) (finV rfl SV.flat_of (holds_t (by kernel_rfl)))))
  replace h := cond_f hb h
  refine swp_skip ?_
  refine nx_n ?_
  refine swp_seq ?_
  refine swp_reg ?_
  refine SRun.ck tbok 3 ⟨16, [(4, vs x2), (5, vi 0)], []⟩ ?_
  refine SRun.nil ?_
  refine nx_n ?_
  refine swp_ret ?_
  replace h := Option.some.inj h
  subst h
  exact q_fr (fin2 (by kernel_rfl) (finV rfl SV.flat_of (holds_t (by kernel_rfl))) (finV rfl SV.flat_of (holds_t (by kernel_rfl))))
theorem ents28 : Ents Tryd.prog 28 := ents_of Tryd.func28 (by kernel_rfl) rfl
noncomputable def impl_rivalsOf_1 (aY : Op) (c0 : ByteArray) (c1 : Op) : Option (Bool) :=
  (((bif (aY.Key.toList == c0.toList) then ((impl_Op_knows aY c1).bind fun x1 => some x1) else some false)).bind fun (j2 : Bool) => some j2)
set_option maxRecDepth 100000 in
set_option maxHeartbeats 4000000 in
theorem impl_rivalsOf_1_run (aY : Op) (c0 : ByteArray) (c1 : Op) (r : Bool) (h : impl_rivalsOf_1 aY c0 c1 = some r) : SCall Tryd.prog 85 [.v (.agg [vi aY.Office, vi aY.Number, vs aY.Key, vs aY.Text, vl (eI .i64) aY.Seen]), .v (.ptr [vs c0] 0), .v (.ptr [vi c1.Office, vi c1.Number, vs c1.Key, vs c1.Text, vl (eI .i64) c1.Seen] 0)] ⟨[.v (vb r)], [], false⟩ := by
  refine scall_in Tryd.func85 rfl [(.tmp 4)] rfl (fun r => ⟨[.v (vb r)], [], false⟩) (r := r) ?_
  unfold impl_rivalsOf_1 at h
  refine swp_seq ?_
  refine swp_reg ?_
  refine SRun.ck tbok 2 ⟨14, [(1, .ptr [vs c0] 0), (2, .ptr [vi c1.Office, vi c1.Number, vs c1.Key, vs c1.Text, vl (eI .i64) c1.Seen] 0), (3, .ref 3 0)], [(3, .box [vi aY.Office, vi aY.Number, vs aY.Key, vs aY.Text, vl (eI .i64) aY.Seen])]⟩ ?_
  refine SRun.nil ?_
  refine nx_n ?_
  refine swp_seq ?_
  refine swp_regJ h (fun j2 => ⟨14, [(4, vb j2)], []⟩) (fun v3 h => ?_) (fun j2 h => ?_)
  refine SRun.ck tbok 5 ⟨14, [(2, .ptr [vi c1.Office, vi c1.Number, vs c1.Key, vs c1.Text, vl (eI .i64) c1.Seen] 0), (3, .ref 3 0), (9, vb (aY.Key.toList == c0.toList))], [(3, .box [vi aY.Office, vi aY.Number, vs aY.Key, vs aY.Text, vl (eI .i64) aY.Seen])]⟩ ?_
  refine SRun.cut [(9, fun b => b)] (b := (aY.Key.toList == c0.toList)) (by kernel_rfl) (fun hb => ?_) (fun hb => ?_)
  replace h := cond_t hb h
  refine SRun.ck tbok 2 ⟨14, [(9, vb true), (10, .agg [vi aY.Office, vi aY.Number, vs aY.Key, vs aY.Text, vl (eI .i64) aY.Seen]), (11, .agg [vi c1.Office, vi c1.Number, vs c1.Key, vs c1.Text, vl (eI .i64) c1.Seen])], []⟩ ?_
  obtain ⟨x1, hx1, h⟩ := bind_some h
  refine SRun.ls (x_lstep_call (f := 55) (caps := []) (xs := [.agg [vi aY.Office, vi aY.Number, vs aY.Key, vs aY.Text, vl (eI .i64) aY.Seen], .agg [vi c1.Office, vi c1.Number, vs c1.Key, vs c1.Text, vl (eI .i64) c1.Seen]]) (ys := [.agg [vi aY.Office, vi aY.Number, vs aY.Key, vs aY.Text, vl (eI .i64) aY.Seen], .agg [vi c1.Office, vi c1.Number, vs c1.Key, vs c1.Text, vl (eI .i64) c1.Seen]]) (res := ⟨[.v (vb x1)], [], false⟩) (x := vb x1) (y := none) rfl ents55 (impl_Op_knows_run aY c1 _ hx1) rfl (by intro hc; cases hc)) ?_
  refine SRun.ck tbok 2 ⟨14, [(4, vb x1)], []⟩ ?_
  refine SRun.nil ?_
  replace h := Option.some.inj h
  subst h
  exact Le.sub0
  replace h := cond_f hb h
  refine SRun.ck tbok 5 ⟨14, [(4, vb false)], []⟩ ?_
  refine SRun.nil ?_
  replace h := Option.some.inj h
  subst h
  exact Le.sub0
  refine swp_ret ?_
  replace h := Option.some.inj h
  subst h
  exact q_fr (fin1 (by kernel_rfl) (finV rfl SV.flat_of (holds_t (by kernel_rfl))))
theorem ents85 : Ents Tryd.prog 85 := ents_of Tryd.func85 (by kernel_rfl) rfl
noncomputable def slices_IndexFunc_Op_impl_rivalsOf_1 (aS : (List Op)) (aF0 : ByteArray) (aF1 : Op) : Option (Int) :=
  (((forN (aS.length : Int) (fun (i3 : Int) (_ : Unit) => ((at' aS i3).bind fun x7 => ((impl_rivalsOf_1 x7 aF0 aF1).bind fun x8 => (bif x8 then some (.inr (.inr i3)) else some (.inl ()))))) (fun (_ : Unit) => .inl ()) 0 ())).bind (Sum.elim (fun (_ : Unit) => some (-1)) some))
set_option maxRecDepth 100000 in
set_option maxHeartbeats 4000000 in
theorem slices_IndexFunc_Op_impl_rivalsOf_1_run (aS : (List Op)) (aF0 : ByteArray) (aF1 : Op) (r : Int) (h : slices_IndexFunc_Op_impl_rivalsOf_1 aS aF0 aF1 = some r) : SCall Tryd.prog 88 [.v (vl eOp aS), .v (.clo 85 [.ptr [vs aF0] 0, .ptr [vi aF1.Office, vi aF1.Number, vs aF1.Key, vs aF1.Text, vl (eI .i64) aF1.Seen] 0])] ⟨[.v (vi r)], [], false⟩ := by
  refine scall_in Tryd.func88 rfl [(.tmp 4)] rfl (fun r => ⟨[.v (vi r)], [], false⟩) (r := r) ?_
  unfold slices_IndexFunc_Op_impl_rivalsOf_1 at h
  refine swp_seq ?_
  refine swp_reg ?_
  refine SRun.ck tbok 1 ⟨19, [(0, vl eOp aS), (1, .clo 85 [.ptr [vs aF0] 0, .ptr [vi aF1.Office, vi aF1.Number, vs aF1.Key, vs aF1.Text, vl (eI .i64) aF1.Seen] 0])], []⟩ ?_
  refine SRun.nil ?_
  refine nx_n ?_
  refine swp_seq ?_
  refine swp_seq ?_
  refine swp_reg ?_
  refine SRun.ck tbok 3 ⟨19, [(0, vl eOp aS), (1, .clo 85 [.ptr [vs aF0] 0, .ptr [vi aF1.Office, vi aF1.Number, vs aF1.Key, vs aF1.Text, vl (eI .i64) aF1.Seen] 0]), (7, vi (aS.length : Int)), (8, vi 0)], []⟩ ?_
  refine SRun.nil ?_
  refine nx_n ?_
  refine swp_seqE (r := r) h (fun j1 => ⟨19, [], []⟩) (fun v2 h => ?_) (fun j1 h => ?_)
  refine swp_blk (a := v2) ?_
  refine swp_lpL (r := v2) (s := (0, ())) _ (fun s3 => ⟨19, [(0, vl eOp aS), (1, .clo 85 [.ptr [vs aF0] 0, .ptr [vi aF1.Office, vi aF1.Number, vs aF1.Key, vs aF1.Text, vl (eI .i64) aF1.Seen] 0]), (7, vi (aS.length : Int)), (8, vi s3.1)], []⟩) _ (Le.sub0) h (fun s3 v4 h => ?_)
  refine swp_seq ?_
  refine swp_reg ?_
  refine SRun.ck tbok 1 ⟨19, [(0, vl eOp aS), (1, .clo 85 [.ptr [vs aF0] 0, .ptr [vi aF1.Office, vi aF1.Number, vs aF1.Key, vs aF1.Text, vl (eI .i64) aF1.Seen] 0]), (7, vi (aS.length : Int)), (8, vi s3.1), (9, vb (decide (s3.1 < (aS.length : Int))))], []⟩ ?_
  refine SRun.nil ?_
  refine nx_n ?_
  refine swp_seq ?_
  refine swp_cond (b := (decide (s3.1 < (aS.length : Int)))) (by kernel_rfl) (fun hb => ?_) (fun hb => ?_)
  replace h := cond_t hb h
  refine swp_skip ?_
  refine nx_n ?_
  refine swp_seq ?_
  refine swp_seqL (r := v4) h (fun j5 => ⟨19, [(0, vl eOp aS), (1, .clo 85 [.ptr [vs aF0] 0, .ptr [vi aF1.Office, vi aF1.Number, vs aF1.Key, vs aF1.Text, vl (eI .i64) aF1.Seen] 0]), (7, vi (aS.length : Int)), (8, vi s3.1)], []⟩) (fun v6 h => ?_) (fun j5 h => ?_)
  refine swp_blk (a := v6) ?_
  refine swp_seq ?_
  refine swp_reg ?_
  refine SRun.ck tbok 2 ⟨19, [(0, vl eOp aS), (1, .clo 85 [.ptr [vs aF0] 0, .ptr [vi aF1.Office, vi aF1.Number, vs aF1.Key, vs aF1.Text, vl (eI .i64) aF1.Seen] 0]), (5, vi s3.1), (7, vi (aS.length : Int)), (8, vi s3.1)], []⟩ ?_
  refine SRun.nil ?_
  refine nx_n ?_
  refine swp_seq ?_
  refine swp_reg ?_
  refine SRun.ck tbok 3 ⟨19, [(0, vl eOp aS), (1, .clo 85 [.ptr [vs aF0] 0, .ptr [vi aF1.Office, vi aF1.Number, vs aF1.Key, vs aF1.Text, vl (eI .i64) aF1.Seen] 0]), (5, vi s3.1), (7, vi (aS.length : Int)), (8, vi s3.1), (11, .clo 85 [.ptr [vs aF0] 0, .ptr [vi aF1.Office, vi aF1.Number, vs aF1.Key, vs aF1.Text, vl (eI .i64) aF1.Seen] 0]), (12, vl eOp aS), (13, vi s3.1)], []⟩ ?_
  obtain ⟨x7, hx7, h⟩ := bind_some h
  refine SRun.ls (x_index (L := aS) (f := eOp) (ti := ti25) (tj := ti61) (e := 61) (k := .i64) tbok rfl hx7) ?_
  refine SRun.ck tbok 1 ⟨19, [(0, vl eOp aS), (1, .clo 85 [.ptr [vs aF0] 0, .ptr [vi aF1.Office, vi aF1.Number, vs aF1.Key, vs aF1.Text, vl (eI .i64) aF1.Seen] 0]), (5, vi s3.1), (7, vi (aS.length : Int)), (8, vi s3.1), (11, .clo 85 [.ptr [vs aF0] 0, .ptr [vi aF1.Office, vi aF1.Number, vs aF1.Key, vs aF1.Text, vl (eI .i64) aF1.Seen] 0]), (15, .agg [vi x7.Office, vi x7.Number, vs x7.Key, vs x7.Text, vl (eI .i64) x7.Seen])], []⟩ ?_
  obtain ⟨x8, hx8, h⟩ := bind_some h
  refine SRun.ls (x_lstep_call (f := 85) (caps := [.ptr [vs aF0] 0, .ptr [vi aF1.Office, vi aF1.Number, vs aF1.Key, vs aF1.Text, vl (eI .i64) aF1.Seen] 0]) (xs := [.agg [vi x7.Office, vi x7.Number, vs x7.Key, vs x7.Text, vl (eI .i64) x7.Seen]]) (ys := [.agg [vi x7.Office, vi x7.Number, vs x7.Key, vs x7.Text, vl (eI .i64) x7.Seen], .ptr [vs aF0] 0, .ptr [vi aF1.Office, vi aF1.Number, vs aF1.Key, vs aF1.Text, vl (eI .i64) aF1.Seen] 0]) (res := ⟨[.v (vb x8)], [], false⟩) (x := vb x8) (y := none) rfl ents85 (impl_rivalsOf_1_run x7 aF0 aF1 _ hx8) rfl (by intro hc; cases hc)) ?_
  refine SRun.nil ?_
  refine nx_n ?_
  refine swp_cond (b := x8) (by kernel_rfl) (fun hb => ?_) (fun hb => ?_)
  replace h := cond_t hb h
  refine swp_seq ?_
  refine swp_reg ?_
  refine SRun.ck tbok 2 ⟨19, [(4, vi s3.1)], []⟩ ?_
  refine SRun.nil ?_
  refine nx_n ?_
  refine swp_ret ?_
  replace h := Option.some.inj h
  subst h
  exact q_br (q_rr (q_rr (q_br (q_rr (q_fr (fin1 (by kernel_rfl) (finV rfl SV.flat_of (holds_t (by kernel_rfl)))))))))
  replace h := cond_f hb h
  refine swp_skip ?_
  replace h := Option.some.inj h
  subst h
  exact q_bn (q_l (Le.sub0))
  refine swp_reg ?_
  refine SRun.ck tbok 2 ⟨19, [(0, vl eOp aS), (1, .clo 85 [.ptr [vs aF0] 0, .ptr [vi aF1.Office, vi aF1.Number, vs aF1.Key, vs aF1.Text, vl (eI .i64) aF1.Seen] 0]), (7, vi (aS.length : Int)), (8, vi (w64 (s3.1 + 1)))], []⟩ ?_
  refine SRun.nil ?_
  replace h := Option.some.inj h
  subst h
  exact q_l (Le.sub0)
  replace h := cond_f hb h
  refine swp_exit ?_
  replace h := Option.some.inj h
  subst h
  exact nx_e (q_re (q_bh (q_l (Le.sub0))))
  refine swp_seq ?_
  refine swp_reg ?_
  refine SRun.ck tbok 1 ⟨19, [(4, vi (-1))], []⟩ ?_
  refine SRun.nil ?_
  refine nx_n ?_
  refine swp_ret ?_
  replace h := Option.some.inj h
  subst h
  exact q_fr (fin1 (by kernel_rfl) (finV rfl SV.flat_of (holds_t (by kernel_rfl))))
theorem ents88 : Ents Tryd.prog 88 := ents_of Tryd.func88 (by kernel_rfl) rfl
noncomputable def slices_ContainsFunc_Op_impl_rivalsOf_1 (aS : (List Op)) (aF0 : ByteArray) (aF1 : Op) : Option (Bool) :=
  ((slices_IndexFunc_Op_impl_rivalsOf_1 aS aF0 aF1).bind fun x1 => some (decide (x1 ≥ 0)))
set_option maxRecDepth 100000 in
set_option maxHeartbeats 4000000 in
theorem slices_ContainsFunc_Op_impl_rivalsOf_1_run (aS : (List Op)) (aF0 : ByteArray) (aF1 : Op) (r : Bool) (h : slices_ContainsFunc_Op_impl_rivalsOf_1 aS aF0 aF1 = some r) : SCall Tryd.prog 84 [.v (vl eOp aS), .v (.clo 85 [.ptr [vs aF0] 0, .ptr [vi aF1.Office, vi aF1.Number, vs aF1.Key, vs aF1.Text, vl (eI .i64) aF1.Seen] 0])] ⟨[.v (vb r)], [], false⟩ := by
  refine scall_in Tryd.func84 rfl [(.tmp 4)] rfl (fun r => ⟨[.v (vb r)], [], false⟩) (r := r) ?_
  unfold slices_ContainsFunc_Op_impl_rivalsOf_1 at h
  refine swp_seq ?_
  refine swp_reg ?_
  refine SRun.ck tbok 1 ⟨9, [(0, vl eOp aS), (1, .clo 85 [.ptr [vs aF0] 0, .ptr [vi aF1.Office, vi aF1.Number, vs aF1.Key, vs aF1.Text, vl (eI .i64) aF1.Seen] 0])], []⟩ ?_
  refine SRun.nil ?_
  refine nx_n ?_
  refine swp_seq ?_
  refine swp_reg ?_
  refine SRun.ck tbok 2 ⟨9, [(5, vl eOp aS), (6, .clo 85 [.ptr [vs aF0] 0, .ptr [vi aF1.Office, vi aF1.Number, vs aF1.Key, vs aF1.Text, vl (eI .i64) aF1.Seen] 0])], []⟩ ?_
  obtain ⟨x1, hx1, h⟩ := bind_some h
  refine SRun.ls (x_lstep_call (f := 88) (caps := []) (xs := [vl eOp aS, .clo 85 [.ptr [vs aF0] 0, .ptr [vi aF1.Office, vi aF1.Number, vs aF1.Key, vs aF1.Text, vl (eI .i64) aF1.Seen] 0]]) (ys := [vl eOp aS, .clo 85 [.ptr [vs aF0] 0, .ptr [vi aF1.Office, vi aF1.Number, vs aF1.Key, vs aF1.Text, vl (eI .i64) aF1.Seen] 0]]) (res := ⟨[.v (vi x1)], [], false⟩) (x := vi x1) (y := none) rfl ents88 (slices_IndexFunc_Op_impl_rivalsOf_1_run aS aF0 aF1 _ hx1) rfl (by intro hc; cases hc)) ?_
  refine SRun.ck tbok 2 ⟨9, [(4, vb (decide (x1 ≥ 0)))], []⟩ ?_
  refine SRun.nil ?_
  refine nx_n ?_
  refine swp_ret ?_
  replace h := Option.some.inj h
  subst h
  exact q_fr (fin1 (by kernel_rfl) (finV rfl SV.flat_of (holds_t (by kernel_rfl))))
theorem ents84 : Ents Tryd.prog 84 := ents_of Tryd.func84 (by kernel_rfl) rfl
end Go.Proofs.YthfcdicfcepfhaaDoor.Sh
