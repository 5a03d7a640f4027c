/- Typed functions and the calls that do what they say. -/
import Derived.Test.YtmbejkchgdcdhaaDoorSB
import Derived.Test.YtmbejkchgdcdhaaDoorGA
namespace Go.Proofs.YtmbejkchgdcdhaaDoor.Sh
open Go.RowKit

def ti5 : TI := ⟨1, 1, .int .u8, [.int .u8 0]⟩
def ti22 : TI := ⟨1, 24, .slice 39, [.sl ([] : List Tie).length (([] : List Tie).map eTie)]⟩
def ti39 : TI := ⟨4, 40, .struct [(0, 2), (1, 2), (2, 4), (3, 9)], [.int .i64 0, .int .i64 0, .bool false, .str (ByteArray.mk #[])]⟩
def ti57 : TI := ⟨1, 24, .slice 5, [.sl ([] : List Int).length (([] : List Int).map (eI .u8))]⟩
def tblGB : Tb := [(2, ti2), (3, ti3), (4, ti4), (5, ti5), (9, ti9), (22, ti22), (25, ti25), (39, ti39), (42, ti42), (50, ti50), (57, ti57)]
theorem tbokGB : TbOk Tryd.prog tblGB := TbOk.cons ⟨by kernel_rfl, show Tryd.prog.underlying 2 = some (.int .i64) from by kernel_rfl⟩ (TbOk.cons ⟨by kernel_rfl, show Tryd.prog.underlying 3 = some (.int .i64) from by kernel_rfl⟩ (TbOk.cons ⟨by kernel_rfl, show Tryd.prog.underlying 4 = some (.bool) from by kernel_rfl⟩ (TbOk.cons ⟨by kernel_rfl, show Tryd.prog.underlying 5 = some (.int .u8) from by kernel_rfl⟩ (TbOk.cons ⟨by kernel_rfl, show Tryd.prog.underlying 9 = some (.string) from by kernel_rfl⟩ (TbOk.cons ⟨by kernel_rfl, show Tryd.prog.underlying 22 = some (.slice 39) from by kernel_rfl⟩ (TbOk.cons ⟨by kernel_rfl, show Tryd.prog.underlying 25 = some (.slice 42) from by kernel_rfl⟩ (TbOk.cons ⟨by kernel_rfl, show structOf Tryd.prog 39 = some [(0, 2), (1, 2), (2, 4), (3, 9)] from by kernel_rfl⟩ (TbOk.cons ⟨by kernel_rfl, show structOf Tryd.prog 42 = some [(0, 2), (1, 2), (2, 4), (3, 9)] from by kernel_rfl⟩ (TbOk.cons ⟨by kernel_rfl, show Tryd.prog.underlying 50 = some (.slice 2) from by kernel_rfl⟩ (TbOk.cons ⟨by kernel_rfl, show Tryd.prog.underlying 57 = some (.slice 5) from by kernel_rfl⟩ (TbOk.nil _)))))))))))
noncomputable def laws_szTie (aA : Tie) (aLeft : Int) : Option (Int) :=
  (bif (decide ((w64 (aLeft - (aA.Reason.size : Int))) < 0)) then some (-1) else some (w64 (aLeft - (aA.Reason.size : Int))))
set_option maxRecDepth 100000 in
set_option maxHeartbeats 4000000 in
theorem laws_szTie_run (aA : Tie) (aLeft : Int) (r : Int) (h : laws_szTie aA aLeft = some r) : SCall Tryd.prog 29 [.v (.agg [vi aA.A, vi aA.B, vb aA.Same, vs aA.Reason]), .v (vi aLeft)] ⟨[.v (vi r)], [], false⟩ := by
  refine scall_in Tryd.func29 rfl [(.tmp 4)] rfl (fun r => ⟨[.v (vi r)], [], false⟩) (r := r) ?_
  unfold laws_szTie at h
  refine swp_seq ?_
  refine swp_reg ?_
  refine SRun.ck tbokGB 2 ⟨13, [(1, vi aLeft), (2, .ref 2 0)], [(2, .box [vi aA.A, vi aA.B, vb aA.Same, vs aA.Reason])]⟩ ?_
  refine SRun.nil ?_
  refine nx_n ?_
  refine swp_seq ?_
  refine swp_reg ?_
  refine SRun.ck tbokGB 6 ⟨13, [(1, vi (w64 (aLeft - (aA.Reason.size : Int))))], []⟩ ?_
  refine SRun.nil ?_
  refine nx_n ?_
  refine swp_seq ?_
  refine swp_seq ?_
  refine swp_reg ?_
  refine SRun.ck tbokGB 2 ⟨13, [(1, vi (w64 (aLeft - (aA.Reason.size : Int)))), (11, vb (decide ((w64 (aLeft - (aA.Reason.size : Int))) < 0)))], []⟩ ?_
  refine SRun.nil ?_
  refine nx_n ?_
  refine swp_cond (b := (decide ((w64 (aLeft - (aA.Reason.size : Int))) < 0))) (by kernel_rfl) (fun hb => ?_) (fun hb => ?_)
  replace h := cond_t hb h
  refine swp_seq ?_
  refine swp_reg ?_
  refine SRun.ck tbokGB 1 ⟨13, [(4, vi (-1))], []⟩ ?_
  refine SRun.nil ?_
  refine nx_n ?_
  refine swp_ret ?_
  replace h := Option.some.inj h
  subst h
  exact nx_r (q_fr (fin1 (by kernel_rfl) (finV rfl SV.flat_of (holds_t (by kernel_rfl)))))
  replace h := cond_f hb h
  refine swp_skip ?_
  refine nx_n ?_
  refine swp_seq ?_
  refine swp_reg ?_
  refine SRun.ck tbokGB 2 ⟨13, [(4, vi (w64 (aLeft - (aA.Reason.size : Int))))], []⟩ ?_
  refine SRun.nil ?_
  refine nx_n ?_
  refine swp_ret ?_
  replace h := Option.some.inj h
  subst h
  exact q_fr (fin1 (by kernel_rfl) (finV rfl SV.flat_of (holds_t (by kernel_rfl))))
theorem ents29 : Ents Tryd.prog 29 := ents_of Tryd.func29 (by kernel_rfl) rfl
noncomputable def laws_szTieS (aA : (List Tie)) (aLeft : Int) : Option (Int) :=
  (bif (decide ((w64 (aLeft - (aA.length : Int))) < 0)) then some (-1) else (((forN (aA.length : Int) (fun (i3 : Int) (s3 : Int) => ((at' aA i3).bind fun x7 => ((laws_szTie x7 s3).bind fun x8 => (bif (decide (x8 < 0)) then some (.inr (.inr (-1))) else some (.inl x8))))) (fun (s3 : Int) => .inl s3) 0 (w64 (aLeft - (aA.length : Int))))).bind (Sum.elim (fun (j1 : Int) => some j1) some)))
set_option maxRecDepth 100000 in
set_option maxHeartbeats 4000000 in
theorem laws_szTieS_run (aA : (List Tie)) (aLeft : Int) (r : Int) (h : laws_szTieS aA aLeft = some r) : SCall Tryd.prog 14 [.v (vl eTie aA), .v (vi aLeft)] ⟨[.v (vi r)], [], false⟩ := by
  refine scall_in Tryd.func14 rfl [(.tmp 4)] rfl (fun r => ⟨[.v (vi r)], [], false⟩) (r := r) ?_
  unfold laws_szTieS at h
  refine swp_seq ?_
  refine swp_reg ?_
  refine SRun.ck tbokGB 1 ⟨27, [(0, vl eTie aA), (1, vi aLeft)], []⟩ ?_
  refine SRun.nil ?_
  refine nx_n ?_
  refine swp_seq ?_
  refine swp_reg ?_
  refine SRun.ck tbokGB 5 ⟨27, [(0, vl eTie aA), (1, vi (w64 (aLeft - (aA.length : Int))))], []⟩ ?_
  refine SRun.nil ?_
  refine nx_n ?_
  refine swp_seq ?_
  refine swp_seq ?_
  refine swp_reg ?_
  refine SRun.ck tbokGB 2 ⟨27, [(0, vl eTie aA), (1, vi (w64 (aLeft - (aA.length : Int)))), (11, vb (decide ((w64 (aLeft - (aA.length : Int))) < 0)))], []⟩ ?_
  refine SRun.nil ?_
  refine nx_n ?_
  refine swp_cond (b := (decide ((w64 (aLeft - (aA.length : Int))) < 0))) (by kernel_rfl) (fun hb => ?_) (fun hb => ?_)
  replace h := cond_t hb h
  refine swp_seq ?_
  refine swp_reg ?_
  refine SRun.ck tbokGB 1 ⟨27, [(4, vi (-1))], []⟩ ?_
  refine SRun.nil ?_
  refine nx_n ?_
  refine swp_ret ?_
  replace h := Option.some.inj h
  subst h
  exact nx_r (q_fr (fin1 (by kernel_rfl) (finV rfl SV.flat_of (holds_t (by kernel_rfl)))))
  replace h := cond_f hb h
  refine swp_skip ?_
  refine nx_n ?_
  refine swp_seq ?_
  refine swp_seq ?_
  refine swp_reg ?_
  refine SRun.ck tbokGB 1 ⟨27, [(0, vl eTie aA), (1, vi (w64 (aLeft - (aA.length : Int)))), (5, vi 0)], []⟩ ?_
  refine SRun.nil ?_
  refine nx_n ?_
  refine swp_seqE (r := r) h (fun j1 => ⟨27, [(1, vi j1)], []⟩) (fun v2 h => ?_) (fun j1 h => ?_)
  refine swp_blk (a := v2) ?_
  refine swp_lpL (r := v2) (s := (0, (w64 (aLeft - (aA.length : Int))))) _ (fun s3 => ⟨27, [(0, vl eTie aA), (1, vi s3.2), (5, vi s3.1)], []⟩) _ (Le.sub0) h (fun s3 v4 h => ?_)
  refine swp_seq ?_
  refine swp_seq ?_
  refine swp_reg ?_
  refine SRun.ck tbokGB 4 ⟨27, [(0, vl eTie aA), (1, vi s3.2), (5, vi s3.1), (15, vb (decide (s3.1 < (aA.length : Int))))], []⟩ ?_
  refine SRun.nil ?_
  refine nx_n ?_
  refine swp_cond (b := (decide (s3.1 < (aA.length : Int)))) (by kernel_rfl) (fun hb => ?_) (fun hb => ?_)
  replace h := cond_t hb h
  refine swp_skip ?_
  refine nx_n ?_
  refine swp_seq ?_
  refine swp_seqL (r := v4) h (fun j5 => ⟨27, [(0, vl eTie aA), (1, vi j5), (5, vi s3.1)], []⟩) (fun v6 h => ?_) (fun j5 h => ?_)
  refine swp_blk (a := v6) ?_
  refine swp_seq ?_
  refine swp_reg ?_
  refine SRun.ck tbokGB 2 ⟨27, [(0, vl eTie aA), (1, vi s3.2), (5, vi s3.1), (18, vl eTie aA), (19, vi s3.1)], []⟩ ?_
  obtain ⟨x7, hx7, h⟩ := bind_some h
  refine SRun.ls (x_index (L := aA) (f := eTie) (ti := ti22) (tj := ti39) (e := 39) (k := .i64) tbokGB rfl hx7) ?_
  refine SRun.ck tbokGB 2 ⟨27, [(0, vl eTie aA), (5, vi s3.1), (21, .agg [vi x7.A, vi x7.B, vb x7.Same, vs x7.Reason]), (22, vi s3.2)], []⟩ ?_
  obtain ⟨x8, hx8, h⟩ := bind_some h
  refine SRun.ls (x_lstep_call (f := 29) (caps := []) (xs := [.agg [vi x7.A, vi x7.B, vb x7.Same, vs x7.Reason], vi s3.2]) (ys := [.agg [vi x7.A, vi x7.B, vb x7.Same, vs x7.Reason], vi s3.2]) (res := ⟨[.v (vi x8)], [], false⟩) (x := vi x8) (y := none) rfl ents29 (laws_szTie_run x7 s3.2 _ hx8) rfl (by intro hc; cases hc)) ?_
  refine SRun.ck tbokGB 1 ⟨27, [(0, vl eTie aA), (1, vi x8), (5, vi s3.1)], []⟩ ?_
  refine SRun.nil ?_
  refine nx_n ?_
  refine swp_seq ?_
  refine swp_reg ?_
  refine SRun.ck tbokGB 2 ⟨27, [(0, vl eTie aA), (1, vi x8), (5, vi s3.1), (25, vb (decide (x8 < 0)))], []⟩ ?_
  refine SRun.nil ?_
  refine nx_n ?_
  refine swp_cond (b := (decide (x8 < 0))) (by kernel_rfl) (fun hb => ?_) (fun hb => ?_)
  replace h := cond_t hb h
  refine swp_seq ?_
  refine swp_reg ?_
  refine SRun.ck tbokGB 1 ⟨27, [(4, vi (-1))], []⟩ ?_
  refine SRun.nil ?_
  refine nx_n ?_
  refine swp_ret ?_
  replace h := Option.some.inj h
  subst h
  exact q_br (q_rr (q_rr (q_br (q_rr (q_fr (fin1 (by kernel_rfl) (finV rfl SV.flat_of (holds_t (by kernel_rfl)))))))))
  replace h := cond_f hb h
  refine swp_skip ?_
  replace h := Option.some.inj h
  subst h
  exact q_bn (q_l (Le.sub0))
  refine swp_reg ?_
  refine SRun.ck tbokGB 3 ⟨27, [(0, vl eTie aA), (1, vi j5), (5, vi (w64 (s3.1 + 1)))], []⟩ ?_
  refine SRun.nil ?_
  replace h := Option.some.inj h
  subst h
  exact q_l (Le.sub0)
  replace h := cond_f hb h
  refine swp_exit ?_
  replace h := Option.some.inj h
  subst h
  exact nx_e (q_re (q_bh (q_l (Le.sub0))))
  refine swp_seq ?_
  refine swp_reg ?_
  refine SRun.ck tbokGB 2 ⟨27, [(4, vi j1)], []⟩ ?_
  refine SRun.nil ?_
  refine nx_n ?_
  refine swp_ret ?_
  replace h := Option.some.inj h
  subst h
  exact q_fr (fin1 (by kernel_rfl) (finV rfl SV.flat_of (holds_t (by kernel_rfl))))
theorem ents14 : Ents Tryd.prog 14 := ents_of Tryd.func14 (by kernel_rfl) rfl
noncomputable def laws_toTie (aA : Tie) : Option (Tie) :=
  some aA
set_option maxRecDepth 100000 in
set_option maxHeartbeats 4000000 in
theorem laws_toTie_run (aA : Tie) (r : Tie) (h : laws_toTie aA = some r) : SCall Tryd.prog 31 [.v (.agg [vi aA.A, vi aA.B, vb aA.Same, vs aA.Reason])] ⟨[.v (.agg [vi r.A, vi r.B, vb r.Same, vs r.Reason])], [], false⟩ := by
  refine scall_in Tryd.func31 rfl [(.cell 2 42)] rfl (fun r => ⟨[.v (.agg [vi r.A, vi r.B, vb r.Same, vs r.Reason])], [], false⟩) (r := r) ?_
  unfold laws_toTie at h
  refine swp_seq ?_
  refine swp_reg ?_
  refine SRun.ck tbokGB 2 ⟨17, [(1, .ref 1 0), (2, .ref 2 0)], [(1, .box [vi aA.A, vi aA.B, vb aA.Same, vs aA.Reason]), (2, .box [vi 0, vi 0, vb false, vs (ByteArray.mk #[])])]⟩ ?_
  refine SRun.nil ?_
  refine nx_n ?_
  refine swp_seq ?_
  refine swp_reg ?_
  refine SRun.ck tbokGB 1 ⟨17, [(1, .ref 1 0), (2, .ref 2 0), (3, .ref 3 0)], [(1, .box [vi aA.A, vi aA.B, vb aA.Same, vs aA.Reason]), (2, .box [vi 0, vi 0, vb false, vs (ByteArray.mk #[])]), (3, .box [vi 0, vi 0, vb false, vs (ByteArray.mk #[])])]⟩ ?_
  refine SRun.nil ?_
  refine nx_n ?_
  refine swp_seq ?_
  refine swp_reg ?_
  refine SRun.ck tbokGB 3 ⟨17, [(1, .ref 1 0), (2, .ref 2 0), (3, .ref 3 0), (5, vi aA.A), (6, .ref 3 0)], [(1, .box [vi aA.A, vi aA.B, vb aA.Same, vs aA.Reason]), (2, .box [vi 0, vi 0, vb false, vs (ByteArray.mk #[])]), (3, .box [vi 0, vi 0, vb false, vs (ByteArray.mk #[])])]⟩ ?_
  refine SRun.estep (x_estep_store (d := 3) (k := 0) (ti := ti2) (cs := [vi 0, vi 0, vb false, vs (ByteArray.mk #[])]) (vs := [vi aA.A]) (v := vi aA.A) tbokGB rfl rfl) ?_
  refine SRun.nil ?_
  refine nx_n ?_
  refine swp_seq ?_
  refine swp_reg ?_
  refine SRun.ck tbokGB 3 ⟨17, [(1, .ref 1 0), (2, .ref 2 0), (3, .ref 3 0), (8, vi aA.B), (9, .ref 3 1)], [(1, .box [vi aA.A, vi aA.B, vb aA.Same, vs aA.Reason]), (2, .box [vi 0, vi 0, vb false, vs (ByteArray.mk #[])]), (3, .box [vi aA.A, vi 0, vb false, vs (ByteArray.mk #[])])]⟩ ?_
  refine SRun.estep (x_estep_store (d := 3) (k := 1) (ti := ti2) (cs := [vi aA.A, vi 0, vb false, vs (ByteArray.mk #[])]) (vs := [vi aA.B]) (v := vi aA.B) tbokGB rfl rfl) ?_
  refine SRun.nil ?_
  refine nx_n ?_
  refine swp_seq ?_
  refine swp_reg ?_
  refine SRun.ck tbokGB 3 ⟨17, [(1, .ref 1 0), (2, .ref 2 0), (3, .ref 3 0), (11, vb aA.Same), (12, .ref 3 2)], [(1, .box [vi aA.A, vi aA.B, vb aA.Same, vs aA.Reason]), (2, .box [vi 0, vi 0, vb false, vs (ByteArray.mk #[])]), (3, .box [vi aA.A, vi aA.B, vb false, vs (ByteArray.mk #[])])]⟩ ?_
  refine SRun.estep (x_estep_store (d := 3) (k := 2) (ti := ti4) (cs := [vi aA.A, vi aA.B, vb false, vs (ByteArray.mk #[])]) (vs := [vb aA.Same]) (v := vb aA.Same) tbokGB rfl rfl) ?_
  refine SRun.nil ?_
  refine nx_n ?_
  refine swp_seq ?_
  refine swp_reg ?_
  refine SRun.ck tbokGB 3 ⟨17, [(2, .ref 2 0), (3, .ref 3 0), (14, vs aA.Reason), (15, .ref 3 3)], [(2, .box [vi 0, vi 0, vb false, vs (ByteArray.mk #[])]), (3, .box [vi aA.A, vi aA.B, vb aA.Same, vs (ByteArray.mk #[])])]⟩ ?_
  refine SRun.estep (x_estep_store (d := 3) (k := 3) (ti := ti9) (cs := [vi aA.A, vi aA.B, vb aA.Same, vs (ByteArray.mk #[])]) (vs := [vs aA.Reason]) (v := vs aA.Reason) tbokGB rfl rfl) ?_
  refine SRun.nil ?_
  refine nx_n ?_
  refine swp_seq ?_
  refine swp_reg ?_
  refine SRun.ck tbokGB 1 ⟨17, [(2, .ref 2 0), (16, .agg [vi aA.A, vi aA.B, vb aA.Same, vs aA.Reason])], [(2, .box [vi 0, vi 0, vb false, vs (ByteArray.mk #[])])]⟩ ?_
  refine SRun.estep (x_estep_store (d := 2) (k := 0) (ti := ti42) (cs := [vi 0, vi 0, vb false, vs (ByteArray.mk #[])]) (vs := [vi aA.A, vi aA.B, vb aA.Same, vs aA.Reason]) (v := .agg [vi aA.A, vi aA.B, vb aA.Same, vs aA.Reason]) tbokGB rfl rfl) ?_
  refine SRun.nil ?_
  refine nx_n ?_
  refine swp_ret ?_
  replace h := Option.some.inj h
  subst h
  exact q_fr (fin1 (by kernel_rfl) (finV rfl SV.flat_of (holds_c tbokGB (d := 2) (cs := [vi aA.A, vi aA.B, vb aA.Same, vs aA.Reason]) (ti := ti42) (by kernel_rfl) (by kernel_rfl) (by kernel_rfl) (by kernel_rfl))))
theorem ents31 : Ents Tryd.prog 31 := ents_of Tryd.func31 (by kernel_rfl) rfl
noncomputable def laws_toTieS (aA : (List Tie)) : Option ((List Tie)) :=
  ((make' (Tie.mk 0 0 false (ByteArray.mk #[])) (aA.length : Int)).bind fun x1 => (((forS (aA.length : Int) (fun (i4 : Int) (s4 : (List Tie)) => ((at' aA i4).bind fun x8 => ((laws_toTie x8).bind fun x9 => ((at' s4 i4).bind fun _ => some (List.set s4 (Int.toNat i4) x9))))) (fun (s4 : (List Tie)) => s4) 0 x1)).bind fun (j2 : (List Tie)) => some j2))
set_option maxRecDepth 100000 in
set_option maxHeartbeats 4000000 in
theorem laws_toTieS_run (aA : (List Tie)) (r : (List Tie)) (h : laws_toTieS aA = some r) : SCall Tryd.prog 16 [.v (vl eTie aA)] ⟨[.own 42 4 r.length (r.map eTie)], [], false⟩ := by
  refine scall_in Tryd.func16 rfl [(.tmp 2)] rfl (fun r => ⟨[.own 42 4 r.length (r.map eTie)], [], false⟩) (r := r) ?_
  unfold laws_toTieS at h
  refine swp_seq ?_
  refine swp_reg ?_
  refine SRun.ck tbokGB 1 ⟨23, [(0, vl eTie aA)], []⟩ ?_
  refine SRun.nil ?_
  refine nx_n ?_
  refine swp_seq ?_
  refine swp_reg ?_
  refine SRun.ck tbokGB 2 ⟨23, [(0, vl eTie aA), (6, vi (aA.length : Int))], []⟩ ?_
  obtain ⟨x1, hx1, h⟩ := bind_some h
  refine SRun.ls (x_make (z := (Tie.mk 0 0 false (ByteArray.mk #[]))) (f := eTie) (ti := ti25) (tj := ti42) (e := 42) (m := 4) (k := .i64) (k' := .i64) hx1 tbokGB rfl rfl (zs := [.int .i64 0, .int .i64 0, .bool false, .string (ByteArray.mk #[])])) ?_
  refine SRun.ck tbokGB 1 ⟨23, [(0, vl eTie aA), (3, .own 7)], [(7, .arr 42 4 x1.length (x1.map eTie))]⟩ ?_
  refine SRun.nil ?_
  refine nx_n ?_
  refine swp_seq ?_
  refine swp_seq ?_
  refine swp_reg ?_
  refine SRun.ck tbokGB 1 ⟨23, [(0, vl eTie aA), (3, .own 7), (4, vi 0)], [(7, .arr 42 4 x1.length (x1.map eTie))]⟩ ?_
  refine SRun.nil ?_
  refine nx_n ?_
  refine swp_seqJ h (fun j2 => ⟨23, [(3, .own 3)], [(3, .arr 42 4 j2.length (j2.map eTie))]⟩) (fun v3 h => ?_) (fun j2 h => ?_)
  refine swp_blk (a := v3) ?_
  refine swp_lpL (r := v3) (s := (0, x1)) _ (fun s4 => ⟨23, [(0, vl eTie aA), (3, .own 3), (4, vi s4.1)], [(3, .arr 42 4 s4.2.length (s4.2.map eTie))]⟩) _ ((Le.sub' ([(0, vl eTie aA), (3, .own 7), (4, vi 0)] : List (Nat × SV)) ([(7, .arr 42 4 x1.length (x1.map eTie))] : List (Nat × SO)) (by kernel_rfl) (by kernel_rfl)).trans ((Le.ren' (d := 7) (e := 3) (by kernel_rfl) (by kernel_rfl) (by kernel_rfl)).trans (Le.sub0))) h (fun s4 v5 h => ?_)
  refine swp_seq ?_
  refine swp_seq ?_
  refine swp_reg ?_
  refine SRun.ck tbokGB 4 ⟨23, [(0, vl eTie aA), (3, .own 3), (4, vi s4.1), (11, vb (decide (s4.1 < (aA.length : Int))))], [(3, .arr 42 4 s4.2.length (s4.2.map eTie))]⟩ ?_
  refine SRun.nil ?_
  refine nx_n ?_
  refine swp_cond (b := (decide (s4.1 < (aA.length : Int)))) (by kernel_rfl) (fun hb => ?_) (fun hb => ?_)
  replace h := cond_t hb h
  refine swp_skip ?_
  refine nx_n ?_
  refine swp_seq ?_
  refine swp_seqJ h (fun j6 => ⟨23, [(0, vl eTie aA), (3, .own 3), (4, vi s4.1)], [(3, .arr 42 4 j6.length (j6.map eTie))]⟩) (fun v7 h => ?_) (fun j6 h => ?_)
  refine swp_blk (a := v7) ?_
  refine swp_reg ?_
  refine SRun.ck tbokGB 4 ⟨23, [(0, vl eTie aA), (3, .own 3), (4, vi s4.1), (14, .own 3), (15, vi s4.1), (16, vl eTie aA), (17, vi s4.1)], [(3, .arr 42 4 s4.2.length (s4.2.map eTie))]⟩ ?_
  obtain ⟨x8, hx8, h⟩ := bind_some h
  refine SRun.ls (x_index (L := aA) (f := eTie) (ti := ti22) (tj := ti39) (e := 39) (k := .i64) tbokGB rfl hx8) ?_
  refine SRun.ck tbokGB 1 ⟨23, [(0, vl eTie aA), (3, .own 3), (4, vi s4.1), (14, .own 3), (15, vi s4.1), (19, .agg [vi x8.A, vi x8.B, vb x8.Same, vs x8.Reason])], [(3, .arr 42 4 s4.2.length (s4.2.map eTie))]⟩ ?_
  obtain ⟨x9, hx9, h⟩ := bind_some h
  refine SRun.ls (x_lstep_call (f := 31) (caps := []) (xs := [.agg [vi x8.A, vi x8.B, vb x8.Same, vs x8.Reason]]) (ys := [.agg [vi x8.A, vi x8.B, vb x8.Same, vs x8.Reason]]) (res := ⟨[.v (.agg [vi x9.A, vi x9.B, vb x9.Same, vs x9.Reason])], [], false⟩) (x := .agg [vi x9.A, vi x9.B, vb x9.Same, vs x9.Reason]) (y := none) rfl ents31 (laws_toTie_run x8 _ hx9) rfl (by intro hc; cases hc)) ?_
  obtain ⟨x10, hx10, h⟩ := bind_some h
  refine SRun.ls (x_index_own (d := 3) (L := s4.2) (f := eTie) (ti := ti25) (tj := ti42) (e := 42) (e' := 42) (m := 4) (k := .i64) tbokGB rfl hx10) ?_
  refine SRun.estep (x_store_own (d := 3) (m := 4) (j := 0) (L := s4.2) (f := eTie) (x := x9) (z := x10) (ti := ti42) (e := 42) (ts := [.int .i64 x9.A, .int .i64 x9.B, .bool x9.Same, .str x9.Reason]) (vs := [vi x9.A, vi x9.B, vb x9.Same, vs x9.Reason]) (v := .agg [vi x9.A, vi x9.B, vb x9.Same, vs x9.Reason]) tbokGB rfl rfl hx10) ?_
  refine SRun.nil ?_
  replace h := Option.some.inj h
  subst h
  exact q_bn (q_j (Le.sub0))
  refine swp_reg ?_
  refine SRun.ck tbokGB 3 ⟨23, [(0, vl eTie aA), (3, .own 3), (4, vi (w64 (s4.1 + 1)))], [(3, .arr 42 4 j6.length (j6.map eTie))]⟩ ?_
  refine SRun.nil ?_
  replace h := Option.some.inj h
  subst h
  exact q_l (Le.sub0)
  replace h := cond_f hb h
  refine swp_exit ?_
  replace h := Option.some.inj h
  subst h
  exact nx_e (q_re (q_bh (q_j (Le.sub0))))
  refine swp_seq ?_
  refine swp_reg ?_
  refine SRun.ck tbokGB 2 ⟨23, [(2, .own 3)], [(3, .arr 42 4 j2.length (j2.map eTie))]⟩ ?_
  refine SRun.nil ?_
  refine nx_n ?_
  refine swp_ret ?_
  replace h := Option.some.inj h
  subst h
  exact q_fr (fin1 (by kernel_rfl) (finO (d := 3) (holds_t (by kernel_rfl)) (by kernel_rfl) (flat_map eTie_flat _) (by kernel_rfl)))
theorem ents16 : Ents Tryd.prog 16 := ents_of Tryd.func16 (by kernel_rfl) rfl
noncomputable def laws_eqTie (aA : Tie) (aB : Tie) : Option (Bool) :=
  (bif (aA.A != aB.A) then some false else (bif (aA.B != aB.B) then some false else (bif (!(aA.Same == aB.Same)) then some false else (bif (!(aA.Reason.toList == aB.Reason.toList)) then some false else some true))))
set_option maxRecDepth 100000 in
set_option maxHeartbeats 4000000 in
theorem laws_eqTie_run (aA : Tie) (aB : Tie) (r : Bool) (h : laws_eqTie aA aB = some r) : SCall Tryd.prog 60 [.v (.agg [vi aA.A, vi aA.B, vb aA.Same, vs aA.Reason]), .v (.agg [vi aB.A, vi aB.B, vb aB.Same, vs aB.Reason])] ⟨[.v (vb r)], [], false⟩ := by
  refine scall_in Tryd.func60 rfl [(.tmp 4)] rfl (fun r => ⟨[.v (vb r)], [], false⟩) (r := r) ?_
  unfold laws_eqTie at h
  refine swp_seq ?_
  refine swp_reg ?_
  refine SRun.ck tbokGB 3 ⟨25, [(2, .ref 2 0), (3, .ref 3 0)], [(2, .box [vi aA.A, vi aA.B, vb aA.Same, vs aA.Reason]), (3, .box [vi aB.A, vi aB.B, vb aB.Same, vs aB.Reason])]⟩ ?_
  refine SRun.nil ?_
  refine nx_n ?_
  refine swp_seq ?_
  refine swp_seq ?_
  refine swp_reg ?_
  refine SRun.ck tbokGB 5 ⟨25, [(2, .ref 2 0), (3, .ref 3 0), (9, vb (aA.A != aB.A))], [(2, .box [vi aA.A, vi aA.B, vb aA.Same, vs aA.Reason]), (3, .box [vi aB.A, vi aB.B, vb aB.Same, vs aB.Reason])]⟩ ?_
  refine SRun.nil ?_
  refine nx_n ?_
  refine swp_cond (b := (aA.A != aB.A)) (by kernel_rfl) (fun hb => ?_) (fun hb => ?_)
  replace h := cond_t hb h
  refine swp_seq ?_
  refine swp_reg ?_
  refine SRun.ck tbokGB 1 ⟨25, [(4, vb false)], []⟩ ?_
  refine SRun.nil ?_
  refine nx_n ?_
  refine swp_ret ?_
  replace h := Option.some.inj h
  subst h
  exact nx_r (q_fr (fin1 (by kernel_rfl) (finV rfl SV.flat_of (holds_t (by kernel_rfl)))))
  replace h := cond_f hb h
  refine swp_skip ?_
  refine nx_n ?_
  refine swp_seq ?_
  refine swp_seq ?_
  refine swp_reg ?_
  refine SRun.ck tbokGB 5 ⟨25, [(2, .ref 2 0), (3, .ref 3 0), (14, vb (aA.B != aB.B))], [(2, .box [vi aA.A, vi aA.B, vb aA.Same, vs aA.Reason]), (3, .box [vi aB.A, vi aB.B, vb aB.Same, vs aB.Reason])]⟩ ?_
  refine SRun.nil ?_
  refine nx_n ?_
  refine swp_cond (b := (aA.B != aB.B)) (by kernel_rfl) (fun hb => ?_) (fun hb => ?_)
  replace h := cond_t hb h
  refine swp_seq ?_
  refine swp_reg ?_
  refine SRun.ck tbokGB 1 ⟨25, [(4, vb false)], []⟩ ?_
  refine SRun.nil ?_
  refine nx_n ?_
  refine swp_ret ?_
  replace h := Option.some.inj h
  subst h
  exact nx_r (q_fr (fin1 (by kernel_rfl) (finV rfl SV.flat_of (holds_t (by kernel_rfl)))))
  replace h := cond_f hb h
  refine swp_skip ?_
  refine nx_n ?_
  refine swp_seq ?_
  refine swp_seq ?_
  refine swp_reg ?_
  refine SRun.ck tbokGB 4 ⟨25, [(2, .ref 2 0), (3, .ref 3 0), (16, vb aA.Same), (18, vb aB.Same)], [(2, .box [vi aA.A, vi aA.B, vb aA.Same, vs aA.Reason]), (3, .box [vi aB.A, vi aB.B, vb aB.Same, vs aB.Reason])]⟩ ?_
  refine SRun.ls (x_lstep_eqb tbokGB (ti := ti4) (i := aA.Same) (j := aB.Same) true rfl) ?_
  refine SRun.nil ?_
  refine nx_n ?_
  refine swp_cond (b := (!(aA.Same == aB.Same))) (by kernel_rfl) (fun hb => ?_) (fun hb => ?_)
  replace h := cond_t hb h
  refine swp_seq ?_
  refine swp_reg ?_
  refine SRun.ck tbokGB 1 ⟨25, [(4, vb false)], []⟩ ?_
  refine SRun.nil ?_
  refine nx_n ?_
  refine swp_ret ?_
  replace h := Option.some.inj h
  subst h
  exact nx_r (q_fr (fin1 (by kernel_rfl) (finV rfl SV.flat_of (holds_t (by kernel_rfl)))))
  replace h := cond_f hb h
  refine swp_skip ?_
  refine nx_n ?_
  refine swp_seq ?_
  refine swp_seq ?_
  refine swp_reg ?_
  refine SRun.ck tbokGB 5 ⟨25, [(24, vb (!(aA.Reason.toList == aB.Reason.toList)))], []⟩ ?_
  refine SRun.nil ?_
  refine nx_n ?_
  refine swp_cond (b := (!(aA.Reason.toList == aB.Reason.toList))) (by kernel_rfl) (fun hb => ?_) (fun hb => ?_)
  replace h := cond_t hb h
  refine swp_seq ?_
  refine swp_reg ?_
  refine SRun.ck tbokGB 1 ⟨25, [(4, vb false)], []⟩ ?_
  refine SRun.nil ?_
  refine nx_n ?_
  refine swp_ret ?_
  replace h := Option.some.inj h
  subst h
  exact nx_r (q_fr (fin1 (by kernel_rfl) (finV rfl SV.flat_of (holds_t (by kernel_rfl)))))
  replace h := cond_f hb h
  refine swp_skip ?_
  refine nx_n ?_
  refine swp_seq ?_
  refine swp_reg ?_
  refine SRun.ck tbokGB 1 ⟨25, [(4, vb true)], []⟩ ?_
  refine SRun.nil ?_
  refine nx_n ?_
  refine swp_ret ?_
  replace h := Option.some.inj h
  subst h
  exact q_fr (fin1 (by kernel_rfl) (finV rfl SV.flat_of (holds_t (by kernel_rfl))))
theorem ents60 : Ents Tryd.prog 60 := ents_of Tryd.func60 (by kernel_rfl) rfl
noncomputable def laws_eqTieS (aA : (List Tie)) (aB : (List Tie)) : Option (Bool) :=
  (bif ((aA.length : Int) != (aB.length : Int)) then some false else (((forN (aA.length : Int) (fun (i3 : Int) (_ : Unit) => ((at' aA i3).bind fun x7 => ((at' aB i3).bind fun x8 => ((laws_eqTie x7 x8).bind fun x9 => (bif (!x9) then some (.inr (.inr false)) else some (.inl ())))))) (fun (_ : Unit) => .inl ()) 0 ())).bind (Sum.elim (fun (_ : Unit) => some true) some)))
set_option maxRecDepth 100000 in
set_option maxHeartbeats 4000000 in
theorem laws_eqTieS_run (aA : (List Tie)) (aB : (List Tie)) (r : Bool) (h : laws_eqTieS aA aB = some r) : SCall Tryd.prog 18 [.v (vl eTie aA), .v (vl eTie aB)] ⟨[.v (vb r)], [], false⟩ := by
  refine scall_in Tryd.func18 rfl [(.tmp 4)] rfl (fun r => ⟨[.v (vb r)], [], false⟩) (r := r) ?_
  unfold laws_eqTieS at h
  refine swp_seq ?_
  refine swp_reg ?_
  refine SRun.ck tbokGB 1 ⟨27, [(0, vl eTie aA), (1, vl eTie aB)], []⟩ ?_
  refine SRun.nil ?_
  refine nx_n ?_
  refine swp_seq ?_
  refine swp_seq ?_
  refine swp_reg ?_
  refine SRun.ck tbokGB 5 ⟨27, [(0, vl eTie aA), (1, vl eTie aB), (10, vb ((aA.length : Int) != (aB.length : Int)))], []⟩ ?_
  refine SRun.nil ?_
  refine nx_n ?_
  refine swp_cond (b := ((aA.length : Int) != (aB.length : Int))) (by kernel_rfl) (fun hb => ?_) (fun hb => ?_)
  replace h := cond_t hb h
  refine swp_seq ?_
  refine swp_reg ?_
  refine SRun.ck tbokGB 1 ⟨27, [(4, vb false)], []⟩ ?_
  refine SRun.nil ?_
  refine nx_n ?_
  refine swp_ret ?_
  replace h := Option.some.inj h
  subst h
  exact nx_r (q_fr (fin1 (by kernel_rfl) (finV rfl SV.flat_of (holds_t (by kernel_rfl)))))
  replace h := cond_f hb h
  refine swp_skip ?_
  refine nx_n ?_
  refine swp_seq ?_
  refine swp_seq ?_
  refine swp_reg ?_
  refine SRun.ck tbokGB 1 ⟨27, [(0, vl eTie aA), (1, vl eTie aB), (5, vi 0)], []⟩ ?_
  refine SRun.nil ?_
  refine nx_n ?_
  refine swp_seqE (r := r) h (fun j1 => ⟨27, [], []⟩) (fun v2 h => ?_) (fun j1 h => ?_)
  refine swp_blk (a := v2) ?_
  refine swp_lpL (r := v2) (s := (0, ())) _ (fun s3 => ⟨27, [(0, vl eTie aA), (1, vl eTie aB), (5, vi s3.1)], []⟩) _ (Le.sub0) h (fun s3 v4 h => ?_)
  refine swp_seq ?_
  refine swp_seq ?_
  refine swp_reg ?_
  refine SRun.ck tbokGB 4 ⟨27, [(0, vl eTie aA), (1, vl eTie aB), (5, vi s3.1), (14, vb (decide (s3.1 < (aA.length : Int))))], []⟩ ?_
  refine SRun.nil ?_
  refine nx_n ?_
  refine swp_cond (b := (decide (s3.1 < (aA.length : Int)))) (by kernel_rfl) (fun hb => ?_) (fun hb => ?_)
  replace h := cond_t hb h
  refine swp_skip ?_
  refine nx_n ?_
  refine swp_seq ?_
  refine swp_seqL (r := v4) h (fun j5 => ⟨27, [(0, vl eTie aA), (1, vl eTie aB), (5, vi s3.1)], []⟩) (fun v6 h => ?_) (fun j5 h => ?_)
  refine swp_blk (a := v6) ?_
  refine swp_seq ?_
  refine swp_dr mixed ?_
  refine DGo.chunk' tbokGB 2 (σ' := ⟨27, [(18, vi s3.1), (17, vl eTie aA), (0, vl eTie aA), (1, vl eTie aB), (5, vi s3.1), (14, vb (decide (s3.1 < (aA.length : Int))))], []⟩) (by kernel_rfl) ?_
  obtain ⟨x7, hx7, h⟩ := bind_some h
  refine DGo.step (x_index (L := aA) (f := eTie) (ti := ti25) (tj := ti42) (e := 42) (k := .i64) tbokGB rfl hx7) ?_
  refine DGo.chunk' tbokGB 3 (σ' := ⟨27, [(22, vi s3.1), (21, vl eTie aB), (20, .agg [vi x7.A, vi x7.B, vb x7.Same, vs x7.Reason]), (19, .ptr ((eTie x7).map .tr) 0), (18, vi s3.1), (17, vl eTie aA), (0, vl eTie aA), (1, vl eTie aB), (5, vi s3.1), (14, vb (decide (s3.1 < (aA.length : Int))))], []⟩) (by kernel_rfl) ?_
  obtain ⟨x8, hx8, h⟩ := bind_some h
  refine DGo.step (x_index (L := aB) (f := eTie) (ti := ti25) (tj := ti42) (e := 42) (k := .i64) tbokGB rfl hx8) ?_
  refine DGo.chunk' tbokGB 1 (σ' := ⟨27, [(24, .agg [vi x8.A, vi x8.B, vb x8.Same, vs x8.Reason]), (23, .ptr ((eTie x8).map .tr) 0), (22, vi s3.1), (21, vl eTie aB), (20, .agg [vi x7.A, vi x7.B, vb x7.Same, vs x7.Reason]), (19, .ptr ((eTie x7).map .tr) 0), (18, vi s3.1), (17, vl eTie aA), (0, vl eTie aA), (1, vl eTie aB), (5, vi s3.1), (14, vb (decide (s3.1 < (aA.length : Int))))], []⟩) (by kernel_rfl) ?_
  obtain ⟨x9, hx9, h⟩ := bind_some h
  refine DGo.step (x_lstep_call (f := 60) (caps := []) (xs := [.agg [vi x7.A, vi x7.B, vb x7.Same, vs x7.Reason], .agg [vi x8.A, vi x8.B, vb x8.Same, vs x8.Reason]]) (ys := [.agg [vi x7.A, vi x7.B, vb x7.Same, vs x7.Reason], .agg [vi x8.A, vi x8.B, vb x8.Same, vs x8.Reason]]) (res := ⟨[.v (vb x9)], [], false⟩) (x := vb x9) (y := none) rfl ents60 (laws_eqTie_run x7 x8 _ hx9) rfl (by intro hc; cases hc)) ?_
  refine DGo.chunk' tbokGB 1 (σ' := ⟨27, [(26, vb (!x9)), (25, vb x9), (24, .agg [vi x8.A, vi x8.B, vb x8.Same, vs x8.Reason]), (23, .ptr ((eTie x8).map .tr) 0), (22, vi s3.1), (21, vl eTie aB), (20, .agg [vi x7.A, vi x7.B, vb x7.Same, vs x7.Reason]), (19, .ptr ((eTie x7).map .tr) 0), (18, vi s3.1), (17, vl eTie aA), (0, vl eTie aA), (1, vl eTie aB), (5, vi s3.1), (14, vb (decide (s3.1 < (aA.length : Int))))], []⟩) (by kernel_rfl) ?_
  refine DGo.nil (by kernel_rfl) ?_
  refine nx_n ?_
  refine swp_cond (b := (!x9)) (by kernel_rfl) (fun hb => ?_) (fun hb => ?_)
  replace h := cond_t hb h
  refine swp_seq ?_
  refine swp_reg ?_
  refine SRun.ck tbokGB 1 ⟨27, [(4, vb false)], []⟩ ?_
  refine SRun.nil ?_
  refine nx_n ?_
  refine swp_ret ?_
  replace h := Option.some.inj h
  subst h
  exact q_br (q_rr (q_rr (q_br (q_rr (q_fr (fin1 (by kernel_rfl) (finV rfl SV.flat_of (holds_t (by kernel_rfl)))))))))
  replace h := cond_f hb h
  refine swp_skip ?_
  replace h := Option.some.inj h
  subst h
  exact q_bn (q_l (Le.sub0))
  refine swp_reg ?_
  refine SRun.ck tbokGB 3 ⟨27, [(0, vl eTie aA), (1, vl eTie aB), (5, vi (w64 (s3.1 + 1)))], []⟩ ?_
  refine SRun.nil ?_
  replace h := Option.some.inj h
  subst h
  exact q_l (Le.sub0)
  replace h := cond_f hb h
  refine swp_exit ?_
  replace h := Option.some.inj h
  subst h
  exact nx_e (q_re (q_bh (q_l (Le.sub0))))
  refine swp_seq ?_
  refine swp_reg ?_
  refine SRun.ck tbokGB 1 ⟨27, [(4, vb true)], []⟩ ?_
  refine SRun.nil ?_
  refine nx_n ?_
  refine swp_ret ?_
  replace h := Option.some.inj h
  subst h
  exact q_fr (fin1 (by kernel_rfl) (finV rfl SV.flat_of (holds_t (by kernel_rfl))))
theorem ents18 : Ents Tryd.prog 18 := ents_of Tryd.func18 (by kernel_rfl) rfl
noncomputable def laws_markText (aK : Int) : Option (ByteArray) :=
  (bif (decide (aK ≤ 0)) then some (ByteArray.mk #[109, 48]) else (((loop (fun (s3 : Int × ByteArray) => (bif (decide (s3.1 > 0)) then ((cat' (strOfNums ([(IntKind.wrap .u8 (w64 (48 + (Int.tmod s3.1 10))))] : List Int)) s3.2).bind fun x5 => some (.inl ((w64 (Int.tdiv s3.1 10)), x5))) else some (.inr s3.2))) (aK, (ByteArray.mk #[])))).bind fun (j1 : ByteArray) => ((cat' (ByteArray.mk #[109]) j1).bind fun x6 => some x6)))
set_option maxRecDepth 100000 in
set_option maxHeartbeats 4000000 in
theorem laws_markText_run (aK : Int) (r : ByteArray) (h : laws_markText aK = some r) : SCall Tryd.prog 64 [.v (vi aK)] ⟨[.v (vs r)], [], false⟩ := by
  refine scall_in Tryd.func64 rfl [(.tmp 2)] rfl (fun r => ⟨[.v (vs r)], [], false⟩) (r := r) ?_
  unfold laws_markText at h
  refine swp_seq ?_
  refine swp_reg ?_
  refine SRun.ck tbokGB 1 ⟨20, [(0, vi aK)], []⟩ ?_
  refine SRun.nil ?_
  refine nx_n ?_
  refine swp_seq ?_
  refine swp_seq ?_
  refine swp_reg ?_
  refine SRun.ck tbokGB 2 ⟨20, [(0, vi aK), (5, vb (decide (aK ≤ 0)))], []⟩ ?_
  refine SRun.nil ?_
  refine nx_n ?_
  refine swp_cond (b := (decide (aK ≤ 0))) (by kernel_rfl) (fun hb => ?_) (fun hb => ?_)
  replace h := cond_t hb h
  refine swp_seq ?_
  refine swp_reg ?_
  refine SRun.ck tbokGB 1 ⟨20, [(2, vs (ByteArray.mk #[109, 48]))], []⟩ ?_
  refine SRun.nil ?_
  refine nx_n ?_
  refine swp_ret ?_
  replace h := Option.some.inj h
  subst h
  exact nx_r (q_fr (fin1 (by kernel_rfl) (finV rfl SV.flat_of (holds_t (by kernel_rfl)))))
  replace h := cond_f hb h
  refine swp_skip ?_
  refine nx_n ?_
  refine swp_seq ?_
  refine swp_reg ?_
  refine SRun.ck tbokGB 1 ⟨20, [(0, vi aK), (3, vs (ByteArray.mk #[]))], []⟩ ?_
  refine SRun.nil ?_
  refine nx_n ?_
  refine swp_seq ?_
  refine swp_seqJ h (fun j1 => ⟨20, [(3, vs j1)], []⟩) (fun v2 h => ?_) (fun j1 h => ?_)
  refine swp_blk (a := v2) ?_
  refine swp_lpL (r := v2) (s := (aK, (ByteArray.mk #[]))) _ (fun s3 => ⟨20, [(0, vi s3.1), (3, vs s3.2)], []⟩) _ (Le.sub0) h (fun s3 v4 h => ?_)
  refine swp_seq ?_
  refine swp_seq ?_
  refine swp_reg ?_
  refine SRun.ck tbokGB 2 ⟨20, [(0, vi s3.1), (3, vs s3.2), (7, vb (decide (s3.1 > 0)))], []⟩ ?_
  refine SRun.nil ?_
  refine nx_n ?_
  refine swp_cond (b := (decide (s3.1 > 0))) (by kernel_rfl) (fun hb => ?_) (fun hb => ?_)
  replace h := cond_t hb h
  refine swp_skip ?_
  refine nx_n ?_
  refine swp_blk (a := v4) ?_
  refine swp_seq ?_
  refine swp_reg ?_
  refine SRun.ck tbokGB 5 ⟨20, [(0, vi s3.1), (3, vs s3.2), (12, .own 12)], [(12, .arr 5 1 ([(IntKind.wrap .u8 (w64 (48 + (Int.tmod s3.1 10))))] : List Int).length (([(IntKind.wrap .u8 (w64 (48 + (Int.tmod s3.1 10))))] : List Int).map (eI .u8)))]⟩ ?_
  refine SRun.ls (x_bytes_own (L := ([(IntKind.wrap .u8 (w64 (48 + (Int.tmod s3.1 10))))] : List Int)) (d := 12) (e' := 5) tbokGB rfl (e := 5) (ti := ti57) (tj := ti5) (tk := ti9)) ?_
  refine SRun.ck tbokGB 1 ⟨20, [(0, vi s3.1), (13, vs (strOfNums ([(IntKind.wrap .u8 (w64 (48 + (Int.tmod s3.1 10))))] : List Int))), (14, vs s3.2)], []⟩ ?_
  obtain ⟨x5, hx5, h⟩ := bind_some h
  refine SRun.ls (x_cat hx5 rfl) ?_
  refine SRun.ck tbokGB 1 ⟨20, [(0, vi s3.1), (3, vs x5)], []⟩ ?_
  refine SRun.nil ?_
  refine nx_n ?_
  refine swp_reg ?_
  refine SRun.ck tbokGB 3 ⟨20, [(0, vi (w64 (Int.tdiv s3.1 10))), (3, vs x5)], []⟩ ?_
  refine SRun.nil ?_
  replace h := Option.some.inj h
  subst h
  exact q_bn (q_l (Le.sub0))
  replace h := cond_f hb h
  refine swp_exit ?_
  replace h := Option.some.inj h
  subst h
  exact nx_e (q_re (q_bh (q_j (Le.sub0))))
  refine swp_seq ?_
  refine swp_reg ?_
  refine SRun.ck tbokGB 1 ⟨20, [(18, vs j1)], []⟩ ?_
  obtain ⟨x6, hx6, h⟩ := bind_some h
  refine SRun.ls (x_cat hx6 rfl) ?_
  refine SRun.ck tbokGB 1 ⟨20, [(2, vs x6)], []⟩ ?_
  refine SRun.nil ?_
  refine nx_n ?_
  refine swp_ret ?_
  replace h := Option.some.inj h
  subst h
  exact q_fr (fin1 (by kernel_rfl) (finV rfl SV.flat_of (holds_t (by kernel_rfl))))
theorem ents64 : Ents Tryd.prog 64 := ents_of Tryd.func64 (by kernel_rfl) rfl
noncomputable def laws_markTieS (aA : (List Tie)) (aK : Int) : Option (Int × (List Tie)) :=
  (((forH (fun (i3 : Int) (s3 : Int × (List Tie)) => (decide (i3 < (s3.2.length : Int)))) (fun (i3 : Int) (s3 : Int × (List Tie)) => ((at' s3.2 i3).bind fun x7 => ((at' (List.set s3.2 (Int.toNat i3) (Tie.mk s3.1 x7.B x7.Same x7.Reason)) i3).bind fun x8 => ((at' (List.set (List.set s3.2 (Int.toNat i3) (Tie.mk s3.1 x7.B x7.Same x7.Reason)) (Int.toNat i3) (Tie.mk x8.A (w64 (s3.1 + 1)) x8.Same x8.Reason)) i3).bind fun x9 => ((laws_markText (w64 ((w64 ((w64 (s3.1 + 1)) + 1)) + 1))).bind fun x10 => ((at' (List.set (List.set (List.set s3.2 (Int.toNat i3) (Tie.mk s3.1 x7.B x7.Same x7.Reason)) (Int.toNat i3) (Tie.mk x8.A (w64 (s3.1 + 1)) x8.Same x8.Reason)) (Int.toNat i3) (Tie.mk x9.A x9.B ((Int.tmod (w64 ((w64 (s3.1 + 1)) + 1)) 3) == 0) x9.Reason)) i3).bind fun x11 => some ((w64 ((w64 ((w64 ((w64 (s3.1 + 1)) + 1)) + 1)) + 1)), (List.set (List.set (List.set (List.set s3.2 (Int.toNat i3) (Tie.mk s3.1 x7.B x7.Same x7.Reason)) (Int.toNat i3) (Tie.mk x8.A (w64 (s3.1 + 1)) x8.Same x8.Reason)) (Int.toNat i3) (Tie.mk x9.A x9.B ((Int.tmod (w64 ((w64 (s3.1 + 1)) + 1)) 3) == 0) x9.Reason)) (Int.toNat i3) (Tie.mk x11.A x11.B x11.Same x10))))))))) (fun (s3 : Int × (List Tie)) => (s3.1, s3.2)) 0 (aK, aA))).bind fun (j1 : Int × (List Tie)) => some (j1.1, j1.2))
set_option maxRecDepth 100000 in
set_option maxHeartbeats 4000000 in
theorem laws_markTieS_run (aA : (List Tie)) (aK : Int) (r : Int × (List Tie)) (h : laws_markTieS aA aK = some r) : SCall Tryd.prog 21 [.o (.arr 42 4 aA.length (aA.map eTie)), .v (vi aK)] ⟨[.v (vi r.1)], [(0, .arr 42 4 r.2.length (r.2.map eTie))], false⟩ := by
  refine scall_in Tryd.func21 rfl [(.tmp 4)] rfl (fun r => ⟨[.v (vi r.1)], [(0, .arr 42 4 r.2.length (r.2.map eTie))], false⟩) (r := r) ?_
  unfold laws_markTieS at h
  refine swp_seq ?_
  refine swp_reg ?_
  refine SRun.ck tbokGB 1 ⟨44, [(0, .own 1000000), (1, vi aK)], [(1000000, .arr 42 4 aA.length (aA.map eTie))]⟩ ?_
  refine SRun.nil ?_
  refine nx_n ?_
  refine swp_seq ?_
  refine swp_seq ?_
  refine swp_reg ?_
  refine SRun.ck tbokGB 1 ⟨44, [(0, .own 1000000), (1, vi aK), (5, vi 0)], [(1000000, .arr 42 4 aA.length (aA.map eTie))]⟩ ?_
  refine SRun.nil ?_
  refine nx_n ?_
  refine swp_seqJ h (fun j1 => ⟨44, [(1, vi j1.1)], [(1000000, .arr 42 4 j1.2.length (j1.2.map eTie))]⟩) (fun v2 h => ?_) (fun j1 h => ?_)
  refine swp_blk (a := v2) ?_
  refine swp_lpL (r := v2) (s := (0, aK, aA)) _ (fun s3 => ⟨44, [(0, .own 1000000), (1, vi s3.2.1), (5, vi s3.1)], [(1000000, .arr 42 4 s3.2.2.length (s3.2.2.map eTie))]⟩) _ (Le.sub0) h (fun s3 v4 h => ?_)
  refine swp_seq ?_
  refine swp_seq ?_
  refine swp_reg ?_
  refine SRun.ck tbokGB 4 ⟨44, [(0, .own 1000000), (1, vi s3.2.1), (5, vi s3.1), (9, vb (decide (s3.1 < (s3.2.2.length : Int))))], [(1000000, .arr 42 4 s3.2.2.length (s3.2.2.map eTie))]⟩ ?_
  refine SRun.nil ?_
  refine nx_n ?_
  refine swp_cond (b := (decide (s3.1 < (s3.2.2.length : Int)))) (by kernel_rfl) (fun hb => ?_) (fun hb => ?_)
  replace h := cond_t hb h
  refine swp_skip ?_
  refine nx_n ?_
  refine swp_seq ?_
  refine swp_seqJ h (fun j5 => ⟨44, [(0, .own 1000000), (1, vi j5.1), (5, vi s3.1)], [(1000000, .arr 42 4 j5.2.length (j5.2.map eTie))]⟩) (fun v6 h => ?_) (fun j5 h => ?_)
  refine swp_blk (a := v6) ?_
  refine swp_seq ?_
  refine swp_reg ?_
  refine SRun.ck tbokGB 3 ⟨44, [(0, .own 1000000), (1, vi s3.2.1), (5, vi s3.1), (12, .own 1000000), (13, vi s3.1), (14, vi s3.2.1)], [(1000000, .arr 42 4 s3.2.2.length (s3.2.2.map eTie))]⟩ ?_
  obtain ⟨x7, hx7, h⟩ := bind_some h
  refine SRun.ls (x_index_own (d := 1000000) (L := s3.2.2) (f := eTie) (ti := ti25) (tj := ti42) (e := 42) (e' := 42) (m := 4) (k := .i64) tbokGB rfl hx7) ?_
  refine SRun.ck tbokGB 1 ⟨44, [(0, .own 1000000), (1, vi s3.2.1), (5, vi s3.1), (14, vi s3.2.1), (16, .eref 1000000 4 (Int.toNat s3.1) 0)], [(1000000, .arr 42 4 s3.2.2.length (s3.2.2.map eTie))]⟩ ?_
  refine SRun.estep (x_store_own (d := 1000000) (m := 4) (j := 0) (L := s3.2.2) (f := eTie) (x := (Tie.mk s3.2.1 x7.B x7.Same x7.Reason)) (z := x7) (ti := ti2) (e := 42) (ts := [.int .i64 s3.2.1]) (vs := [vi s3.2.1]) (v := vi s3.2.1) tbokGB rfl rfl hx7) ?_
  refine SRun.nil ?_
  refine nx_n ?_
  refine swp_seq ?_
  refine swp_reg ?_
  refine SRun.ck tbokGB 3 ⟨44, [(0, .own 1000000), (1, vi (w64 (s3.2.1 + 1))), (5, vi s3.1)], [(1000000, .arr 42 4 (List.set s3.2.2 (Int.toNat s3.1) (Tie.mk s3.2.1 x7.B x7.Same x7.Reason)).length ((List.set s3.2.2 (Int.toNat s3.1) (Tie.mk s3.2.1 x7.B x7.Same x7.Reason)).map eTie))]⟩ ?_
  refine SRun.nil ?_
  refine nx_n ?_
  refine swp_seq ?_
  refine swp_reg ?_
  refine SRun.ck tbokGB 3 ⟨44, [(0, .own 1000000), (1, vi (w64 (s3.2.1 + 1))), (5, vi s3.1), (19, .own 1000000), (20, vi s3.1), (21, vi (w64 (s3.2.1 + 1)))], [(1000000, .arr 42 4 (List.set s3.2.2 (Int.toNat s3.1) (Tie.mk s3.2.1 x7.B x7.Same x7.Reason)).length ((List.set s3.2.2 (Int.toNat s3.1) (Tie.mk s3.2.1 x7.B x7.Same x7.Reason)).map eTie))]⟩ ?_
  obtain ⟨x8, hx8, h⟩ := bind_some h
  refine SRun.ls (x_index_own (d := 1000000) (L := (List.set s3.2.2 (Int.toNat s3.1) (Tie.mk s3.2.1 x7.B x7.Same x7.Reason))) (f := eTie) (ti := ti25) (tj := ti42) (e := 42) (e' := 42) (m := 4) (k := .i64) tbokGB rfl hx8) ?_
  refine SRun.ck tbokGB 1 ⟨44, [(0, .own 1000000), (1, vi (w64 (s3.2.1 + 1))), (5, vi s3.1), (21, vi (w64 (s3.2.1 + 1))), (23, .eref 1000000 4 (Int.toNat s3.1) 1)], [(1000000, .arr 42 4 (List.set s3.2.2 (Int.toNat s3.1) (Tie.mk s3.2.1 x7.B x7.Same x7.Reason)).length ((List.set s3.2.2 (Int.toNat s3.1) (Tie.mk s3.2.1 x7.B x7.Same x7.Reason)).map eTie))]⟩ ?_
  refine SRun.estep (x_store_own (d := 1000000) (m := 4) (j := 1) (L := (List.set s3.2.2 (Int.toNat s3.1) (Tie.mk s3.2.1 x7.B x7.Same x7.Reason))) (f := eTie) (x := (Tie.mk x8.A (w64 (s3.2.1 + 1)) x8.Same x8.Reason)) (z := x8) (ti := ti2) (e := 42) (ts := [.int .i64 (w64 (s3.2.1 + 1))]) (vs := [vi (w64 (s3.2.1 + 1))]) (v := vi (w64 (s3.2.1 + 1))) tbokGB rfl rfl hx8) ?_
  refine SRun.nil ?_
  refine nx_n ?_
  refine swp_seq ?_
  refine swp_reg ?_
  refine SRun.ck tbokGB 3 ⟨44, [(0, .own 1000000), (1, vi (w64 ((w64 (s3.2.1 + 1)) + 1))), (5, vi s3.1)], [(1000000, .arr 42 4 (List.set (List.set s3.2.2 (Int.toNat s3.1) (Tie.mk s3.2.1 x7.B x7.Same x7.Reason)) (Int.toNat s3.1) (Tie.mk x8.A (w64 (s3.2.1 + 1)) x8.Same x8.Reason)).length ((List.set (List.set s3.2.2 (Int.toNat s3.1) (Tie.mk s3.2.1 x7.B x7.Same x7.Reason)) (Int.toNat s3.1) (Tie.mk x8.A (w64 (s3.2.1 + 1)) x8.Same x8.Reason)).map eTie))]⟩ ?_
  refine SRun.nil ?_
  refine nx_n ?_
  refine swp_seq ?_
  refine swp_reg ?_
  refine SRun.ck tbokGB 5 ⟨44, [(0, .own 1000000), (1, vi (w64 ((w64 (s3.2.1 + 1)) + 1))), (5, vi s3.1), (26, .own 1000000), (27, vi s3.1), (30, vb ((Int.tmod (w64 ((w64 (s3.2.1 + 1)) + 1)) 3) == 0))], [(1000000, .arr 42 4 (List.set (List.set s3.2.2 (Int.toNat s3.1) (Tie.mk s3.2.1 x7.B x7.Same x7.Reason)) (Int.toNat s3.1) (Tie.mk x8.A (w64 (s3.2.1 + 1)) x8.Same x8.Reason)).length ((List.set (List.set s3.2.2 (Int.toNat s3.1) (Tie.mk s3.2.1 x7.B x7.Same x7.Reason)) (Int.toNat s3.1) (Tie.mk x8.A (w64 (s3.2.1 + 1)) x8.Same x8.Reason)).map eTie))]⟩ ?_
  obtain ⟨x9, hx9, h⟩ := bind_some h
  refine SRun.ls (x_index_own (d := 1000000) (L := (List.set (List.set s3.2.2 (Int.toNat s3.1) (Tie.mk s3.2.1 x7.B x7.Same x7.Reason)) (Int.toNat s3.1) (Tie.mk x8.A (w64 (s3.2.1 + 1)) x8.Same x8.Reason))) (f := eTie) (ti := ti25) (tj := ti42) (e := 42) (e' := 42) (m := 4) (k := .i64) tbokGB rfl hx9) ?_
  refine SRun.ck tbokGB 1 ⟨44, [(0, .own 1000000), (1, vi (w64 ((w64 (s3.2.1 + 1)) + 1))), (5, vi s3.1), (30, vb ((Int.tmod (w64 ((w64 (s3.2.1 + 1)) + 1)) 3) == 0)), (32, .eref 1000000 4 (Int.toNat s3.1) 2)], [(1000000, .arr 42 4 (List.set (List.set s3.2.2 (Int.toNat s3.1) (Tie.mk s3.2.1 x7.B x7.Same x7.Reason)) (Int.toNat s3.1) (Tie.mk x8.A (w64 (s3.2.1 + 1)) x8.Same x8.Reason)).length ((List.set (List.set s3.2.2 (Int.toNat s3.1) (Tie.mk s3.2.1 x7.B x7.Same x7.Reason)) (Int.toNat s3.1) (Tie.mk x8.A (w64 (s3.2.1 + 1)) x8.Same x8.Reason)).map eTie))]⟩ ?_
  refine SRun.estep (x_store_own (d := 1000000) (m := 4) (j := 2) (L := (List.set (List.set s3.2.2 (Int.toNat s3.1) (Tie.mk s3.2.1 x7.B x7.Same x7.Reason)) (Int.toNat s3.1) (Tie.mk x8.A (w64 (s3.2.1 + 1)) x8.Same x8.Reason))) (f := eTie) (x := (Tie.mk x9.A x9.B ((Int.tmod (w64 ((w64 (s3.2.1 + 1)) + 1)) 3) == 0) x9.Reason)) (z := x9) (ti := ti4) (e := 42) (ts := [.bool ((Int.tmod (w64 ((w64 (s3.2.1 + 1)) + 1)) 3) == 0)]) (vs := [vb ((Int.tmod (w64 ((w64 (s3.2.1 + 1)) + 1)) 3) == 0)]) (v := vb ((Int.tmod (w64 ((w64 (s3.2.1 + 1)) + 1)) 3) == 0)) tbokGB rfl rfl hx9) ?_
  refine SRun.nil ?_
  refine nx_n ?_
  refine swp_seq ?_
  refine swp_reg ?_
  refine SRun.ck tbokGB 3 ⟨44, [(0, .own 1000000), (1, vi (w64 ((w64 ((w64 (s3.2.1 + 1)) + 1)) + 1))), (5, vi s3.1)], [(1000000, .arr 42 4 (List.set (List.set (List.set s3.2.2 (Int.toNat s3.1) (Tie.mk s3.2.1 x7.B x7.Same x7.Reason)) (Int.toNat s3.1) (Tie.mk x8.A (w64 (s3.2.1 + 1)) x8.Same x8.Reason)) (Int.toNat s3.1) (Tie.mk x9.A x9.B ((Int.tmod (w64 ((w64 (s3.2.1 + 1)) + 1)) 3) == 0) x9.Reason)).length ((List.set (List.set (List.set s3.2.2 (Int.toNat s3.1) (Tie.mk s3.2.1 x7.B x7.Same x7.Reason)) (Int.toNat s3.1) (Tie.mk x8.A (w64 (s3.2.1 + 1)) x8.Same x8.Reason)) (Int.toNat s3.1) (Tie.mk x9.A x9.B ((Int.tmod (w64 ((w64 (s3.2.1 + 1)) + 1)) 3) == 0) x9.Reason)).map eTie))]⟩ ?_
  refine SRun.nil ?_
  refine nx_n ?_
  refine swp_seq ?_
  refine swp_reg ?_
  refine SRun.ck tbokGB 3 ⟨44, [(0, .own 1000000), (1, vi (w64 ((w64 ((w64 (s3.2.1 + 1)) + 1)) + 1))), (5, vi s3.1), (35, .own 1000000), (36, vi s3.1), (37, vi (w64 ((w64 ((w64 (s3.2.1 + 1)) + 1)) + 1)))], [(1000000, .arr 42 4 (List.set (List.set (List.set s3.2.2 (Int.toNat s3.1) (Tie.mk s3.2.1 x7.B x7.Same x7.Reason)) (Int.toNat s3.1) (Tie.mk x8.A (w64 (s3.2.1 + 1)) x8.Same x8.Reason)) (Int.toNat s3.1) (Tie.mk x9.A x9.B ((Int.tmod (w64 ((w64 (s3.2.1 + 1)) + 1)) 3) == 0) x9.Reason)).length ((List.set (List.set (List.set s3.2.2 (Int.toNat s3.1) (Tie.mk s3.2.1 x7.B x7.Same x7.Reason)) (Int.toNat s3.1) (Tie.mk x8.A (w64 (s3.2.1 + 1)) x8.Same x8.Reason)) (Int.toNat s3.1) (Tie.mk x9.A x9.B ((Int.tmod (w64 ((w64 (s3.2.1 + 1)) + 1)) 3) == 0) x9.Reason)).map eTie))]⟩ ?_
  obtain ⟨x10, hx10, h⟩ := bind_some h
  refine SRun.ls (x_lstep_call (f := 64) (caps := []) (xs := [vi (w64 ((w64 ((w64 (s3.2.1 + 1)) + 1)) + 1))]) (ys := [vi (w64 ((w64 ((w64 (s3.2.1 + 1)) + 1)) + 1))]) (res := ⟨[.v (vs x10)], [], false⟩) (x := vs x10) (y := none) rfl ents64 (laws_markText_run (w64 ((w64 ((w64 (s3.2.1 + 1)) + 1)) + 1)) _ hx10) rfl (by intro hc; cases hc)) ?_
  obtain ⟨x11, hx11, h⟩ := bind_some h
  refine SRun.ls (x_index_own (d := 1000000) (L := (List.set (List.set (List.set s3.2.2 (Int.toNat s3.1) (Tie.mk s3.2.1 x7.B x7.Same x7.Reason)) (Int.toNat s3.1) (Tie.mk x8.A (w64 (s3.2.1 + 1)) x8.Same x8.Reason)) (Int.toNat s3.1) (Tie.mk x9.A x9.B ((Int.tmod (w64 ((w64 (s3.2.1 + 1)) + 1)) 3) == 0) x9.Reason))) (f := eTie) (ti := ti25) (tj := ti42) (e := 42) (e' := 42) (m := 4) (k := .i64) tbokGB rfl hx11) ?_
  refine SRun.ck tbokGB 1 ⟨44, [(0, .own 1000000), (1, vi (w64 ((w64 ((w64 (s3.2.1 + 1)) + 1)) + 1))), (5, vi s3.1), (38, vs x10), (40, .eref 1000000 4 (Int.toNat s3.1) 3)], [(1000000, .arr 42 4 (List.set (List.set (List.set s3.2.2 (Int.toNat s3.1) (Tie.mk s3.2.1 x7.B x7.Same x7.Reason)) (Int.toNat s3.1) (Tie.mk x8.A (w64 (s3.2.1 + 1)) x8.Same x8.Reason)) (Int.toNat s3.1) (Tie.mk x9.A x9.B ((Int.tmod (w64 ((w64 (s3.2.1 + 1)) + 1)) 3) == 0) x9.Reason)).length ((List.set (List.set (List.set s3.2.2 (Int.toNat s3.1) (Tie.mk s3.2.1 x7.B x7.Same x7.Reason)) (Int.toNat s3.1) (Tie.mk x8.A (w64 (s3.2.1 + 1)) x8.Same x8.Reason)) (Int.toNat s3.1) (Tie.mk x9.A x9.B ((Int.tmod (w64 ((w64 (s3.2.1 + 1)) + 1)) 3) == 0) x9.Reason)).map eTie))]⟩ ?_
  refine SRun.estep (x_store_own (d := 1000000) (m := 4) (j := 3) (L := (List.set (List.set (List.set s3.2.2 (Int.toNat s3.1) (Tie.mk s3.2.1 x7.B x7.Same x7.Reason)) (Int.toNat s3.1) (Tie.mk x8.A (w64 (s3.2.1 + 1)) x8.Same x8.Reason)) (Int.toNat s3.1) (Tie.mk x9.A x9.B ((Int.tmod (w64 ((w64 (s3.2.1 + 1)) + 1)) 3) == 0) x9.Reason))) (f := eTie) (x := (Tie.mk x11.A x11.B x11.Same x10)) (z := x11) (ti := ti9) (e := 42) (ts := [.str x10]) (vs := [vs x10]) (v := vs x10) tbokGB rfl rfl hx11) ?_
  refine SRun.nil ?_
  refine nx_n ?_
  refine swp_reg ?_
  refine SRun.ck tbokGB 3 ⟨44, [(0, .own 1000000), (1, vi (w64 ((w64 ((w64 ((w64 (s3.2.1 + 1)) + 1)) + 1)) + 1))), (5, vi s3.1)], [(1000000, .arr 42 4 (List.set (List.set (List.set (List.set s3.2.2 (Int.toNat s3.1) (Tie.mk s3.2.1 x7.B x7.Same x7.Reason)) (Int.toNat s3.1) (Tie.mk x8.A (w64 (s3.2.1 + 1)) x8.Same x8.Reason)) (Int.toNat s3.1) (Tie.mk x9.A x9.B ((Int.tmod (w64 ((w64 (s3.2.1 + 1)) + 1)) 3) == 0) x9.Reason)) (Int.toNat s3.1) (Tie.mk x11.A x11.B x11.Same x10)).length ((List.set (List.set (List.set (List.set s3.2.2 (Int.toNat s3.1) (Tie.mk s3.2.1 x7.B x7.Same x7.Reason)) (Int.toNat s3.1) (Tie.mk x8.A (w64 (s3.2.1 + 1)) x8.Same x8.Reason)) (Int.toNat s3.1) (Tie.mk x9.A x9.B ((Int.tmod (w64 ((w64 (s3.2.1 + 1)) + 1)) 3) == 0) x9.Reason)) (Int.toNat s3.1) (Tie.mk x11.A x11.B x11.Same x10)).map eTie))]⟩ ?_
  refine SRun.nil ?_
  replace h := Option.some.inj h
  subst h
  exact q_bn (q_j (Le.sub0))
  refine swp_reg ?_
  refine SRun.ck tbokGB 3 ⟨44, [(0, .own 1000000), (1, vi j5.1), (5, vi (w64 (s3.1 + 1)))], [(1000000, .arr 42 4 j5.2.length (j5.2.map eTie))]⟩ ?_
  refine SRun.nil ?_
  replace h := Option.some.inj h
  subst h
  exact q_l (Le.sub0)
  replace h := cond_f hb h
  refine swp_exit ?_
  replace h := Option.some.inj h
  subst h
  exact nx_e (q_re (q_bh (q_j (Le.sub0))))
  refine swp_seq ?_
  refine swp_reg ?_
  refine SRun.ck tbokGB 2 ⟨44, [(4, vi j1.1)], [(1000000, .arr 42 4 j1.2.length (j1.2.map eTie))]⟩ ?_
  refine SRun.nil ?_
  refine nx_n ?_
  refine swp_ret ?_
  replace h := Option.some.inj h
  subst h
  exact q_fr (fin_io (fin1 (by kernel_rfl) (finV rfl SV.flat_of (holds_t (by kernel_rfl)))) (y := .arr 42 4 j1.2.length (j1.2.map eTie)) (by kernel_rfl) rfl (by kernel_rfl) (by kernel_rfl))
theorem ents21 : Ents Tryd.prog 21 := ents_of Tryd.func21 (by kernel_rfl) rfl
noncomputable def laws_heldTieS (aA : (List Tie)) (aK : Int) : Option (Int) :=
  (((forN (aA.length : Int) (fun (i3 : Int) (s3 : Int) => ((at' aA i3).bind fun x7 => (bif (x7.A != s3) then some (.inr (.inr (-1))) else ((at' aA i3).bind fun x8 => (bif (x8.B != (w64 (s3 + 1))) then some (.inr (.inr (-1))) else ((at' aA i3).bind fun x9 => (bif (!(x9.Same == ((Int.tmod (w64 ((w64 (s3 + 1)) + 1)) 3) == 0))) then some (.inr (.inr (-1))) else ((at' aA i3).bind fun x10 => ((laws_markText (w64 ((w64 ((w64 (s3 + 1)) + 1)) + 1))).bind fun x11 => (bif (!(x10.Reason.toList == x11.toList)) then some (.inr (.inr (-1))) else some (.inl (w64 ((w64 ((w64 ((w64 (s3 + 1)) + 1)) + 1)) + 1))))))))))))) (fun (s3 : Int) => .inl s3) 0 aK)).bind (Sum.elim (fun (j1 : Int) => some j1) some))
set_option maxRecDepth 100000 in
set_option maxHeartbeats 4000000 in
theorem laws_heldTieS_run (aA : (List Tie)) (aK : Int) (r : Int) (h : laws_heldTieS aA aK = some r) : SCall Tryd.prog 22 [.v (vl eTie aA), .v (vi aK)] ⟨[.v (vi r)], [], false⟩ := by
  refine scall_in Tryd.func22 rfl [(.tmp 4)] rfl (fun r => ⟨[.v (vi r)], [], false⟩) (r := r) ?_
  unfold laws_heldTieS at h
  refine swp_seq ?_
  refine swp_reg ?_
  refine SRun.ck tbokGB 1 ⟨52, [(0, vl eTie aA), (1, vi aK)], []⟩ ?_
  refine SRun.nil ?_
  refine nx_n ?_
  refine swp_seq ?_
  refine swp_seq ?_
  refine swp_reg ?_
  refine SRun.ck tbokGB 1 ⟨52, [(0, vl eTie aA), (1, vi aK), (5, vi 0)], []⟩ ?_
  refine SRun.nil ?_
  refine nx_n ?_
  refine swp_seqE (r := r) h (fun j1 => ⟨52, [(1, vi j1)], []⟩) (fun v2 h => ?_) (fun j1 h => ?_)
  refine swp_blk (a := v2) ?_
  refine swp_lpL (r := v2) (s := (0, aK)) _ (fun s3 => ⟨52, [(0, vl eTie aA), (1, vi s3.2), (5, vi s3.1)], []⟩) _ (Le.sub0) h (fun s3 v4 h => ?_)
  refine swp_seq ?_
  refine swp_seq ?_
  refine swp_reg ?_
  refine SRun.ck tbokGB 4 ⟨52, [(0, vl eTie aA), (1, vi s3.2), (5, vi s3.1), (9, vb (decide (s3.1 < (aA.length : Int))))], []⟩ ?_
  refine SRun.nil ?_
  refine nx_n ?_
  refine swp_cond (b := (decide (s3.1 < (aA.length : Int)))) (by kernel_rfl) (fun hb => ?_) (fun hb => ?_)
  replace h := cond_t hb h
  refine swp_skip ?_
  refine nx_n ?_
  refine swp_seq ?_
  refine swp_seqL (r := v4) h (fun j5 => ⟨52, [(0, vl eTie aA), (1, vi j5), (5, vi s3.1)], []⟩) (fun v6 h => ?_) (fun j5 h => ?_)
  refine swp_blk (a := v6) ?_
  refine swp_seq ?_
  refine swp_seq ?_
  refine swp_reg ?_
  refine SRun.ck tbokGB 2 ⟨52, [(0, vl eTie aA), (1, vi s3.2), (5, vi s3.1), (12, vl eTie aA), (13, vi s3.1)], []⟩ ?_
  obtain ⟨x7, hx7, h⟩ := bind_some h
  refine SRun.ls (x_index (L := aA) (f := eTie) (ti := ti25) (tj := ti42) (e := 42) (k := .i64) tbokGB rfl hx7) ?_
  refine SRun.ck tbokGB 4 ⟨52, [(0, vl eTie aA), (1, vi s3.2), (5, vi s3.1), (18, vb (x7.A != s3.2))], []⟩ ?_
  refine SRun.nil ?_
  refine nx_n ?_
  refine swp_cond (b := (x7.A != s3.2)) (by kernel_rfl) (fun hb => ?_) (fun hb => ?_)
  replace h := cond_t hb h
  refine swp_seq ?_
  refine swp_reg ?_
  refine SRun.ck tbokGB 1 ⟨52, [(4, vi (-1))], []⟩ ?_
  refine SRun.nil ?_
  refine nx_n ?_
  refine swp_ret ?_
  replace h := Option.some.inj h
  subst h
  exact nx_r (q_br (q_rr (q_rr (q_br (q_rr (q_fr (fin1 (by kernel_rfl) (finV rfl SV.flat_of (holds_t (by kernel_rfl))))))))))
  replace h := cond_f hb h
  refine swp_skip ?_
  refine nx_n ?_
  refine swp_seq ?_
  refine swp_reg ?_
  refine SRun.ck tbokGB 3 ⟨52, [(0, vl eTie aA), (1, vi (w64 (s3.2 + 1))), (5, vi s3.1)], []⟩ ?_
  refine SRun.nil ?_
  refine nx_n ?_
  refine swp_seq ?_
  refine swp_seq ?_
  refine swp_reg ?_
  refine SRun.ck tbokGB 2 ⟨52, [(0, vl eTie aA), (1, vi (w64 (s3.2 + 1))), (5, vi s3.1), (21, vl eTie aA), (22, vi s3.1)], []⟩ ?_
  obtain ⟨x8, hx8, h⟩ := bind_some h
  refine SRun.ls (x_index (L := aA) (f := eTie) (ti := ti25) (tj := ti42) (e := 42) (k := .i64) tbokGB rfl hx8) ?_
  refine SRun.ck tbokGB 4 ⟨52, [(0, vl eTie aA), (1, vi (w64 (s3.2 + 1))), (5, vi s3.1), (27, vb (x8.B != (w64 (s3.2 + 1))))], []⟩ ?_
  refine SRun.nil ?_
  refine nx_n ?_
  refine swp_cond (b := (x8.B != (w64 (s3.2 + 1)))) (by kernel_rfl) (fun hb => ?_) (fun hb => ?_)
  replace h := cond_t hb h
  refine swp_seq ?_
  refine swp_reg ?_
  refine SRun.ck tbokGB 1 ⟨52, [(4, vi (-1))], []⟩ ?_
  refine SRun.nil ?_
  refine nx_n ?_
  refine swp_ret ?_
  replace h := Option.some.inj h
  subst h
  exact nx_r (q_br (q_rr (q_rr (q_br (q_rr (q_fr (fin1 (by kernel_rfl) (finV rfl SV.flat_of (holds_t (by kernel_rfl))))))))))
  replace h := cond_f hb h
  refine swp_skip ?_
  refine nx_n ?_
  refine swp_seq ?_
  refine swp_reg ?_
  refine SRun.ck tbokGB 3 ⟨52, [(0, vl eTie aA), (1, vi (w64 ((w64 (s3.2 + 1)) + 1))), (5, vi s3.1)], []⟩ ?_
  refine SRun.nil ?_
  refine nx_n ?_
  refine swp_seq ?_
  refine swp_seq ?_
  refine swp_reg ?_
  refine SRun.ck tbokGB 2 ⟨52, [(0, vl eTie aA), (1, vi (w64 ((w64 (s3.2 + 1)) + 1))), (5, vi s3.1), (30, vl eTie aA), (31, vi s3.1)], []⟩ ?_
  obtain ⟨x9, hx9, h⟩ := bind_some h
  refine SRun.ls (x_index (L := aA) (f := eTie) (ti := ti25) (tj := ti42) (e := 42) (k := .i64) tbokGB rfl hx9) ?_
  refine SRun.ck tbokGB 5 ⟨52, [(0, vl eTie aA), (1, vi (w64 ((w64 (s3.2 + 1)) + 1))), (5, vi s3.1), (34, vb x9.Same), (37, vb ((Int.tmod (w64 ((w64 (s3.2 + 1)) + 1)) 3) == 0))], []⟩ ?_
  refine SRun.ls (x_lstep_eqb tbokGB (ti := ti4) (i := x9.Same) (j := ((Int.tmod (w64 ((w64 (s3.2 + 1)) + 1)) 3) == 0)) true rfl) ?_
  refine SRun.nil ?_
  refine nx_n ?_
  refine swp_cond (b := (!(x9.Same == ((Int.tmod (w64 ((w64 (s3.2 + 1)) + 1)) 3) == 0)))) (by kernel_rfl) (fun hb => ?_) (fun hb => ?_)
  replace h := cond_t hb h
  refine swp_seq ?_
  refine swp_reg ?_
  refine SRun.ck tbokGB 1 ⟨52, [(4, vi (-1))], []⟩ ?_
  refine SRun.nil ?_
  refine nx_n ?_
  refine swp_ret ?_
  replace h := Option.some.inj h
  subst h
  exact nx_r (q_br (q_rr (q_rr (q_br (q_rr (q_fr (fin1 (by kernel_rfl) (finV rfl SV.flat_of (holds_t (by kernel_rfl))))))))))
  replace h := cond_f hb h
  refine swp_skip ?_
  refine nx_n ?_
  refine swp_seq ?_
  refine swp_reg ?_
  refine SRun.ck tbokGB 3 ⟨52, [(0, vl eTie aA), (1, vi (w64 ((w64 ((w64 (s3.2 + 1)) + 1)) + 1))), (5, vi s3.1)], []⟩ ?_
  refine SRun.nil ?_
  refine nx_n ?_
  refine swp_seq ?_
  refine swp_seq ?_
  refine swp_dr mixed ?_
  refine DGo.chunk' tbokGB 2 (σ' := ⟨52, [(42, vi s3.1), (41, vl eTie aA), (0, vl eTie aA), (1, vi (w64 ((w64 ((w64 (s3.2 + 1)) + 1)) + 1))), (5, vi s3.1)], []⟩) (by kernel_rfl) ?_
  obtain ⟨x10, hx10, h⟩ := bind_some h
  refine DGo.step (x_index (L := aA) (f := eTie) (ti := ti25) (tj := ti42) (e := 42) (k := .i64) tbokGB rfl hx10) ?_
  refine DGo.chunk' tbokGB 3 (σ' := ⟨52, [(46, vi (w64 ((w64 ((w64 (s3.2 + 1)) + 1)) + 1))), (45, vs x10.Reason), (44, .ptr ((eTie x10).map .tr) 3), (43, .ptr ((eTie x10).map .tr) 0), (42, vi s3.1), (41, vl eTie aA), (0, vl eTie aA), (1, vi (w64 ((w64 ((w64 (s3.2 + 1)) + 1)) + 1))), (5, vi s3.1)], []⟩) (by kernel_rfl) ?_
  obtain ⟨x11, hx11, h⟩ := bind_some h
  refine DGo.step (x_lstep_call (f := 64) (caps := []) (xs := [vi (w64 ((w64 ((w64 (s3.2 + 1)) + 1)) + 1))]) (ys := [vi (w64 ((w64 ((w64 (s3.2 + 1)) + 1)) + 1))]) (res := ⟨[.v (vs x11)], [], false⟩) (x := vs x11) (y := none) rfl ents64 (laws_markText_run (w64 ((w64 ((w64 (s3.2 + 1)) + 1)) + 1)) _ hx11) rfl (by intro hc; cases hc)) ?_
  refine DGo.chunk' tbokGB 1 (σ' := ⟨52, [(48, vb (!(x10.Reason.toList == x11.toList))), (47, vs x11), (46, vi (w64 ((w64 ((w64 (s3.2 + 1)) + 1)) + 1))), (45, vs x10.Reason), (44, .ptr ((eTie x10).map .tr) 3), (43, .ptr ((eTie x10).map .tr) 0), (42, vi s3.1), (41, vl eTie aA), (0, vl eTie aA), (1, vi (w64 ((w64 ((w64 (s3.2 + 1)) + 1)) + 1))), (5, vi s3.1)], []⟩) (by kernel_rfl) ?_
  refine DGo.nil (by kernel_rfl) ?_
  refine nx_n ?_
  refine swp_cond (b := (!(x10.Reason.toList == x11.toList))) (by kernel_rfl) (fun hb => ?_) (fun hb => ?_)
  replace h := cond_t hb h
  refine swp_seq ?_
  refine swp_reg ?_
  refine SRun.ck tbokGB 1 ⟨52, [(4, vi (-1))], []⟩ ?_
  refine SRun.nil ?_
  refine nx_n ?_
  refine swp_ret ?_
  replace h := Option.some.inj h
  subst h
  exact nx_r (q_br (q_rr (q_rr (q_br (q_rr (q_fr (fin1 (by kernel_rfl) (finV rfl SV.flat_of (holds_t (by kernel_rfl))))))))))
  replace h := cond_f hb h
  refine swp_skip ?_
  refine nx_n ?_
  refine swp_reg ?_
  refine SRun.ck tbokGB 3 ⟨52, [(0, vl eTie aA), (1, vi (w64 ((w64 ((w64 ((w64 (s3.2 + 1)) + 1)) + 1)) + 1))), (5, vi s3.1)], []⟩ ?_
  refine SRun.nil ?_
  replace h := Option.some.inj h
  subst h
  exact q_bn (q_l (Le.sub0))
  refine swp_reg ?_
  refine SRun.ck tbokGB 3 ⟨52, [(0, vl eTie aA), (1, vi j5), (5, vi (w64 (s3.1 + 1)))], []⟩ ?_
  refine SRun.nil ?_
  replace h := Option.some.inj h
  subst h
  exact q_l (Le.sub0)
  replace h := cond_f hb h
  refine swp_exit ?_
  replace h := Option.some.inj h
  subst h
  exact nx_e (q_re (q_bh (q_l (Le.sub0))))
  refine swp_seq ?_
  refine swp_reg ?_
  refine SRun.ck tbokGB 2 ⟨52, [(4, vi j1)], []⟩ ?_
  refine SRun.nil ?_
  refine nx_n ?_
  refine swp_ret ?_
  replace h := Option.some.inj h
  subst h
  exact q_fr (fin1 (by kernel_rfl) (finV rfl SV.flat_of (holds_t (by kernel_rfl))))
theorem ents22 : Ents Tryd.prog 22 := ents_of Tryd.func22 (by kernel_rfl) rfl
noncomputable def laws_eqInt64S (aA : (List Int)) (aB : (List Int)) : Option (Bool) :=
  (bif ((aA.length : Int) != (aB.length : Int)) then some false else (((forN (aA.length : Int) (fun (i3 : Int) (_ : Unit) => ((at' aA i3).bind fun x7 => ((at' aB i3).bind fun x8 => (bif (x7 != x8) then some (.inr (.inr false)) else some (.inl ()))))) (fun (_ : Unit) => .inl ()) 0 ())).bind (Sum.elim (fun (_ : Unit) => some true) some)))
set_option maxRecDepth 100000 in
set_option maxHeartbeats 4000000 in
theorem laws_eqInt64S_run (aA : (List Int)) (aB : (List Int)) (r : Bool) (h : laws_eqInt64S aA aB = some r) : SCall Tryd.prog 40 [.v (vl (eI .i64) aA), .v (vl (eI .i64) aB)] ⟨[.v (vb r)], [], false⟩ := by
  refine scall_in Tryd.func40 rfl [(.tmp 4)] rfl (fun r => ⟨[.v (vb r)], [], false⟩) (r := r) ?_
  unfold laws_eqInt64S at h
  refine swp_seq ?_
  refine swp_reg ?_
  refine SRun.ck tbokGB 1 ⟨26, [(0, vl (eI .i64) aA), (1, vl (eI .i64) aB)], []⟩ ?_
  refine SRun.nil ?_
  refine nx_n ?_
  refine swp_seq ?_
  refine swp_seq ?_
  refine swp_reg ?_
  refine SRun.ck tbokGB 5 ⟨26, [(0, vl (eI .i64) aA), (1, vl (eI .i64) aB), (10, vb ((aA.length : Int) != (aB.length : Int)))], []⟩ ?_
  refine SRun.nil ?_
  refine nx_n ?_
  refine swp_cond (b := ((aA.length : Int) != (aB.length : Int))) (by kernel_rfl) (fun hb => ?_) (fun hb => ?_)
  replace h := cond_t hb h
  refine swp_seq ?_
  refine swp_reg ?_
  refine SRun.ck tbokGB 1 ⟨26, [(4, vb false)], []⟩ ?_
  refine SRun.nil ?_
  refine nx_n ?_
  refine swp_ret ?_
  replace h := Option.some.inj h
  subst h
  exact nx_r (q_fr (fin1 (by kernel_rfl) (finV rfl SV.flat_of (holds_t (by kernel_rfl)))))
  replace h := cond_f hb h
  refine swp_skip ?_
  refine nx_n ?_
  refine swp_seq ?_
  refine swp_seq ?_
  refine swp_reg ?_
  refine SRun.ck tbokGB 1 ⟨26, [(0, vl (eI .i64) aA), (1, vl (eI .i64) aB), (5, vi 0)], []⟩ ?_
  refine SRun.nil ?_
  refine nx_n ?_
  refine swp_seqE (r := r) h (fun j1 => ⟨26, [], []⟩) (fun v2 h => ?_) (fun j1 h => ?_)
  refine swp_blk (a := v2) ?_
  refine swp_lpL (r := v2) (s := (0, ())) _ (fun s3 => ⟨26, [(0, vl (eI .i64) aA), (1, vl (eI .i64) aB), (5, vi s3.1)], []⟩) _ (Le.sub0) h (fun s3 v4 h => ?_)
  refine swp_seq ?_
  refine swp_seq ?_
  refine swp_reg ?_
  refine SRun.ck tbokGB 4 ⟨26, [(0, vl (eI .i64) aA), (1, vl (eI .i64) aB), (5, vi s3.1), (14, vb (decide (s3.1 < (aA.length : Int))))], []⟩ ?_
  refine SRun.nil ?_
  refine nx_n ?_
  refine swp_cond (b := (decide (s3.1 < (aA.length : Int)))) (by kernel_rfl) (fun hb => ?_) (fun hb => ?_)
  replace h := cond_t hb h
  refine swp_skip ?_
  refine nx_n ?_
  refine swp_seq ?_
  refine swp_seqL (r := v4) h (fun j5 => ⟨26, [(0, vl (eI .i64) aA), (1, vl (eI .i64) aB), (5, vi s3.1)], []⟩) (fun v6 h => ?_) (fun j5 h => ?_)
  refine swp_blk (a := v6) ?_
  refine swp_seq ?_
  refine swp_dr mixed ?_
  refine DGo.chunk' tbokGB 2 (σ' := ⟨26, [(18, vi s3.1), (17, vl (eI .i64) aA), (0, vl (eI .i64) aA), (1, vl (eI .i64) aB), (5, vi s3.1), (14, vb (decide (s3.1 < (aA.length : Int))))], []⟩) (by kernel_rfl) ?_
  obtain ⟨x7, hx7, h⟩ := bind_some h
  refine DGo.step (x_index (L := aA) (f := (eI .i64)) (ti := ti50) (tj := ti2) (e := 2) (k := .i64) tbokGB rfl hx7) ?_
  refine DGo.chunk' tbokGB 3 (σ' := ⟨26, [(22, vi s3.1), (21, vl (eI .i64) aB), (20, vi x7), (19, .ptr (((eI .i64) x7).map .tr) 0), (18, vi s3.1), (17, vl (eI .i64) aA), (0, vl (eI .i64) aA), (1, vl (eI .i64) aB), (5, vi s3.1), (14, vb (decide (s3.1 < (aA.length : Int))))], []⟩) (by kernel_rfl) ?_
  obtain ⟨x8, hx8, h⟩ := bind_some h
  refine DGo.step (x_index (L := aB) (f := (eI .i64)) (ti := ti50) (tj := ti2) (e := 2) (k := .i64) tbokGB rfl hx8) ?_
  refine DGo.chunk' tbokGB 2 (σ' := ⟨26, [(25, vb (x7 != x8)), (24, vi x8), (23, .ptr (((eI .i64) x8).map .tr) 0), (22, vi s3.1), (21, vl (eI .i64) aB), (20, vi x7), (19, .ptr (((eI .i64) x7).map .tr) 0), (18, vi s3.1), (17, vl (eI .i64) aA), (0, vl (eI .i64) aA), (1, vl (eI .i64) aB), (5, vi s3.1), (14, vb (decide (s3.1 < (aA.length : Int))))], []⟩) (by kernel_rfl) ?_
  refine DGo.nil (by kernel_rfl) ?_
  refine nx_n ?_
  refine swp_cond (b := (x7 != x8)) (by kernel_rfl) (fun hb => ?_) (fun hb => ?_)
  replace h := cond_t hb h
  refine swp_seq ?_
  refine swp_reg ?_
  refine SRun.ck tbokGB 1 ⟨26, [(4, vb false)], []⟩ ?_
  refine SRun.nil ?_
  refine nx_n ?_
  refine swp_ret ?_
  replace h := Option.some.inj h
  subst h
  exact q_br (q_rr (q_rr (q_br (q_rr (q_fr (fin1 (by kernel_rfl) (finV rfl SV.flat_of (holds_t (by kernel_rfl)))))))))
  replace h := cond_f hb h
  refine swp_skip ?_
  replace h := Option.some.inj h
  subst h
  exact q_bn (q_l (Le.sub0))
  refine swp_reg ?_
  refine SRun.ck tbokGB 3 ⟨26, [(0, vl (eI .i64) aA), (1, vl (eI .i64) aB), (5, vi (w64 (s3.1 + 1)))], []⟩ ?_
  refine SRun.nil ?_
  replace h := Option.some.inj h
  subst h
  exact q_l (Le.sub0)
  replace h := cond_f hb h
  refine swp_exit ?_
  replace h := Option.some.inj h
  subst h
  exact nx_e (q_re (q_bh (q_l (Le.sub0))))
  refine swp_seq ?_
  refine swp_reg ?_
  refine SRun.ck tbokGB 1 ⟨26, [(4, vb true)], []⟩ ?_
  refine SRun.nil ?_
  refine nx_n ?_
  refine swp_ret ?_
  replace h := Option.some.inj h
  subst h
  exact q_fr (fin1 (by kernel_rfl) (finV rfl SV.flat_of (holds_t (by kernel_rfl))))
theorem ents40 : Ents Tryd.prog 40 := ents_of Tryd.func40 (by kernel_rfl) rfl
noncomputable def laws_markInt64S (aA : (List Int)) (aK : Int) : Option (Int × (List Int)) :=
  (((forH (fun (i3 : Int) (s3 : Int × (List Int)) => (decide (i3 < (s3.2.length : Int)))) (fun (i3 : Int) (s3 : Int × (List Int)) => ((at' s3.2 i3).bind fun _ => some ((w64 (s3.1 + 1)), (List.set s3.2 (Int.toNat i3) s3.1)))) (fun (s3 : Int × (List Int)) => (s3.1, s3.2)) 0 (aK, aA))).bind fun (j1 : Int × (List Int)) => some (j1.1, j1.2))
set_option maxRecDepth 100000 in
set_option maxHeartbeats 4000000 in
theorem laws_markInt64S_run (aA : (List Int)) (aK : Int) (r : Int × (List Int)) (h : laws_markInt64S aA aK = some r) : SCall Tryd.prog 41 [.o (.arr 2 1 aA.length (aA.map (eI .i64))), .v (vi aK)] ⟨[.v (vi r.1)], [(0, .arr 2 1 r.2.length (r.2.map (eI .i64)))], false⟩ := by
  refine scall_in Tryd.func41 rfl [(.tmp 4)] rfl (fun r => ⟨[.v (vi r.1)], [(0, .arr 2 1 r.2.length (r.2.map (eI .i64)))], false⟩) (r := r) ?_
  unfold laws_markInt64S at h
  refine swp_seq ?_
  refine swp_reg ?_
  refine SRun.ck tbokGB 1 ⟨19, [(0, .own 1000000), (1, vi aK)], [(1000000, .arr 2 1 aA.length (aA.map (eI .i64)))]⟩ ?_
  refine SRun.nil ?_
  refine nx_n ?_
  refine swp_seq ?_
  refine swp_seq ?_
  refine swp_reg ?_
  refine SRun.ck tbokGB 1 ⟨19, [(0, .own 1000000), (1, vi aK), (5, vi 0)], [(1000000, .arr 2 1 aA.length (aA.map (eI .i64)))]⟩ ?_
  refine SRun.nil ?_
  refine nx_n ?_
  refine swp_seqJ h (fun j1 => ⟨19, [(1, vi j1.1)], [(1000000, .arr 2 1 j1.2.length (j1.2.map (eI .i64)))]⟩) (fun v2 h => ?_) (fun j1 h => ?_)
  refine swp_blk (a := v2) ?_
  refine swp_lpL (r := v2) (s := (0, aK, aA)) _ (fun s3 => ⟨19, [(0, .own 1000000), (1, vi s3.2.1), (5, vi s3.1)], [(1000000, .arr 2 1 s3.2.2.length (s3.2.2.map (eI .i64)))]⟩) _ (Le.sub0) h (fun s3 v4 h => ?_)
  refine swp_seq ?_
  refine swp_seq ?_
  refine swp_reg ?_
  refine SRun.ck tbokGB 4 ⟨19, [(0, .own 1000000), (1, vi s3.2.1), (5, vi s3.1), (9, vb (decide (s3.1 < (s3.2.2.length : Int))))], [(1000000, .arr 2 1 s3.2.2.length (s3.2.2.map (eI .i64)))]⟩ ?_
  refine SRun.nil ?_
  refine nx_n ?_
  refine swp_cond (b := (decide (s3.1 < (s3.2.2.length : Int)))) (by kernel_rfl) (fun hb => ?_) (fun hb => ?_)
  replace h := cond_t hb h
  refine swp_skip ?_
  refine nx_n ?_
  refine swp_seq ?_
  refine swp_seqJ h (fun j5 => ⟨19, [(0, .own 1000000), (1, vi j5.1), (5, vi s3.1)], [(1000000, .arr 2 1 j5.2.length (j5.2.map (eI .i64)))]⟩) (fun v6 h => ?_) (fun j5 h => ?_)
  refine swp_blk (a := v6) ?_
  refine swp_seq ?_
  refine swp_reg ?_
  refine SRun.ck tbokGB 3 ⟨19, [(0, .own 1000000), (1, vi s3.2.1), (5, vi s3.1), (12, .own 1000000), (13, vi s3.1), (14, vi s3.2.1)], [(1000000, .arr 2 1 s3.2.2.length (s3.2.2.map (eI .i64)))]⟩ ?_
  obtain ⟨x7, hx7, h⟩ := bind_some h
  refine SRun.ls (x_index_own (d := 1000000) (L := s3.2.2) (f := (eI .i64)) (ti := ti50) (tj := ti2) (e := 2) (e' := 2) (m := 1) (k := .i64) tbokGB rfl hx7) ?_
  refine SRun.estep (x_store_own (d := 1000000) (m := 1) (j := 0) (L := s3.2.2) (f := (eI .i64)) (x := s3.2.1) (z := x7) (ti := ti2) (e := 2) (ts := [.int .i64 s3.2.1]) (vs := [vi s3.2.1]) (v := vi s3.2.1) tbokGB rfl rfl hx7) ?_
  refine SRun.nil ?_
  refine nx_n ?_
  refine swp_reg ?_
  refine SRun.ck tbokGB 3 ⟨19, [(0, .own 1000000), (1, vi (w64 (s3.2.1 + 1))), (5, vi s3.1)], [(1000000, .arr 2 1 (List.set s3.2.2 (Int.toNat s3.1) s3.2.1).length ((List.set s3.2.2 (Int.toNat s3.1) s3.2.1).map (eI .i64)))]⟩ ?_
  refine SRun.nil ?_
  replace h := Option.some.inj h
  subst h
  exact q_bn (q_j (Le.sub0))
  refine swp_reg ?_
  refine SRun.ck tbokGB 3 ⟨19, [(0, .own 1000000), (1, vi j5.1), (5, vi (w64 (s3.1 + 1)))], [(1000000, .arr 2 1 j5.2.length (j5.2.map (eI .i64)))]⟩ ?_
  refine SRun.nil ?_
  replace h := Option.some.inj h
  subst h
  exact q_l (Le.sub0)
  replace h := cond_f hb h
  refine swp_exit ?_
  replace h := Option.some.inj h
  subst h
  exact nx_e (q_re (q_bh (q_j (Le.sub0))))
  refine swp_seq ?_
  refine swp_reg ?_
  refine SRun.ck tbokGB 2 ⟨19, [(4, vi j1.1)], [(1000000, .arr 2 1 j1.2.length (j1.2.map (eI .i64)))]⟩ ?_
  refine SRun.nil ?_
  refine nx_n ?_
  refine swp_ret ?_
  replace h := Option.some.inj h
  subst h
  exact q_fr (fin_io (fin1 (by kernel_rfl) (finV rfl SV.flat_of (holds_t (by kernel_rfl)))) (y := .arr 2 1 j1.2.length (j1.2.map (eI .i64))) (by kernel_rfl) rfl (by kernel_rfl) (by kernel_rfl))
theorem ents41 : Ents Tryd.prog 41 := ents_of Tryd.func41 (by kernel_rfl) rfl
noncomputable def laws_heldInt64S (aA : (List Int)) (aK : Int) : Option (Int) :=
  (((forN (aA.length : Int) (fun (i3 : Int) (s3 : Int) => ((at' aA i3).bind fun x7 => (bif (x7 != s3) then some (.inr (.inr (-1))) else some (.inl (w64 (s3 + 1)))))) (fun (s3 : Int) => .inl s3) 0 aK)).bind (Sum.elim (fun (j1 : Int) => some j1) some))
set_option maxRecDepth 100000 in
set_option maxHeartbeats 4000000 in
theorem laws_heldInt64S_run (aA : (List Int)) (aK : Int) (r : Int) (h : laws_heldInt64S aA aK = some r) : SCall Tryd.prog 42 [.v (vl (eI .i64) aA), .v (vi aK)] ⟨[.v (vi r)], [], false⟩ := by
  refine scall_in Tryd.func42 rfl [(.tmp 4)] rfl (fun r => ⟨[.v (vi r)], [], false⟩) (r := r) ?_
  unfold laws_heldInt64S at h
  refine swp_seq ?_
  refine swp_reg ?_
  refine SRun.ck tbokGB 1 ⟨21, [(0, vl (eI .i64) aA), (1, vi aK)], []⟩ ?_
  refine SRun.nil ?_
  refine nx_n ?_
  refine swp_seq ?_
  refine swp_seq ?_
  refine swp_reg ?_
  refine SRun.ck tbokGB 1 ⟨21, [(0, vl (eI .i64) aA), (1, vi aK), (5, vi 0)], []⟩ ?_
  refine SRun.nil ?_
  refine nx_n ?_
  refine swp_seqE (r := r) h (fun j1 => ⟨21, [(1, vi j1)], []⟩) (fun v2 h => ?_) (fun j1 h => ?_)
  refine swp_blk (a := v2) ?_
  refine swp_lpL (r := v2) (s := (0, aK)) _ (fun s3 => ⟨21, [(0, vl (eI .i64) aA), (1, vi s3.2), (5, vi s3.1)], []⟩) _ (Le.sub0) h (fun s3 v4 h => ?_)
  refine swp_seq ?_
  refine swp_seq ?_
  refine swp_reg ?_
  refine SRun.ck tbokGB 4 ⟨21, [(0, vl (eI .i64) aA), (1, vi s3.2), (5, vi s3.1), (9, vb (decide (s3.1 < (aA.length : Int))))], []⟩ ?_
  refine SRun.nil ?_
  refine nx_n ?_
  refine swp_cond (b := (decide (s3.1 < (aA.length : Int)))) (by kernel_rfl) (fun hb => ?_) (fun hb => ?_)
  replace h := cond_t hb h
  refine swp_skip ?_
  refine nx_n ?_
  refine swp_seq ?_
  refine swp_seqL (r := v4) h (fun j5 => ⟨21, [(0, vl (eI .i64) aA), (1, vi j5), (5, vi s3.1)], []⟩) (fun v6 h => ?_) (fun j5 h => ?_)
  refine swp_blk (a := v6) ?_
  refine swp_seq ?_
  refine swp_seq ?_
  refine swp_reg ?_
  refine SRun.ck tbokGB 2 ⟨21, [(0, vl (eI .i64) aA), (1, vi s3.2), (5, vi s3.1), (12, vl (eI .i64) aA), (13, vi s3.1)], []⟩ ?_
  obtain ⟨x7, hx7, h⟩ := bind_some h
  refine SRun.ls (x_index (L := aA) (f := (eI .i64)) (ti := ti50) (tj := ti2) (e := 2) (k := .i64) tbokGB rfl hx7) ?_
  refine SRun.ck tbokGB 3 ⟨21, [(0, vl (eI .i64) aA), (1, vi s3.2), (5, vi s3.1), (17, vb (x7 != s3.2))], []⟩ ?_
  refine SRun.nil ?_
  refine nx_n ?_
  refine swp_cond (b := (x7 != s3.2)) (by kernel_rfl) (fun hb => ?_) (fun hb => ?_)
  replace h := cond_t hb h
  refine swp_seq ?_
  refine swp_reg ?_
  refine SRun.ck tbokGB 1 ⟨21, [(4, vi (-1))], []⟩ ?_
  refine SRun.nil ?_
  refine nx_n ?_
  refine swp_ret ?_
  replace h := Option.some.inj h
  subst h
  exact nx_r (q_br (q_rr (q_rr (q_br (q_rr (q_fr (fin1 (by kernel_rfl) (finV rfl SV.flat_of (holds_t (by kernel_rfl))))))))))
  replace h := cond_f hb h
  refine swp_skip ?_
  refine nx_n ?_
  refine swp_reg ?_
  refine SRun.ck tbokGB 3 ⟨21, [(0, vl (eI .i64) aA), (1, vi (w64 (s3.2 + 1))), (5, vi s3.1)], []⟩ ?_
  refine SRun.nil ?_
  replace h := Option.some.inj h
  subst h
  exact q_bn (q_l (Le.sub0))
  refine swp_reg ?_
  refine SRun.ck tbokGB 3 ⟨21, [(0, vl (eI .i64) aA), (1, vi j5), (5, vi (w64 (s3.1 + 1)))], []⟩ ?_
  refine SRun.nil ?_
  replace h := Option.some.inj h
  subst h
  exact q_l (Le.sub0)
  replace h := cond_f hb h
  refine swp_exit ?_
  replace h := Option.some.inj h
  subst h
  exact nx_e (q_re (q_bh (q_l (Le.sub0))))
  refine swp_seq ?_
  refine swp_reg ?_
  refine SRun.ck tbokGB 2 ⟨21, [(4, vi j1)], []⟩ ?_
  refine SRun.nil ?_
  refine nx_n ?_
  refine swp_ret ?_
  replace h := Option.some.inj h
  subst h
  exact q_fr (fin1 (by kernel_rfl) (finV rfl SV.flat_of (holds_t (by kernel_rfl))))
theorem ents42 : Ents Tryd.prog 42 := ents_of Tryd.func42 (by kernel_rfl) rfl
end Go.Proofs.YtmbejkchgdcdhaaDoor.Sh
