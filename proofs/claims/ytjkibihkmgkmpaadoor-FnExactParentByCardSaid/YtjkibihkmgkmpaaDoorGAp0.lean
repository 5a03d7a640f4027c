/- Typed functions and the calls that do what they say. -/
import Derived.Test.YtjkibihkmgkmpaaDoorSB
import Derived.Test.YtjkibihkmgkmpaaDoorKA
import Derived.Test.YtjkibihkmgkmpaaDoorKS
import Derived.Test.YtjkibihkmgkmpaaDoorH1
namespace Go.Proofs.YtjkibihkmgkmpaaDoor.Sh
open Go.RowKit
structure Span where
  From : Int
  To : Int
def eSpan (x : Span) : List Tr := [.int .i64 x.From, .int .i64 x.To]
theorem eSpan_flat (x : Span) : ∀ t ∈ eSpan x, t.flat = true := by simp [eSpan, Tr.flat]
structure Claim where
  Source : ByteArray
  Kind : Int
  Place : ByteArray
  Value : ByteArray
  Years : Span
  Weight : Int
def eClaim (x : Claim) : List Tr := [.str x.Source, .int .i64 x.Kind, .str x.Place, .str x.Value, .int .i64 x.Years.From, .int .i64 x.Years.To, .int .i64 x.Weight]
theorem eClaim_flat (x : Claim) : ∀ t ∈ eClaim x, t.flat = true := by simp [eClaim, Tr.flat]
def ti2 : TI := ⟨1, 8, .int .i64, [.int .i64 0]⟩
def ti3 : TI := ⟨1, 8, .int .i64, [.int .i64 0]⟩
def ti4 : TI := ⟨1, 1, .bool, [.bool false]⟩
def ti5 : TI := ⟨1, 1, .int .u8, [.int .u8 0]⟩
def ti9 : TI := ⟨1, 16, .str, [.str (ByteArray.mk #[])]⟩
def ti22 : TI := ⟨1, 24, .slice 34, [.sl ([] : List Claim).length (([] : List Claim).map eClaim)]⟩
def ti26 : TI := ⟨1, 24, .slice 39, [.sl ([] : List Claim).length (([] : List Claim).map eClaim)]⟩
def ti32 : TI := ⟨2, 16, .struct [(0, 2), (1, 2)], [.int .i64 0, .int .i64 0]⟩
def ti34 : TI := ⟨7, 80, .struct [(0, 9), (1, 2), (2, 9), (3, 9), (4, 32), (6, 2)], [.str (ByteArray.mk #[]), .int .i64 0, .str (ByteArray.mk #[]), .str (ByteArray.mk #[]), .int .i64 0, .int .i64 0, .int .i64 0]⟩
def ti37 : TI := ⟨2, 16, .struct [(0, 2), (1, 2)], [.int .i64 0, .int .i64 0]⟩
def ti39 : TI := ⟨7, 80, .struct [(0, 9), (1, 2), (2, 9), (3, 9), (4, 37), (6, 2)], [.str (ByteArray.mk #[]), .int .i64 0, .str (ByteArray.mk #[]), .str (ByteArray.mk #[]), .int .i64 0, .int .i64 0, .int .i64 0]⟩
def ti51 : TI := ⟨1, 24, .slice 9, [.sl ([] : List ByteArray).length (([] : List ByteArray).map eS)]⟩
def tbl : Tb := [(2, ti2), (3, ti3), (4, ti4), (5, ti5), (9, ti9), (22, ti22), (26, ti26), (32, ti32), (34, ti34), (37, ti37), (39, ti39), (51, ti51)]
theorem tbok : TbOk Tryd.prog tbl := TbOk.cons ⟨by kernel_rfl, show Tryd.prog.underlying 2 = some (.int .i64) from by kernel_rfl⟩ (TbOk.cons ⟨by kernel_rfl, show Tryd.prog.underlying 3 = some (.int .i64) from by kernel_rfl⟩ (TbOk.cons ⟨by kernel_rfl, show Tryd.prog.underlying 4 = some (.bool) from by kernel_rfl⟩ (TbOk.cons ⟨by kernel_rfl, show Tryd.prog.underlying 5 = some (.int .u8) from by kernel_rfl⟩ (TbOk.cons ⟨by kernel_rfl, show Tryd.prog.underlying 9 = some (.string) from by kernel_rfl⟩ (TbOk.cons ⟨by kernel_rfl, show Tryd.prog.underlying 22 = some (.slice 34) from by kernel_rfl⟩ (TbOk.cons ⟨by kernel_rfl, show Tryd.prog.underlying 26 = some (.slice 39) from by kernel_rfl⟩ (TbOk.cons ⟨by kernel_rfl, show structOf Tryd.prog 32 = some [(0, 2), (1, 2)] from by kernel_rfl⟩ (TbOk.cons ⟨by kernel_rfl, show structOf Tryd.prog 34 = some [(0, 9), (1, 2), (2, 9), (3, 9), (4, 32), (6, 2)] from by kernel_rfl⟩ (TbOk.cons ⟨by kernel_rfl, show structOf Tryd.prog 37 = some [(0, 2), (1, 2)] from by kernel_rfl⟩ (TbOk.cons ⟨by kernel_rfl, show structOf Tryd.prog 39 = some [(0, 9), (1, 2), (2, 9), (3, 9), (4, 37), (6, 2)] from by kernel_rfl⟩ (TbOk.cons ⟨by kernel_rfl, show Tryd.prog.underlying 51 = some (.slice 9) from by kernel_rfl⟩ (TbOk.nil _))))))))))))
theorem mixed : Tryd.prog.follows .mixedOrders = true := by kernel_rfl
noncomputable def laws_szClaim (aA : Claim) (aLeft : Int) : Option (Int) :=
  (bif (decide ((w64 (aLeft - (aA.Source.size : Int))) < 0)) then some (-1) else (bif (decide ((w64 ((w64 (aLeft - (aA.Source.size : Int))) - (aA.Place.size : Int))) < 0)) then some (-1) else (bif (decide ((w64 ((w64 ((w64 (aLeft - (aA.Source.size : Int))) - (aA.Place.size : Int))) - (aA.Value.size : Int))) < 0)) then some (-1) else some (w64 ((w64 ((w64 (aLeft - (aA.Source.size : Int))) - (aA.Place.size : Int))) - (aA.Value.size : Int))))))
set_option maxRecDepth 100000 in
set_option maxHeartbeats 4000000 in
theorem laws_szClaim_run (aA : Claim) (aLeft : Int) (r : Int) (h : laws_szClaim aA aLeft = some r) : SCall Tryd.prog 12 [.v (.agg [vs aA.Source, vi aA.Kind, vs aA.Place, vs aA.Value, vi aA.Years.From, vi aA.Years.To, vi aA.Weight]), .v (vi aLeft)] ⟨[.v (vi r)], [], false⟩ := by
  refine scall_in Tryd.func12 rfl [(.tmp 4)] rfl (fun r => ⟨[.v (vi r)], [], false⟩) (r := r) ?_
  unfold laws_szClaim at h
  refine swp_seq ?_
  refine swp_reg ?_
  refine SRun.ck tbok 2 ⟨27, [(1, vi aLeft), (2, .ref 2 0)], [(2, .box [vs aA.Source, vi aA.Kind, vs aA.Place, vs aA.Value, vi aA.Years.From, vi aA.Years.To, vi aA.Weight])]⟩ ?_
  refine SRun.nil ?_
  refine nx_n ?_
  refine swp_seq ?_
  refine swp_reg ?_
  refine SRun.ck tbok 6 ⟨27, [(1, vi (w64 (aLeft - (aA.Source.size : Int)))), (2, .ref 2 0)], [(2, .box [vs aA.Source, vi aA.Kind, vs aA.Place, vs aA.Value, vi aA.Years.From, vi aA.Years.To, vi aA.Weight])]⟩ ?_
  refine SRun.nil ?_
  refine nx_n ?_
  refine swp_seq ?_
  refine swp_seq ?_
  refine swp_reg ?_
  refine SRun.ck tbok 2 ⟨27, [(1, vi (w64 (aLeft - (aA.Source.size : Int)))), (2, .ref 2 0), (11, vb (decide ((w64 (aLeft - (aA.Source.size : Int))) < 0)))], [(2, .box [vs aA.Source, vi aA.Kind, vs aA.Place, vs aA.Value, vi aA.Years.From, vi aA.Years.To, vi aA.Weight])]⟩ ?_
  refine SRun.nil ?_
  refine nx_n ?_
  refine swp_cond (b := (decide ((w64 (aLeft - (aA.Source.size : Int))) < 0))) (by kernel_rfl) (fun hb => ?_) (fun hb => ?_)
  replace h := cond_t hb h
  refine swp_seq ?_
  refine swp_reg ?_
  refine SRun.ck tbok 1 ⟨27, [(4, vi (-1))], []⟩ ?_
  refine SRun.nil ?_
  refine nx_n ?_
  refine swp_ret ?_
  replace h := Option.some.inj h
  subst h
  exact nx_r (q_fr (fin1 (by kernel_rfl) (finV rfl SV.flat_of (holds_t (by kernel_rfl)))))
  replace h := cond_f hb h
  refine swp_skip ?_
  refine nx_n ?_
  refine swp_seq ?_
  refine swp_reg ?_
  refine SRun.ck tbok 6 ⟨27, [(1, vi (w64 ((w64 (aLeft - (aA.Source.size : Int))) - (aA.Place.size : Int)))), (2, .ref 2 0)], [(2, .box [vs aA.Source, vi aA.Kind, vs aA.Place, vs aA.Value, vi aA.Years.From, vi aA.Years.To, vi aA.Weight])]⟩ ?_
  refine SRun.nil ?_
  refine nx_n ?_
  refine swp_seq ?_
  refine swp_seq ?_
  refine swp_reg ?_
  refine SRun.ck tbok 2 ⟨27, [(1, vi (w64 ((w64 (aLeft - (aA.Source.size : Int))) - (aA.Place.size : Int)))), (2, .ref 2 0), (18, vb (decide ((w64 ((w64 (aLeft - (aA.Source.size : Int))) - (aA.Place.size : Int))) < 0)))], [(2, .box [vs aA.Source, vi aA.Kind, vs aA.Place, vs aA.Value, vi aA.Years.From, vi aA.Years.To, vi aA.Weight])]⟩ ?_
  refine SRun.nil ?_
  refine nx_n ?_
  refine swp_cond (b := (decide ((w64 ((w64 (aLeft - (aA.Source.size : Int))) - (aA.Place.size : Int))) < 0))) (by kernel_rfl) (fun hb => ?_) (fun hb => ?_)
  replace h := cond_t hb h
  refine swp_seq ?_
  refine swp_reg ?_
  refine SRun.ck tbok 1 ⟨27, [(4, vi (-1))], []⟩ ?_
  refine SRun.nil ?_
  refine nx_n ?_
  refine swp_ret ?_
  replace h := Option.some.inj h
  subst h
  exact nx_r (q_fr (fin1 (by kernel_rfl) (finV rfl SV.flat_of (holds_t (by kernel_rfl)))))
  replace h := cond_f hb h
  refine swp_skip ?_
  refine nx_n ?_
  refine swp_seq ?_
  refine swp_reg ?_
  refine SRun.ck tbok 6 ⟨27, [(1, vi (w64 ((w64 ((w64 (aLeft - (aA.Source.size : Int))) - (aA.Place.size : Int))) - (aA.Value.size : Int))))], []⟩ ?_
  refine SRun.nil ?_
  refine nx_n ?_
  refine swp_seq ?_
  refine swp_seq ?_
  refine swp_reg ?_
  refine SRun.ck tbok 2 ⟨27, [(1, vi (w64 ((w64 ((w64 (aLeft - (aA.Source.size : Int))) - (aA.Place.size : Int))) - (aA.Value.size : Int)))), (25, vb (decide ((w64 ((w64 ((w64 (aLeft - (aA.Source.size : Int))) - (aA.Place.size : Int))) - (aA.Value.size : Int))) < 0)))], []⟩ ?_
  refine SRun.nil ?_
  refine nx_n ?_
  refine swp_cond (b := (decide ((w64 ((w64 ((w64 (aLeft - (aA.Source.size : Int))) - (aA.Place.size : Int))) - (aA.Value.size : Int))) < 0))) (by kernel_rfl) (fun hb => ?_) (fun hb => ?_)
  replace h := cond_t hb h
  refine swp_seq ?_
  refine swp_reg ?_
  refine SRun.ck tbok 1 ⟨27, [(4, vi (-1))], []⟩ ?_
  refine SRun.nil ?_
  refine nx_n ?_
  refine swp_ret ?_
  replace h := Option.some.inj h
  subst h
  exact nx_r (q_fr (fin1 (by kernel_rfl) (finV rfl SV.flat_of (holds_t (by kernel_rfl)))))
  replace h := cond_f hb h
  refine swp_skip ?_
  refine nx_n ?_
  refine swp_seq ?_
  refine swp_reg ?_
  refine SRun.ck tbok 2 ⟨27, [(4, vi (w64 ((w64 ((w64 (aLeft - (aA.Source.size : Int))) - (aA.Place.size : Int))) - (aA.Value.size : Int))))], []⟩ ?_
  refine SRun.nil ?_
  refine nx_n ?_
  refine swp_ret ?_
  replace h := Option.some.inj h
  subst h
  exact q_fr (fin1 (by kernel_rfl) (finV rfl SV.flat_of (holds_t (by kernel_rfl))))
theorem ents12 : Ents Tryd.prog 12 := ents_of Tryd.func12 (by kernel_rfl) rfl
noncomputable def laws_szClaimS (aA : (List Claim)) (aLeft : Int) : Option (Int) :=
  (bif (decide ((w64 (aLeft - (aA.length : Int))) < 0)) then some (-1) else (((forN (aA.length : Int) (fun (i3 : Int) (s3 : Int) => ((at' aA i3).bind fun x7 => ((laws_szClaim x7 s3).bind fun x8 => (bif (decide (x8 < 0)) then some (.inr (.inr (-1))) else some (.inl x8))))) (fun (s3 : Int) => .inl s3) 0 (w64 (aLeft - (aA.length : Int))))).bind (Sum.elim (fun (j1 : Int) => some j1) some)))
set_option maxRecDepth 100000 in
set_option maxHeartbeats 4000000 in
theorem laws_szClaimS_run (aA : (List Claim)) (aLeft : Int) (r : Int) (h : laws_szClaimS aA aLeft = some r) : SCall Tryd.prog 5 [.v (vl eClaim aA), .v (vi aLeft)] ⟨[.v (vi r)], [], false⟩ := by
  refine scall_in Tryd.func5 rfl [(.tmp 4)] rfl (fun r => ⟨[.v (vi r)], [], false⟩) (r := r) ?_
  unfold laws_szClaimS at h
  refine swp_seq ?_
  refine swp_reg ?_
  refine SRun.ck tbok 1 ⟨27, [(0, vl eClaim aA), (1, vi aLeft)], []⟩ ?_
  refine SRun.nil ?_
  refine nx_n ?_
  refine swp_seq ?_
  refine swp_reg ?_
  refine SRun.ck tbok 5 ⟨27, [(0, vl eClaim aA), (1, vi (w64 (aLeft - (aA.length : Int))))], []⟩ ?_
  refine SRun.nil ?_
  refine nx_n ?_
  refine swp_seq ?_
  refine swp_seq ?_
  refine swp_reg ?_
  refine SRun.ck tbok 2 ⟨27, [(0, vl eClaim aA), (1, vi (w64 (aLeft - (aA.length : Int)))), (11, vb (decide ((w64 (aLeft - (aA.length : Int))) < 0)))], []⟩ ?_
  refine SRun.nil ?_
  refine nx_n ?_
  refine swp_cond (b := (decide ((w64 (aLeft - (aA.length : Int))) < 0))) (by kernel_rfl) (fun hb => ?_) (fun hb => ?_)
  replace h := cond_t hb h
  refine swp_seq ?_
  refine swp_reg ?_
  refine SRun.ck tbok 1 ⟨27, [(4, vi (-1))], []⟩ ?_
  refine SRun.nil ?_
  refine nx_n ?_
  refine swp_ret ?_
  replace h := Option.some.inj h
  subst h
  exact nx_r (q_fr (fin1 (by kernel_rfl) (finV rfl SV.flat_of (holds_t (by kernel_rfl)))))
  replace h := cond_f hb h
  refine swp_skip ?_
  refine nx_n ?_
  refine swp_seq ?_
  refine swp_seq ?_
  refine swp_reg ?_
  refine SRun.ck tbok 1 ⟨27, [(0, vl eClaim aA), (1, vi (w64 (aLeft - (aA.length : Int)))), (5, vi 0)], []⟩ ?_
  refine SRun.nil ?_
  refine nx_n ?_
  refine swp_seqE (r := r) h (fun j1 => ⟨27, [(1, vi j1)], []⟩) (fun v2 h => ?_) (fun j1 h => ?_)
  refine swp_blk (a := v2) ?_
  refine swp_lpL (r := v2) (s := (0, (w64 (aLeft - (aA.length : Int))))) _ (fun s3 => ⟨27, [(0, vl eClaim aA), (1, vi s3.2), (5, vi s3.1)], []⟩) _ (Le.sub0) h (fun s3 v4 h => ?_)
  refine swp_seq ?_
  refine swp_seq ?_
  refine swp_reg ?_
  refine SRun.ck tbok 4 ⟨27, [(0, vl eClaim aA), (1, vi s3.2), (5, vi s3.1), (15, vb (decide (s3.1 < (aA.length : Int))))], []⟩ ?_
  refine SRun.nil ?_
  refine nx_n ?_
  refine swp_cond (b := (decide (s3.1 < (aA.length : Int)))) (by kernel_rfl) (fun hb => ?_) (fun hb => ?_)
  replace h := cond_t hb h
  refine swp_skip ?_
  refine nx_n ?_
  refine swp_seq ?_
  refine swp_seqL (r := v4) h (fun j5 => ⟨27, [(0, vl eClaim aA), (1, vi j5), (5, vi s3.1)], []⟩) (fun v6 h => ?_) (fun j5 h => ?_)
  refine swp_blk (a := v6) ?_
  refine swp_seq ?_
  refine swp_reg ?_
  refine SRun.ck tbok 2 ⟨27, [(0, vl eClaim aA), (1, vi s3.2), (5, vi s3.1), (18, vl eClaim aA), (19, vi s3.1)], []⟩ ?_
  obtain ⟨x7, hx7, h⟩ := bind_some h
  refine SRun.ls (x_index (L := aA) (f := eClaim) (ti := ti22) (tj := ti34) (e := 34) (k := .i64) tbok rfl hx7) ?_
  refine SRun.ck tbok 2 ⟨27, [(0, vl eClaim aA), (5, vi s3.1), (21, .agg [vs x7.Source, vi x7.Kind, vs x7.Place, vs x7.Value, vi x7.Years.From, vi x7.Years.To, vi x7.Weight]), (22, vi s3.2)], []⟩ ?_
  obtain ⟨x8, hx8, h⟩ := bind_some h
  refine SRun.ls (x_lstep_call (f := 12) (caps := []) (xs := [.agg [vs x7.Source, vi x7.Kind, vs x7.Place, vs x7.Value, vi x7.Years.From, vi x7.Years.To, vi x7.Weight], vi s3.2]) (ys := [.agg [vs x7.Source, vi x7.Kind, vs x7.Place, vs x7.Value, vi x7.Years.From, vi x7.Years.To, vi x7.Weight], vi s3.2]) (res := ⟨[.v (vi x8)], [], false⟩) (x := vi x8) (y := none) rfl ents12 (laws_szClaim_run x7 s3.2 _ hx8) rfl (by intro hc; cases hc)) ?_
  refine SRun.ck tbok 1 ⟨27, [(0, vl eClaim aA), (1, vi x8), (5, vi s3.1)], []⟩ ?_
  refine SRun.nil ?_
  refine nx_n ?_
  refine swp_seq ?_
  refine swp_reg ?_
  refine SRun.ck tbok 2 ⟨27, [(0, vl eClaim aA), (1, vi x8), (5, vi s3.1), (25, vb (decide (x8 < 0)))], []⟩ ?_
  refine SRun.nil ?_
  refine nx_n ?_
  refine swp_cond (b := (decide (x8 < 0))) (by kernel_rfl) (fun hb => ?_) (fun hb => ?_)
  replace h := cond_t hb h
  refine swp_seq ?_
  refine swp_reg ?_
  refine SRun.ck tbok 1 ⟨27, [(4, vi (-1))], []⟩ ?_
  refine SRun.nil ?_
  refine nx_n ?_
  refine swp_ret ?_
  replace h := Option.some.inj h
  subst h
  exact q_br (q_rr (q_rr (q_br (q_rr (q_fr (fin1 (by kernel_rfl) (finV rfl SV.flat_of (holds_t (by kernel_rfl)))))))))
  replace h := cond_f hb h
  refine swp_skip ?_
  replace h := Option.some.inj h
  subst h
  exact q_bn (q_l (Le.sub0))
  refine swp_reg ?_
  refine SRun.ck tbok 3 ⟨27, [(0, vl eClaim aA), (1, vi j5), (5, vi (w64 (s3.1 + 1)))], []⟩ ?_
  refine SRun.nil ?_
  replace h := Option.some.inj h
  subst h
  exact q_l (Le.sub0)
  replace h := cond_f hb h
  refine swp_exit ?_
  replace h := Option.some.inj h
  subst h
  exact nx_e (q_re (q_bh (q_l (Le.sub0))))
  refine swp_seq ?_
  refine swp_reg ?_
  refine SRun.ck tbok 2 ⟨27, [(4, vi j1)], []⟩ ?_
  refine SRun.nil ?_
  refine nx_n ?_
  refine swp_ret ?_
  replace h := Option.some.inj h
  subst h
  exact q_fr (fin1 (by kernel_rfl) (finV rfl SV.flat_of (holds_t (by kernel_rfl))))
theorem ents5 : Ents Tryd.prog 5 := ents_of Tryd.func5 (by kernel_rfl) rfl
noncomputable def laws_toSpan (aA : Span) : Option (Span) :=
  some aA
set_option maxRecDepth 100000 in
set_option maxHeartbeats 4000000 in
theorem laws_toSpan_run (aA : Span) (r : Span) (h : laws_toSpan aA = some r) : SCall Tryd.prog 22 [.v (.agg [vi aA.From, vi aA.To])] ⟨[.v (.agg [vi r.From, vi r.To])], [], false⟩ := by
  refine scall_in Tryd.func22 rfl [(.cell 2 37)] rfl (fun r => ⟨[.v (.agg [vi r.From, vi r.To])], [], false⟩) (r := r) ?_
  unfold laws_toSpan at h
  refine swp_seq ?_
  refine swp_reg ?_
  refine SRun.ck tbok 2 ⟨11, [(1, .ref 1 0), (2, .ref 2 0)], [(1, .box [vi aA.From, vi aA.To]), (2, .box [vi 0, vi 0])]⟩ ?_
  refine SRun.nil ?_
  refine nx_n ?_
  refine swp_seq ?_
  refine swp_reg ?_
  refine SRun.ck tbok 1 ⟨11, [(1, .ref 1 0), (2, .ref 2 0), (3, .ref 3 0)], [(1, .box [vi aA.From, vi aA.To]), (2, .box [vi 0, vi 0]), (3, .box [vi 0, vi 0])]⟩ ?_
  refine SRun.nil ?_
  refine nx_n ?_
  refine swp_seq ?_
  refine swp_reg ?_
  refine SRun.ck tbok 3 ⟨11, [(1, .ref 1 0), (2, .ref 2 0), (3, .ref 3 0), (5, vi aA.From), (6, .ref 3 0)], [(1, .box [vi aA.From, vi aA.To]), (2, .box [vi 0, vi 0]), (3, .box [vi 0, vi 0])]⟩ ?_
  refine SRun.estep (x_estep_store (d := 3) (k := 0) (ti := ti2) (cs := [vi 0, vi 0]) (vs := [vi aA.From]) (v := vi aA.From) tbok rfl rfl) ?_
  refine SRun.nil ?_
  refine nx_n ?_
  refine swp_seq ?_
  refine swp_reg ?_
  refine SRun.ck tbok 3 ⟨11, [(2, .ref 2 0), (3, .ref 3 0), (8, vi aA.To), (9, .ref 3 1)], [(2, .box [vi 0, vi 0]), (3, .box [vi aA.From, vi 0])]⟩ ?_
  refine SRun.estep (x_estep_store (d := 3) (k := 1) (ti := ti2) (cs := [vi aA.From, vi 0]) (vs := [vi aA.To]) (v := vi aA.To) tbok rfl rfl) ?_
  refine SRun.nil ?_
  refine nx_n ?_
  refine swp_seq ?_
  refine swp_reg ?_
  refine SRun.ck tbok 1 ⟨11, [(2, .ref 2 0), (10, .agg [vi aA.From, vi aA.To])], [(2, .box [vi 0, vi 0])]⟩ ?_
  refine SRun.estep (x_estep_store (d := 2) (k := 0) (ti := ti37) (cs := [vi 0, vi 0]) (vs := [vi aA.From, vi aA.To]) (v := .agg [vi aA.From, vi aA.To]) tbok rfl rfl) ?_
  refine SRun.nil ?_
  refine nx_n ?_
  refine swp_ret ?_
  replace h := Option.some.inj h
  subst h
  exact q_fr (fin1 (by kernel_rfl) (finV rfl SV.flat_of (holds_c tbok (d := 2) (cs := [vi aA.From, vi aA.To]) (ti := ti37) (by kernel_rfl) (by kernel_rfl) (by kernel_rfl) (by kernel_rfl))))
theorem ents22 : Ents Tryd.prog 22 := ents_of Tryd.func22 (by kernel_rfl) rfl
noncomputable def laws_toClaim (aA : Claim) : Option (Claim) :=
  ((laws_toSpan aA.Years).bind fun x1 => some (Claim.mk aA.Source aA.Kind aA.Place aA.Value x1 aA.Weight))
set_option maxRecDepth 100000 in
set_option maxHeartbeats 4000000 in
theorem laws_toClaim_run (aA : Claim) (r : Claim) (h : laws_toClaim aA = some r) : SCall Tryd.prog 15 [.v (.agg [vs aA.Source, vi aA.Kind, vs aA.Place, vs aA.Value, vi aA.Years.From, vi aA.Years.To, vi aA.Weight])] ⟨[.v (.agg [vs r.Source, vi r.Kind, vs r.Place, vs r.Value, vi r.Years.From, vi r.Years.To, vi r.Weight])], [], false⟩ := by
  refine scall_in Tryd.func15 rfl [(.cell 2 39)] rfl (fun r => ⟨[.v (.agg [vs r.Source, vi r.Kind, vs r.Place, vs r.Value, vi r.Years.From, vi r.Years.To, vi r.Weight])], [], false⟩) (r := r) ?_
  unfold laws_toClaim at h
  refine swp_seq ?_
  refine swp_reg ?_
  refine SRun.ck tbok 2 ⟨24, [(1, .ref 1 0), (2, .ref 2 0)], [(1, .box [vs aA.Source, vi aA.Kind, vs aA.Place, vs aA.Value, vi aA.Years.From, vi aA.Years.To, vi aA.Weight]), (2, .box [vs (ByteArray.mk #[]), vi 0, vs (ByteArray.mk #[]), vs (ByteArray.mk #[]), vi 0, vi 0, vi 0])]⟩ ?_
  refine SRun.nil ?_
  refine nx_n ?_
  refine swp_seq ?_
  refine swp_reg ?_
  refine SRun.ck tbok 1 ⟨24, [(1, .ref 1 0), (2, .ref 2 0), (3, .ref 3 0)], [(1, .box [vs aA.Source, vi aA.Kind, vs aA.Place, vs aA.Value, vi aA.Years.From, vi aA.Years.To, vi aA.Weight]), (2, .box [vs (ByteArray.mk #[]), vi 0, vs (ByteArray.mk #[]), vs (ByteArray.mk #[]), vi 0, vi 0, vi 0]), (3, .box [vs (ByteArray.mk #[]), vi 0, vs (ByteArray.mk #[]), vs (ByteArray.mk #[]), vi 0, vi 0, vi 0])]⟩ ?_
  refine SRun.nil ?_
  refine nx_n ?_
  refine swp_seq ?_
  refine swp_reg ?_
  refine SRun.ck tbok 3 ⟨24, [(1, .ref 1 0), (2, .ref 2 0), (3, .ref 3 0), (5, vs aA.Source), (6, .ref 3 0)], [(1, .box [vs aA.Source, vi aA.Kind, vs aA.Place, vs aA.Value, vi aA.Years.From, vi aA.Years.To, vi aA.Weight]), (2, .box [vs (ByteArray.mk #[]), vi 0, vs (ByteArray.mk #[]), vs (ByteArray.mk #[]), vi 0, vi 0, vi 0]), (3, .box [vs (ByteArray.mk #[]), vi 0, vs (ByteArray.mk #[]), vs (ByteArray.mk #[]), vi 0, vi 0, vi 0])]⟩ ?_
  refine SRun.estep (x_estep_store (d := 3) (k := 0) (ti := ti9) (cs := [vs (ByteArray.mk #[]), vi 0, vs (ByteArray.mk #[]), vs (ByteArray.mk #[]), vi 0, vi 0, vi 0]) (vs := [vs aA.Source]) (v := vs aA.Source) tbok rfl rfl) ?_
  refine SRun.nil ?_
  refine nx_n ?_
  refine swp_seq ?_
  refine swp_reg ?_
  refine SRun.ck tbok 3 ⟨24, [(1, .ref 1 0), (2, .ref 2 0), (3, .ref 3 0), (8, vi aA.Kind), (9, .ref 3 1)], [(1, .box [vs aA.Source, vi aA.Kind, vs aA.Place, vs aA.Value, vi aA.Years.From, vi aA.Years.To, vi aA.Weight]), (2, .box [vs (ByteArray.mk #[]), vi 0, vs (ByteArray.mk #[]), vs (ByteArray.mk #[]), vi 0, vi 0, vi 0]), (3, .box [vs aA.Source, vi 0, vs (ByteArray.mk #[]), vs (ByteArray.mk #[]), vi 0, vi 0, vi 0])]⟩ ?_
  refine SRun.estep (x_estep_store (d := 3) (k := 1) (ti := ti2) (cs := [vs aA.Source, vi 0, vs (ByteArray.mk #[]), vs (ByteArray.mk #[]), vi 0, vi 0, vi 0]) (vs := [vi aA.Kind]) (v := vi aA.Kind) tbok rfl rfl) ?_
  refine SRun.nil ?_
  refine nx_n ?_
  refine swp_seq ?_
  refine swp_reg ?_
  refine SRun.ck tbok 3 ⟨24, [(1, .ref 1 0), (2, .ref 2 0), (3, .ref 3 0), (11, vs aA.Place), (12, .ref 3 2)], [(1, .box [vs aA.Source, vi aA.Kind, vs aA.Place, vs aA.Value, vi aA.Years.From, vi aA.Years.To, vi aA.Weight]), (2, .box [vs (ByteArray.mk #[]), vi 0, vs (ByteArray.mk #[]), vs (ByteArray.mk #[]), vi 0, vi 0, vi 0]), (3, .box [vs aA.Source, vi aA.Kind, vs (ByteArray.mk #[]), vs (ByteArray.mk #[]), vi 0, vi 0, vi 0])]⟩ ?_
  refine SRun.estep (x_estep_store (d := 3) (k := 2) (ti := ti9) (cs := [vs aA.Source, vi aA.Kind, vs (ByteArray.mk #[]), vs (ByteArray.mk #[]), vi 0, vi 0, vi 0]) (vs := [vs aA.Place]) (v := vs aA.Place) tbok rfl rfl) ?_
  refine SRun.nil ?_
  refine nx_n ?_
  refine swp_seq ?_
  refine swp_reg ?_
  refine SRun.ck tbok 3 ⟨24, [(1, .ref 1 0), (2, .ref 2 0), (3, .ref 3 0), (14, vs aA.Value), (15, .ref 3 3)], [(1, .box [vs aA.Source, vi aA.Kind, vs aA.Place, vs aA.Value, vi aA.Years.From, vi aA.Years.To, vi aA.Weight]), (2, .box [vs (ByteArray.mk #[]), vi 0, vs (ByteArray.mk #[]), vs (ByteArray.mk #[]), vi 0, vi 0, vi 0]), (3, .box [vs aA.Source, vi aA.Kind, vs aA.Place, vs (ByteArray.mk #[]), vi 0, vi 0, vi 0])]⟩ ?_
  refine SRun.estep (x_estep_store (d := 3) (k := 3) (ti := ti9) (cs := [vs aA.Source, vi aA.Kind, vs aA.Place, vs (ByteArray.mk #[]), vi 0, vi 0, vi 0]) (vs := [vs aA.Value]) (v := vs aA.Value) tbok rfl rfl) ?_
  refine SRun.nil ?_
  refine nx_n ?_
  refine swp_seq ?_
  refine swp_reg ?_
  refine SRun.ck tbok 2 ⟨24, [(1, .ref 1 0), (2, .ref 2 0), (3, .ref 3 0), (17, .agg [vi aA.Years.From, vi aA.Years.To])], [(1, .box [vs aA.Source, vi aA.Kind, vs aA.Place, vs aA.Value, vi aA.Years.From, vi aA.Years.To, vi aA.Weight]), (2, .box [vs (ByteArray.mk #[]), vi 0, vs (ByteArray.mk #[]), vs (ByteArray.mk #[]), vi 0, vi 0, vi 0]), (3, .box [vs aA.Source, vi aA.Kind, vs aA.Place, vs aA.Value, vi 0, vi 0, vi 0])]⟩ ?_
  obtain ⟨x1, hx1, h⟩ := bind_some h
  refine SRun.ls (x_lstep_call (f := 22) (caps := []) (xs := [.agg [vi aA.Years.From, vi aA.Years.To]]) (ys := [.agg [vi aA.Years.From, vi aA.Years.To]]) (res := ⟨[.v (.agg [vi x1.From, vi x1.To])], [], false⟩) (x := .agg [vi x1.From, vi x1.To]) (y := none) rfl ents22 (laws_toSpan_run aA.Years _ hx1) rfl (by intro hc; cases hc)) ?_
  refine SRun.ck tbok 1 ⟨24, [(1, .ref 1 0), (2, .ref 2 0), (3, .ref 3 0), (18, .agg [vi x1.From, vi x1.To]), (19, .ref 3 4)], [(1, .box [vs aA.Source, vi aA.Kind, vs aA.Place, vs aA.Value, vi aA.Years.From, vi aA.Years.To, vi aA.Weight]), (2, .box [vs (ByteArray.mk #[]), vi 0, vs (ByteArray.mk #[]), vs (ByteArray.mk #[]), vi 0, vi 0, vi 0]), (3, .box [vs aA.Source, vi aA.Kind, vs aA.Place, vs aA.Value, vi 0, vi 0, vi 0])]⟩ ?_
  refine SRun.estep (x_estep_store (d := 3) (k := 4) (ti := ti37) (cs := [vs aA.Source, vi aA.Kind, vs aA.Place, vs aA.Value, vi 0, vi 0, vi 0]) (vs := [vi x1.From, vi x1.To]) (v := .agg [vi x1.From, vi x1.To]) tbok rfl rfl) ?_
  refine SRun.nil ?_
  refine nx_n ?_
  refine swp_seq ?_
  refine swp_reg ?_
  refine SRun.ck tbok 3 ⟨24, [(2, .ref 2 0), (3, .ref 3 0), (21, vi aA.Weight), (22, .ref 3 6)], [(2, .box [vs (ByteArray.mk #[]), vi 0, vs (ByteArray.mk #[]), vs (ByteArray.mk #[]), vi 0, vi 0, vi 0]), (3, .box [vs aA.Source, vi aA.Kind, vs aA.Place, vs aA.Value, vi x1.From, vi x1.To, vi 0])]⟩ ?_
  refine SRun.estep (x_estep_store (d := 3) (k := 6) (ti := ti2) (cs := [vs aA.Source, vi aA.Kind, vs aA.Place, vs aA.Value, vi x1.From, vi x1.To, vi 0]) (vs := [vi aA.Weight]) (v := vi aA.Weight) tbok rfl rfl) ?_
  refine SRun.nil ?_
  refine nx_n ?_
  refine swp_seq ?_
  refine swp_reg ?_
  refine SRun.ck tbok 1 ⟨24, [(2, .ref 2 0), (23, .agg [vs aA.Source, vi aA.Kind, vs aA.Place, vs aA.Value, vi x1.From, vi x1.To, vi aA.Weight])], [(2, .box [vs (ByteArray.mk #[]), vi 0, vs (ByteArray.mk #[]), vs (ByteArray.mk #[]), vi 0, vi 0, vi 0])]⟩ ?_
  refine SRun.estep (x_estep_store (d := 2) (k := 0) (ti := ti39) (cs := [vs (ByteArray.mk #[]), vi 0, vs (ByteArray.mk #[]), vs (ByteArray.mk #[]), vi 0, vi 0, vi 0]) (vs := [vs aA.Source, vi aA.Kind, vs aA.Place, vs aA.Value, vi x1.From, vi x1.To, vi aA.Weight]) (v := .agg [vs aA.Source, vi aA.Kind, vs aA.Place, vs aA.Value, vi x1.From, vi x1.To, vi aA.Weight]) tbok rfl rfl) ?_
  refine SRun.nil ?_
  refine nx_n ?_
  refine swp_ret ?_
  replace h := Option.some.inj h
  subst h
  exact q_fr (fin1 (by kernel_rfl) (finV rfl SV.flat_of (holds_c tbok (d := 2) (cs := [vs aA.Source, vi aA.Kind, vs aA.Place, vs aA.Value, vi x1.From, vi x1.To, vi aA.Weight]) (ti := ti39) (by kernel_rfl) (by kernel_rfl) (by kernel_rfl) (by kernel_rfl))))
theorem ents15 : Ents Tryd.prog 15 := ents_of Tryd.func15 (by kernel_rfl) rfl
noncomputable def laws_toClaimS (aA : (List Claim)) : Option ((List Claim)) :=
  ((make' (Claim.mk (ByteArray.mk #[]) 0 (ByteArray.mk #[]) (ByteArray.mk #[]) (Span.mk 0 0) 0) (aA.length : Int)).bind fun x1 => (((forS (aA.length : Int) (fun (i4 : Int) (s4 : (List Claim)) => ((at' aA i4).bind fun x8 => ((laws_toClaim x8).bind fun x9 => ((at' s4 i4).bind fun _ => some (List.set s4 (Int.toNat i4) x9))))) (fun (s4 : (List Claim)) => s4) 0 x1)).bind fun (j2 : (List Claim)) => some j2))
set_option maxRecDepth 100000 in
set_option maxHeartbeats 4000000 in
theorem laws_toClaimS_run (aA : (List Claim)) (r : (List Claim)) (h : laws_toClaimS aA = some r) : SCall Tryd.prog 7 [.v (vl eClaim aA)] ⟨[.own 39 7 r.length (r.map eClaim)], [], false⟩ := by
  refine scall_in Tryd.func7 rfl [(.tmp 2)] rfl (fun r => ⟨[.own 39 7 r.length (r.map eClaim)], [], false⟩) (r := r) ?_
  unfold laws_toClaimS at h
  refine swp_seq ?_
  refine swp_reg ?_
  refine SRun.ck tbok 1 ⟨23, [(0, vl eClaim aA)], []⟩ ?_
  refine SRun.nil ?_
  refine nx_n ?_
  refine swp_seq ?_
  refine swp_reg ?_
  refine SRun.ck tbok 2 ⟨23, [(0, vl eClaim aA), (6, vi (aA.length : Int))], []⟩ ?_
  obtain ⟨x1, hx1, h⟩ := bind_some h
  refine SRun.ls (x_make (z := (Claim.mk (ByteArray.mk #[]) 0 (ByteArray.mk #[]) (ByteArray.mk #[]) (Span.mk 0 0) 0)) (f := eClaim) (ti := ti26) (tj := ti39) (e := 39) (m := 7) (k := .i64) (k' := .i64) hx1 tbok rfl rfl (zs := [.string (ByteArray.mk #[]), .int .i64 0, .string (ByteArray.mk #[]), .string (ByteArray.mk #[]), .int .i64 0, .int .i64 0, .int .i64 0])) ?_
  refine SRun.ck tbok 1 ⟨23, [(0, vl eClaim aA), (3, .own 7)], [(7, .arr 39 7 x1.length (x1.map eClaim))]⟩ ?_
  refine SRun.nil ?_
  refine nx_n ?_
  refine swp_seq ?_
  refine swp_seq ?_
  refine swp_reg ?_
  refine SRun.ck tbok 1 ⟨23, [(0, vl eClaim aA), (3, .own 7), (4, vi 0)], [(7, .arr 39 7 x1.length (x1.map eClaim))]⟩ ?_
  refine SRun.nil ?_
  refine nx_n ?_
  refine swp_seqJ h (fun j2 => ⟨23, [(3, .own 3)], [(3, .arr 39 7 j2.length (j2.map eClaim))]⟩) (fun v3 h => ?_) (fun j2 h => ?_)
  refine swp_blk (a := v3) ?_
  refine swp_lpL (r := v3) (s := (0, x1)) _ (fun s4 => ⟨23, [(0, vl eClaim aA), (3, .own 3), (4, vi s4.1)], [(3, .arr 39 7 s4.2.length (s4.2.map eClaim))]⟩) _ ((Le.sub' ([(0, vl eClaim aA), (3, .own 7), (4, vi 0)] : List (Nat × SV)) ([(7, .arr 39 7 x1.length (x1.map eClaim))] : List (Nat × SO)) (by kernel_rfl) (by kernel_rfl)).trans ((Le.ren' (d := 7) (e := 3) (by kernel_rfl) (by kernel_rfl) (by kernel_rfl)).trans (Le.sub0))) h (fun s4 v5 h => ?_)
  refine swp_seq ?_
  refine swp_seq ?_
  refine swp_reg ?_
  refine SRun.ck tbok 4 ⟨23, [(0, vl eClaim aA), (3, .own 3), (4, vi s4.1), (11, vb (decide (s4.1 < (aA.length : Int))))], [(3, .arr 39 7 s4.2.length (s4.2.map eClaim))]⟩ ?_
  refine SRun.nil ?_
  refine nx_n ?_
  refine swp_cond (b := (decide (s4.1 < (aA.length : Int)))) (by kernel_rfl) (fun hb => ?_) (fun hb => ?_)
  replace h := cond_t hb h
  refine swp_skip ?_
  refine nx_n ?_
  refine swp_seq ?_
  refine swp_seqJ h (fun j6 => ⟨23, [(0, vl eClaim aA), (3, .own 3), (4, vi s4.1)], [(3, .arr 39 7 j6.length (j6.map eClaim))]⟩) (fun v7 h => ?_) (fun j6 h => ?_)
  refine swp_blk (a := v7) ?_
  refine swp_reg ?_
  refine SRun.ck tbok 4 ⟨23, [(0, vl eClaim aA), (3, .own 3), (4, vi s4.1), (14, .own 3), (15, vi s4.1), (16, vl eClaim aA), (17, vi s4.1)], [(3, .arr 39 7 s4.2.length (s4.2.map eClaim))]⟩ ?_
  obtain ⟨x8, hx8, h⟩ := bind_some h
  refine SRun.ls (x_index (L := aA) (f := eClaim) (ti := ti22) (tj := ti34) (e := 34) (k := .i64) tbok rfl hx8) ?_
  refine SRun.ck tbok 1 ⟨23, [(0, vl eClaim aA), (3, .own 3), (4, vi s4.1), (14, .own 3), (15, vi s4.1), (19, .agg [vs x8.Source, vi x8.Kind, vs x8.Place, vs x8.Value, vi x8.Years.From, vi x8.Years.To, vi x8.Weight])], [(3, .arr 39 7 s4.2.length (s4.2.map eClaim))]⟩ ?_
  obtain ⟨x9, hx9, h⟩ := bind_some h
  refine SRun.ls (x_lstep_call (f := 15) (caps := []) (xs := [.agg [vs x8.Source, vi x8.Kind, vs x8.Place, vs x8.Value, vi x8.Years.From, vi x8.Years.To, vi x8.Weight]]) (ys := [.agg [vs x8.Source, vi x8.Kind, vs x8.Place, vs x8.Value, vi x8.Years.From, vi x8.Years.To, vi x8.Weight]]) (res := ⟨[.v (.agg [vs x9.Source, vi x9.Kind, vs x9.Place, vs x9.Value, vi x9.Years.From, vi x9.Years.To, vi x9.Weight])], [], false⟩) (x := .agg [vs x9.Source, vi x9.Kind, vs x9.Place, vs x9.Value, vi x9.Years.From, vi x9.Years.To, vi x9.Weight]) (y := none) rfl ents15 (laws_toClaim_run x8 _ hx9) rfl (by intro hc; cases hc)) ?_
  obtain ⟨x10, hx10, h⟩ := bind_some h
  refine SRun.ls (x_index_own (d := 3) (L := s4.2) (f := eClaim) (ti := ti26) (tj := ti39) (e := 39) (e' := 39) (m := 7) (k := .i64) tbok rfl hx10) ?_
  refine SRun.estep (x_store_own (d := 3) (m := 7) (j := 0) (L := s4.2) (f := eClaim) (x := x9) (z := x10) (ti := ti39) (e := 39) (ts := [.str x9.Source, .int .i64 x9.Kind, .str x9.Place, .str x9.Value, .int .i64 x9.Years.From, .int .i64 x9.Years.To, .int .i64 x9.Weight]) (vs := [vs x9.Source, vi x9.Kind, vs x9.Place, vs x9.Value, vi x9.Years.From, vi x9.Years.To, vi x9.Weight]) (v := .agg [vs x9.Source, vi x9.Kind, vs x9.Place, vs x9.Value, vi x9.Years.From, vi x9.Years.To, vi x9.Weight]) tbok rfl rfl hx10) ?_
  refine SRun.nil ?_
  replace h := Option.some.inj h
  subst h
  exact q_bn (q_j (Le.sub0))
  refine swp_reg ?_
  refine SRun.ck tbok 3 ⟨23, [(0, vl eClaim aA), (3, .own 3), (4, vi (w64 (s4.1 + 1)))], [(3, .arr 39 7 j6.length (j6.map eClaim))]⟩ ?_
  refine SRun.nil ?_
  replace h := Option.some.inj h
  subst h
  exact q_l (Le.sub0)
  replace h := cond_f hb h
  refine swp_exit ?_
  replace h := Option.some.inj h
  subst h
  exact nx_e (q_re (q_bh (q_j (Le.sub0))))
  refine swp_seq ?_
  refine swp_reg ?_
  refine SRun.ck tbok 2 ⟨23, [(2, .own 3)], [(3, .arr 39 7 j2.length (j2.map eClaim))]⟩ ?_
  refine SRun.nil ?_
  refine nx_n ?_
  refine swp_ret ?_
  replace h := Option.some.inj h
  subst h
  exact q_fr (fin1 (by kernel_rfl) (finO (d := 3) (holds_t (by kernel_rfl)) (by kernel_rfl) (flat_map eClaim_flat _) (by kernel_rfl)))
theorem ents7 : Ents Tryd.prog 7 := ents_of Tryd.func7 (by kernel_rfl) rfl
noncomputable def spec_l01In (aN : Int) (aLow : Int) (aHigh : Int) : Option (Bool) :=
  some ((decide (aN ≥ aLow)) && (decide (aN ≤ aHigh)))
set_option maxRecDepth 100000 in
set_option maxHeartbeats 4000000 in
theorem spec_l01In_run (aN : Int) (aLow : Int) (aHigh : Int) (r : Bool) (h : spec_l01In aN aLow aHigh = some r) : SCall Tryd.prog 21 [.v (vi aN), .v (vi aLow), .v (vi aHigh)] ⟨[.v (vb r)], [], false⟩ := by
  refine scall_in Tryd.func21 rfl [(.tmp 6)] rfl (fun r => ⟨[.v (vb r)], [], false⟩) (r := r) ?_
  unfold spec_l01In at h
  refine swp_seq ?_
  refine swp_reg ?_
  refine SRun.ck tbok 1 ⟨15, [(0, vi aN), (1, vi aLow), (2, vi aHigh)], []⟩ ?_
  refine SRun.nil ?_
  refine nx_n ?_
  refine swp_seq ?_
  refine swp_regP ⟨15, [(6, vb ((decide (aN ≥ aLow)) && (decide (aN ≤ aHigh))))], []⟩ ?_ ?_
  refine SRun.ck tbok 4 ⟨15, [(0, vi aN), (2, vi aHigh), (10, vb (decide (aN ≥ aLow)))], []⟩ ?_
  generalize (decide (aN ≥ aLow)) = bb
  cases bb
  refine SRun.ck tbok 5 ⟨15, [(6, vb false)], []⟩ ?_
  exact SRun.nil (Le.sub0)
  refine SRun.ck tbok 5 ⟨15, [(6, vb (decide (aN ≤ aHigh)))], []⟩ ?_
  exact SRun.nil (Le.sub0)
  refine swp_ret ?_
  replace h := Option.some.inj h
  subst h
  exact q_fr (fin1 (by kernel_rfl) (finV rfl SV.flat_of (holds_t (by kernel_rfl))))
theorem ents21 : Ents Tryd.prog 21 := ents_of Tryd.func21 (by kernel_rfl) rfl
noncomputable def spec_IsWord (aS : ByteArray) : Option (Bool) :=
  (((forN (aS.size : Int) (fun (i3 : Int) (_ : Unit) => ((((byte' aS i3).bind fun x7 => (bif (decide (x7 < 97)) then some true else ((byte' aS i3).bind fun x8 => some (decide (x8 > 122)))))).bind fun (j9 : Bool) => (bif j9 then some (.inr (.inr false)) else some (.inl ())))) (fun (_ : Unit) => .inl ()) 0 ())).bind (Sum.elim (fun (_ : Unit) => ((spec_l01In (aS.size : Int) 1 16).bind fun x11 => some x11)) some))
set_option maxRecDepth 100000 in
set_option maxHeartbeats 4000000 in
theorem spec_IsWord_run (aS : ByteArray) (r : Bool) (h : spec_IsWord aS = some r) : SCall Tryd.prog 27 [.v (vs aS)] ⟨[.v (vb r)], [], false⟩ := by
  refine scall_in Tryd.func27 rfl [(.tmp 2)] rfl (fun r => ⟨[.v (vb r)], [], false⟩) (r := r) ?_
  unfold spec_IsWord at h
  refine swp_seq ?_
  refine swp_reg ?_
  refine SRun.ck tbok 1 ⟨23, [(0, vs aS)], []⟩ ?_
  refine SRun.nil ?_
  refine nx_n ?_
  refine swp_seq ?_
  refine swp_seq ?_
  refine swp_reg ?_
  refine SRun.ck tbok 1 ⟨23, [(0, vs aS), (3, vi 0)], []⟩ ?_
  refine SRun.nil ?_
  refine nx_n ?_
  refine swp_seqE (r := r) h (fun j1 => ⟨23, [(0, vs aS)], []⟩) (fun v2 h => ?_) (fun j1 h => ?_)
  refine swp_blk (a := v2) ?_
  refine swp_lpL (r := v2) (s := (0, ())) _ (fun s3 => ⟨23, [(0, vs aS), (3, vi s3.1)], []⟩) _ (Le.sub0) h (fun s3 v4 h => ?_)
  refine swp_seq ?_
  refine swp_seq ?_
  refine swp_reg ?_
  refine SRun.ck tbok 4 ⟨23, [(0, vs aS), (3, vi s3.1), (7, vb (decide (s3.1 < (aS.size : Int))))], []⟩ ?_
  refine SRun.nil ?_
  refine nx_n ?_
  refine swp_cond (b := (decide (s3.1 < (aS.size : Int)))) (by kernel_rfl) (fun hb => ?_) (fun hb => ?_)
  replace h := cond_t hb h
  refine swp_skip ?_
  refine nx_n ?_
  refine swp_seq ?_
  refine swp_seqL (r := v4) h (fun j5 => ⟨23, [(0, vs aS), (3, vi s3.1)], []⟩) (fun v6 h => ?_) (fun j5 h => ?_)
  refine swp_blk (a := v6) ?_
  refine swp_seq ?_
  refine swp_regJ h (fun j9 => ⟨23, [(0, vs aS), (3, vi s3.1), (19, vb j9)], []⟩) (fun v10 h => ?_) (fun j9 h => ?_)
  refine SRun.ck tbok 2 ⟨23, [(0, vs aS), (3, vi s3.1), (10, vs aS), (11, vi s3.1)], []⟩ ?_
  obtain ⟨x7, hx7, h⟩ := bind_some h
  refine SRun.ls (x_byte (ti := ti9) (k := .i64) hx7 tbok rfl) ?_
  refine SRun.ck tbok 2 ⟨23, [(0, vs aS), (3, vi s3.1), (14, vb (decide (x7 < 97)))], []⟩ ?_
  refine SRun.cut [(14, fun b => b)] (b := (decide (x7 < 97))) (by kernel_rfl) (fun hb => ?_) (fun hb => ?_)
  replace h := cond_t hb h
  refine SRun.ck tbok 5 ⟨23, [(0, vs aS), (3, vi s3.1), (19, vb true)], []⟩ ?_
  refine SRun.nil ?_
  replace h := Option.some.inj h
  subst h
  exact Le.sub0
  replace h := cond_f hb h
  refine SRun.ck tbok 2 ⟨23, [(0, vs aS), (3, vi s3.1), (14, vb false), (15, vs aS), (16, vi s3.1)], []⟩ ?_
  obtain ⟨x8, hx8, h⟩ := bind_some h
  refine SRun.ls (x_byte (ti := ti9) (k := .i64) hx8 tbok rfl) ?_
  refine SRun.ck tbok 2 ⟨23, [(0, vs aS), (3, vi s3.1), (19, vb (decide (x8 > 122)))], []⟩ ?_
  refine SRun.nil ?_
  replace h := Option.some.inj h
  subst h
  exact Le.sub0
  refine swp_cond (b := j9) (by kernel_rfl) (fun hb => ?_) (fun hb => ?_)
  replace h := cond_t hb h
  refine swp_seq ?_
  refine swp_reg ?_
  refine SRun.ck tbok 1 ⟨23, [(2, vb false)], []⟩ ?_
  refine SRun.nil ?_
  refine nx_n ?_
  refine swp_ret ?_
  replace h := Option.some.inj h
  subst h
  exact q_br (q_rr (q_rr (q_br (q_rr (q_fr (fin1 (by kernel_rfl) (finV rfl SV.flat_of (holds_t (by kernel_rfl)))))))))
  replace h := cond_f hb h
  refine swp_skip ?_
  replace h := Option.some.inj h
  subst h
  exact q_bn (q_l (Le.sub0))
  refine swp_reg ?_
  refine SRun.ck tbok 3 ⟨23, [(0, vs aS), (3, vi (w64 (s3.1 + 1)))], []⟩ ?_
  refine SRun.nil ?_
  replace h := Option.some.inj h
  subst h
  exact q_l (Le.sub0)
  replace h := cond_f hb h
  refine swp_exit ?_
  replace h := Option.some.inj h
  subst h
  exact nx_e (q_re (q_bh (q_l (Le.sub0))))
  refine swp_seq ?_
  refine swp_reg ?_
  refine SRun.ck tbok 2 ⟨23, [(21, vi (aS.size : Int))], []⟩ ?_
  obtain ⟨x11, hx11, h⟩ := bind_some h
  refine SRun.ls (x_lstep_call (f := 21) (caps := []) (xs := [vi (aS.size : Int), vi 1, vi 16]) (ys := [vi (aS.size : Int), vi 1, vi 16]) (res := ⟨[.v (vb x11)], [], false⟩) (x := vb x11) (y := none) rfl ents21 (spec_l01In_run (aS.size : Int) 1 16 _ hx11) rfl (by intro hc; cases hc)) ?_
  refine SRun.ck tbok 1 ⟨23, [(2, vb x11)], []⟩ ?_
  refine SRun.nil ?_
  refine nx_n ?_
  refine swp_ret ?_
  replace h := Option.some.inj h
  subst h
  exact q_fr (fin1 (by kernel_rfl) (finV rfl SV.flat_of (holds_t (by kernel_rfl))))
theorem ents27 : Ents Tryd.prog 27 := ents_of Tryd.func27 (by kernel_rfl) rfl
noncomputable def spec_l02Year (aN : Int) : Option (Bool) :=
  ((spec_l01In aN (-3000) 3000).bind fun x1 => some x1)
set_option maxRecDepth 100000 in
set_option maxHeartbeats 4000000 in
theorem spec_l02Year_run (aN : Int) (r : Bool) (h : spec_l02Year aN = some r) : SCall Tryd.prog 28 [.v (vi aN)] ⟨[.v (vb r)], [], false⟩ := by
  refine scall_in Tryd.func28 rfl [(.tmp 2)] rfl (fun r => ⟨[.v (vb r)], [], false⟩) (r := r) ?_
  unfold spec_l02Year at h
  refine swp_seq ?_
  refine swp_reg ?_
  refine SRun.ck tbok 1 ⟨5, [(0, vi aN)], []⟩ ?_
  refine SRun.nil ?_
  refine nx_n ?_
  refine swp_seq ?_
  refine swp_reg ?_
  refine SRun.ck tbok 1 ⟨5, [(3, vi aN)], []⟩ ?_
  obtain ⟨x1, hx1, h⟩ := bind_some h
  refine SRun.ls (x_lstep_call (f := 21) (caps := []) (xs := [vi aN, vi (-3000), vi 3000]) (ys := [vi aN, vi (-3000), vi 3000]) (res := ⟨[.v (vb x1)], [], false⟩) (x := vb x1) (y := none) rfl ents21 (spec_l01In_run aN (-3000) 3000 _ hx1) rfl (by intro hc; cases hc)) ?_
  refine SRun.ck tbok 1 ⟨5, [(2, vb x1)], []⟩ ?_
  refine SRun.nil ?_
  refine nx_n ?_
  refine swp_ret ?_
  replace h := Option.some.inj h
  subst h
  exact q_fr (fin1 (by kernel_rfl) (finV rfl SV.flat_of (holds_t (by kernel_rfl))))
theorem ents28 : Ents Tryd.prog 28 := ents_of Tryd.func28 (by kernel_rfl) rfl
noncomputable def spec_IsSpan (aS : Span) : Option (Bool) :=
  ((((spec_l02Year aS.From).bind fun x1 => (bif x1 then ((spec_l02Year aS.To).bind fun x2 => (bif x2 then some (decide (aS.From ≤ aS.To)) else some false)) else some false))).bind fun (j3 : Bool) => some j3)
set_option maxRecDepth 100000 in
set_option maxHeartbeats 4000000 in
theorem spec_IsSpan_run (aS : Span) (r : Bool) (h : spec_IsSpan aS = some r) : SCall Tryd.prog 45 [.v (.agg [vi aS.From, vi aS.To])] ⟨[.v (vb r)], [], false⟩ := by
  refine scall_in Tryd.func45 rfl [(.tmp 2)] rfl (fun r => ⟨[.v (vb r)], [], false⟩) (r := r) ?_
  unfold spec_IsSpan at h
  refine swp_seq ?_
  refine swp_reg ?_
  refine SRun.ck tbok 2 ⟨18, [(1, .ref 1 0)], [(1, .box [vi aS.From, vi aS.To])]⟩ ?_
  refine SRun.nil ?_
  refine nx_n ?_
  refine swp_seq ?_
  refine swp_regJ h (fun j3 => ⟨18, [(2, vb j3)], []⟩) (fun v4 h => ?_) (fun j3 h => ?_)
  refine SRun.ck tbok 2 ⟨18, [(1, .ref 1 0), (4, vi aS.From)], [(1, .box [vi aS.From, vi aS.To])]⟩ ?_
  obtain ⟨x1, hx1, h⟩ := bind_some h
  refine SRun.ls (x_lstep_call (f := 28) (caps := []) (xs := [vi aS.From]) (ys := [vi aS.From]) (res := ⟨[.v (vb x1)], [], false⟩) (x := vb x1) (y := none) rfl ents28 (spec_l02Year_run aS.From _ hx1) rfl (by intro hc; cases hc)) ?_
  refine SRun.ck tbok 1 ⟨18, [(1, .ref 1 0), (6, vb x1)], [(1, .box [vi aS.From, vi aS.To])]⟩ ?_
  refine SRun.cut [(6, fun b => b)] (b := x1) (by kernel_rfl) (fun hb => ?_) (fun hb => ?_)
  replace h := cond_t hb h
  refine SRun.ck tbok 2 ⟨18, [(1, .ref 1 0), (6, vb true), (8, vi aS.To)], [(1, .box [vi aS.From, vi aS.To])]⟩ ?_
  obtain ⟨x2, hx2, h⟩ := bind_some h
  refine SRun.ls (x_lstep_call (f := 28) (caps := []) (xs := [vi aS.To]) (ys := [vi aS.To]) (res := ⟨[.v (vb x2)], [], false⟩) (x := vb x2) (y := none) rfl ents28 (spec_l02Year_run aS.To _ hx2) rfl (by intro hc; cases hc)) ?_
  refine SRun.ck tbok 2 ⟨18, [(1, .ref 1 0), (11, vb x2)], [(1, .box [vi aS.From, vi aS.To])]⟩ ?_
  refine SRun.cut [(11, fun b => b)] (b := x2) (by kernel_rfl) (fun hb => ?_) (fun hb => ?_)
  replace h := cond_t hb h
  refine SRun.ck tbok 7 ⟨18, [(2, vb (decide (aS.From ≤ aS.To)))], []⟩ ?_
  refine SRun.nil ?_
  replace h := Option.some.inj h
  subst h
  exact Le.sub0
  replace h := cond_f hb h
  refine SRun.ck tbok 7 ⟨18, [(2, vb false)], []⟩ ?_
  refine SRun.nil ?_
  replace h := Option.some.inj h
  subst h
  exact Le.sub0
  replace h := cond_f hb h
  refine SRun.ck tbok 12 ⟨18, [(2, vb false)], []⟩ ?_
  refine SRun.nil ?_
  replace h := Option.some.inj h
  subst h
  exact Le.sub0
  refine swp_ret ?_
  replace h := Option.some.inj h
  subst h
  exact q_fr (fin1 (by kernel_rfl) (finV rfl SV.flat_of (holds_t (by kernel_rfl))))
theorem ents45 : Ents Tryd.prog 45 := ents_of Tryd.func45 (by kernel_rfl) rfl
noncomputable def spec_l01Split (aS : ByteArray) (aBy : Int) : Option ((List ByteArray)) :=
  (((forH (fun (i3 : Int) (_ : Int × (List ByteArray)) => (decide (i3 ≤ (aS.size : Int)))) (fun (i3 : Int) (s3 : Int × (List ByteArray)) => (((bif (i3 == (aS.size : Int)) then some true else ((byte' aS i3).bind fun x7 => some (x7 == aBy)))).bind fun (j8 : Bool) => (bif j8 then ((sub' aS s3.1 i3).bind fun x10 => ((app' s3.2 ([x10] : List ByteArray)).bind fun x11 => some ((w64 (i3 + 1)), x11))) else some (s3.1, s3.2)))) (fun (s3 : Int × (List ByteArray)) => s3.2) 0 (0, ([] : List ByteArray)))).bind fun (j1 : (List ByteArray)) => some j1)
set_option maxRecDepth 100000 in
set_option maxHeartbeats 4000000 in
theorem spec_l01Split_run (aS : ByteArray) (aBy : Int) (r : (List ByteArray)) (h : spec_l01Split aS aBy = some r) : SCall Tryd.prog 62 [.v (vs aS), .v (.tr (.int .u8 aBy))] ⟨[.own 9 1 r.length (r.map eS)], [], false⟩ := by
  refine scall_in Tryd.func62 rfl [(.tmp 4)] rfl (fun r => ⟨[.own 9 1 r.length (r.map eS)], [], false⟩) (r := r) ?_
  unfold spec_l01Split at h
  refine swp_seq ?_
  refine swp_reg ?_
  refine SRun.ck tbok 1 ⟨36, [(0, vs aS), (1, .tr (.int .u8 aBy))], []⟩ ?_
  refine SRun.nil ?_
  refine nx_n ?_
  refine swp_seq ?_
  refine swp_reg ?_
  refine SRun.ck tbok 2 ⟨36, [(0, vs aS), (1, .tr (.int .u8 aBy)), (5, .own 8)], [(8, .arr 9 1 ([] : List ByteArray).length (([] : List ByteArray).map eS))]⟩ ?_
  refine SRun.nil ?_
  refine nx_n ?_
  refine swp_seq ?_
  refine swp_reg ?_
  refine SRun.ck tbok 1 ⟨36, [(0, vs aS), (1, .tr (.int .u8 aBy)), (5, .own 8), (6, vi 0)], [(8, .arr 9 1 ([] : List ByteArray).length (([] : List ByteArray).map eS))]⟩ ?_
  refine SRun.nil ?_
  refine nx_n ?_
  refine swp_seq ?_
  refine swp_seq ?_
  refine swp_reg ?_
  refine SRun.ck tbok 1 ⟨36, [(0, vs aS), (1, .tr (.int .u8 aBy)), (5, .own 8), (6, vi 0), (7, vi 0)], [(8, .arr 9 1 ([] : List ByteArray).length (([] : List ByteArray).map eS))]⟩ ?_
  refine SRun.nil ?_
  refine nx_n ?_
  refine swp_seqJ h (fun j1 => ⟨36, [(5, .own 5)], [(5, .arr 9 1 j1.length (j1.map eS))]⟩) (fun v2 h => ?_) (fun j1 h => ?_)
  refine swp_blk (a := v2) ?_
  refine swp_lpL (r := v2) (s := (0, 0, ([] : List ByteArray))) _ (fun s3 => ⟨36, [(0, vs aS), (1, .tr (.int .u8 aBy)), (5, .own 5), (6, vi s3.2.1), (7, vi s3.1)], [(5, .arr 9 1 s3.2.2.length (s3.2.2.map eS))]⟩) _ ((Le.sub' ([(0, vs aS), (1, .tr (.int .u8 aBy)), (5, .own 8), (6, vi 0), (7, vi 0)] : List (Nat × SV)) ([(8, .arr 9 1 ([] : List ByteArray).length (([] : List ByteArray).map eS))] : List (Nat × SO)) (by kernel_rfl) (by kernel_rfl)).trans ((Le.ren' (d := 8) (e := 5) (by kernel_rfl) (by kernel_rfl) (by kernel_rfl)).trans (Le.sub0))) h (fun s3 v4 h => ?_)
  refine swp_seq ?_
  refine swp_seq ?_
  refine swp_reg ?_
  refine SRun.ck tbok 4 ⟨36, [(0, vs aS), (1, .tr (.int .u8 aBy)), (5, .own 5), (6, vi s3.2.1), (7, vi s3.1), (12, vb (decide (s3.1 ≤ (aS.size : Int))))], [(5, .arr 9 1 s3.2.2.length (s3.2.2.map eS))]⟩ ?_
  refine SRun.nil ?_
  refine nx_n ?_
  refine swp_cond (b := (decide (s3.1 ≤ (aS.size : Int)))) (by kernel_rfl) (fun hb => ?_) (fun hb => ?_)
  replace h := cond_t hb h
  refine swp_skip ?_
  refine nx_n ?_
  refine swp_seq ?_
  refine swp_seqJ h (fun j5 => ⟨36, [(0, vs aS), (1, .tr (.int .u8 aBy)), (5, .own 5), (6, vi j5.1), (7, vi s3.1)], [(5, .arr 9 1 j5.2.length (j5.2.map eS))]⟩) (fun v6 h => ?_) (fun j5 h => ?_)
  refine swp_blk (a := v6) ?_
  refine swp_seq ?_
  refine swp_regJ h (fun j8 => ⟨36, [(0, vs aS), (1, .tr (.int .u8 aBy)), (5, .own 5), (6, vi s3.2.1), (7, vi s3.1), (25, vb j8)], [(5, .arr 9 1 s3.2.2.length (s3.2.2.map eS))]⟩) (fun v9 h => ?_) (fun j8 h => ?_)
  refine SRun.ck tbok 5 ⟨36, [(0, vs aS), (1, .tr (.int .u8 aBy)), (5, .own 5), (6, vi s3.2.1), (7, vi s3.1), (19, vb (s3.1 == (aS.size : Int)))], [(5, .arr 9 1 s3.2.2.length (s3.2.2.map eS))]⟩ ?_
  refine SRun.cut [(19, fun b => b)] (b := (s3.1 == (aS.size : Int))) (by kernel_rfl) (fun hb => ?_) (fun hb => ?_)
  replace h := cond_t hb h
  refine SRun.ck tbok 6 ⟨36, [(0, vs aS), (1, .tr (.int .u8 aBy)), (5, .own 5), (6, vi s3.2.1), (7, vi s3.1), (25, vb true)], [(5, .arr 9 1 s3.2.2.length (s3.2.2.map eS))]⟩ ?_
  refine SRun.nil ?_
  replace h := Option.some.inj h
  subst h
  exact Le.sub0
  replace h := cond_f hb h
  refine SRun.ck tbok 2 ⟨36, [(0, vs aS), (1, .tr (.int .u8 aBy)), (5, .own 5), (6, vi s3.2.1), (7, vi s3.1), (19, vb false), (20, vs aS), (21, vi s3.1)], [(5, .arr 9 1 s3.2.2.length (s3.2.2.map eS))]⟩ ?_
  obtain ⟨x7, hx7, h⟩ := bind_some h
  refine SRun.ls (x_byte (ti := ti9) (k := .i64) hx7 tbok rfl) ?_
  refine SRun.ck tbok 3 ⟨36, [(0, vs aS), (1, .tr (.int .u8 aBy)), (5, .own 5), (6, vi s3.2.1), (7, vi s3.1), (25, vb (x7 == aBy))], [(5, .arr 9 1 s3.2.2.length (s3.2.2.map eS))]⟩ ?_
  refine SRun.nil ?_
  replace h := Option.some.inj h
  subst h
  exact Le.sub0
  refine swp_cond (b := j8) (by kernel_rfl) (fun hb => ?_) (fun hb => ?_)
  replace h := cond_t hb h
  refine swp_seq ?_
  refine swp_reg ?_
  refine SRun.ck tbok 4 ⟨36, [(0, vs aS), (1, .tr (.int .u8 aBy)), (7, vi s3.1), (26, .own 5), (27, vs aS), (28, vi s3.2.1), (29, vi s3.1)], [(5, .arr 9 1 s3.2.2.length (s3.2.2.map eS))]⟩ ?_
  obtain ⟨x10, hx10, h⟩ := bind_some h
  refine SRun.ls (x_sub (ti := ti9) hx10 tbok rfl) ?_
  refine SRun.ck tbok 1 ⟨36, [(0, vs aS), (1, .tr (.int .u8 aBy)), (7, vi s3.1), (26, .own 5), (31, .own 31)], [(5, .arr 9 1 s3.2.2.length (s3.2.2.map eS)), (31, .arr 9 1 ([x10] : List ByteArray).length (([x10] : List ByteArray).map eS))]⟩ ?_
  obtain ⟨x11, hx11, h⟩ := bind_some h
  refine SRun.estep (x_append (f := eS) (t := 51) (ti := ti51) (tj := ti9) (zs := [.string (ByteArray.mk #[])]) (e := 9) (m := 1) (d := 5) (xv := .own 31) hx11 tbok rfl rfl rfl rfl (x_src_o (e := 9))) ?_
  refine SRun.ck tbok 1 ⟨36, [(0, vs aS), (1, .tr (.int .u8 aBy)), (5, .own 32), (7, vi s3.1)], [(32, .arr 9 1 x11.length (x11.map eS))]⟩ ?_
  refine SRun.nil ?_
  refine nx_n ?_
  refine swp_reg ?_
  refine SRun.ck tbok 3 ⟨36, [(0, vs aS), (1, .tr (.int .u8 aBy)), (5, .own 32), (6, vi (w64 (s3.1 + 1))), (7, vi s3.1)], [(32, .arr 9 1 x11.length (x11.map eS))]⟩ ?_
  refine SRun.nil ?_
  replace h := Option.some.inj h
  subst h
  exact q_bn (q_j ((Le.sub' ([(0, vs aS), (1, .tr (.int .u8 aBy)), (5, .own 32), (6, vi (w64 (s3.1 + 1))), (7, vi s3.1)] : List (Nat × SV)) ([(32, .arr 9 1 x11.length (x11.map eS))] : List (Nat × SO)) (by kernel_rfl) (by kernel_rfl)).trans ((Le.ren' (d := 32) (e := 5) (by kernel_rfl) (by kernel_rfl) (by kernel_rfl)).trans (Le.sub0))))
  replace h := cond_f hb h
  refine swp_skip ?_
  replace h := Option.some.inj h
  subst h
  exact q_bn (q_j (Le.sub0))
  refine swp_reg ?_
  refine SRun.ck tbok 3 ⟨36, [(0, vs aS), (1, .tr (.int .u8 aBy)), (5, .own 5), (6, vi j5.1), (7, vi (w64 (s3.1 + 1)))], [(5, .arr 9 1 j5.2.length (j5.2.map eS))]⟩ ?_
  refine SRun.nil ?_
  replace h := Option.some.inj h
  subst h
  exact q_l (Le.sub0)
  replace h := cond_f hb h
  refine swp_exit ?_
  replace h := Option.some.inj h
  subst h
  exact nx_e (q_re (q_bh (q_j (Le.sub0))))
  refine swp_seq ?_
  refine swp_reg ?_
  refine SRun.ck tbok 2 ⟨36, [(4, .own 5)], [(5, .arr 9 1 j1.length (j1.map eS))]⟩ ?_
  refine SRun.nil ?_
  refine nx_n ?_
  refine swp_ret ?_
  replace h := Option.some.inj h
  subst h
  exact q_fr (fin1 (by kernel_rfl) (finO (d := 5) (holds_t (by kernel_rfl)) (by kernel_rfl) (flat_map eS_flat _) (by kernel_rfl)))
theorem ents62 : Ents Tryd.prog 62 := ents_of Tryd.func62 (by kernel_rfl) rfl
noncomputable def spec_l01Phrase (aS : ByteArray) : Option ((List ByteArray) × Bool) :=
  ((spec_l01Split aS 32).bind fun x1 => (((forN (x1.length : Int) (fun (i4 : Int) (_ : Unit) => ((at' x1 i4).bind fun x8 => ((spec_IsWord x8).bind fun x9 => (bif (!x9) then some (.inr (.inr (([] : List ByteArray), false))) else some (.inl ()))))) (fun (_ : Unit) => .inl ()) 0 ())).bind (Sum.elim (fun (_ : Unit) => some (x1, (decide ((x1.length : Int) ≤ 8)))) some)))
set_option maxRecDepth 100000 in
set_option maxHeartbeats 4000000 in
theorem spec_l01Phrase_run (aS : ByteArray) (r : (List ByteArray) × Bool) (h : spec_l01Phrase aS = some r) : SCall Tryd.prog 53 [.v (vs aS)] ⟨[.own 9 1 r.1.length (r.1.map eS), .v (vb r.2)], [], false⟩ := by
  refine scall_in Tryd.func53 rfl [(.tmp 2), (.tmp 3)] rfl (fun r => ⟨[.own 9 1 r.1.length (r.1.map eS), .v (vb r.2)], [], false⟩) (r := r) ?_
  unfold spec_l01Phrase at h
  refine swp_seq ?_
  refine swp_reg ?_
  refine SRun.ck tbok 2 ⟨24, [(0, vs aS)], []⟩ ?_
  refine SRun.nil ?_
  refine nx_n ?_
  refine swp_seq ?_
  refine swp_reg ?_
  refine SRun.ck tbok 1 ⟨24, [(6, vs aS)], []⟩ ?_
  obtain ⟨x1, hx1, h⟩ := bind_some h
  refine SRun.ls (x_lstep_call (f := 62) (caps := []) (xs := [vs aS, .tr (.int .u8 32)]) (ys := [vs aS, .tr (.int .u8 32)]) (res := ⟨[.own 9 1 x1.length (x1.map eS)], [], false⟩) (x := .own 7) (y := some (.arr 9 1 x1.length (x1.map eS))) rfl ents62 (spec_l01Split_run aS 32 _ hx1) rfl (by intro hc; cases hc)) ?_
  refine SRun.ck tbok 1 ⟨24, [(4, .own 7)], [(7, .arr 9 1 x1.length (x1.map eS))]⟩ ?_
  refine SRun.nil ?_
  refine nx_n ?_
  refine swp_seq ?_
  refine swp_seq ?_
  refine swp_reg ?_
  refine SRun.ck tbok 1 ⟨24, [(4, .own 7), (5, vi 0)], [(7, .arr 9 1 x1.length (x1.map eS))]⟩ ?_
  refine SRun.nil ?_
  refine nx_n ?_
  refine swp_seqE (r := r) h (fun j2 => ⟨24, [(4, .own 4)], [(4, .arr 9 1 x1.length (x1.map eS))]⟩) (fun v3 h => ?_) (fun j2 h => ?_)
  refine swp_blk (a := v3) ?_
  refine swp_lpL (r := v3) (s := (0, ())) _ (fun s4 => ⟨24, [(4, .own 4), (5, vi s4.1)], [(4, .arr 9 1 x1.length (x1.map eS))]⟩) _ ((Le.sub' ([(4, .own 7), (5, vi 0)] : List (Nat × SV)) ([(7, .arr 9 1 x1.length (x1.map eS))] : List (Nat × SO)) (by kernel_rfl) (by kernel_rfl)).trans ((Le.ren' (d := 7) (e := 4) (by kernel_rfl) (by kernel_rfl) (by kernel_rfl)).trans (Le.sub0))) h (fun s4 v5 h => ?_)
  refine swp_seq ?_
  refine swp_seq ?_
  refine swp_reg ?_
  refine SRun.ck tbok 4 ⟨24, [(4, .own 4), (5, vi s4.1), (11, vb (decide (s4.1 < (x1.length : Int))))], [(4, .arr 9 1 x1.length (x1.map eS))]⟩ ?_
  refine SRun.nil ?_
  refine nx_n ?_
  refine swp_cond (b := (decide (s4.1 < (x1.length : Int)))) (by kernel_rfl) (fun hb => ?_) (fun hb => ?_)
  replace h := cond_t hb h
  refine swp_skip ?_
  refine nx_n ?_
  refine swp_seq ?_
  refine swp_seqL (r := v5) h (fun j6 => ⟨24, [(4, .own 4), (5, vi s4.1)], [(4, .arr 9 1 x1.length (x1.map eS))]⟩) (fun v7 h => ?_) (fun j6 h => ?_)
  refine swp_blk (a := v7) ?_
  refine swp_seq ?_
  refine swp_reg ?_
  refine SRun.ck tbok 2 ⟨24, [(4, .own 4), (5, vi s4.1), (14, .own 4), (15, vi s4.1)], [(4, .arr 9 1 x1.length (x1.map eS))]⟩ ?_
  obtain ⟨x8, hx8, h⟩ := bind_some h
  refine SRun.ls (x_index_own (d := 4) (L := x1) (f := eS) (ti := ti51) (tj := ti9) (e := 9) (e' := 9) (m := 1) (k := .i64) tbok rfl hx8) ?_
  refine SRun.ls (x_load_own (d := 4) (m := 1) (j := 0) (L := x1) (f := eS) (ti := ti9) (e := 9) (v := vs x8) tbok rfl hx8) ?_
  obtain ⟨x9, hx9, h⟩ := bind_some h
  refine SRun.ls (x_lstep_call (f := 27) (caps := []) (xs := [vs x8]) (ys := [vs x8]) (res := ⟨[.v (vb x9)], [], false⟩) (x := vb x9) (y := none) rfl ents27 (spec_IsWord_run x8 _ hx9) rfl (by intro hc; cases hc)) ?_
  refine SRun.ck tbok 1 ⟨24, [(4, .own 4), (5, vi s4.1), (19, vb (!x9))], [(4, .arr 9 1 x1.length (x1.map eS))]⟩ ?_
  refine SRun.nil ?_
  refine nx_n ?_
  refine swp_cond (b := (!x9)) (by kernel_rfl) (fun hb => ?_) (fun hb => ?_)
  replace h := cond_t hb h
  refine swp_seq ?_
  refine swp_reg ?_
  refine SRun.ck tbok 2 ⟨24, [(2, .own 2), (3, vb false)], [(2, .arr 9 1 ([] : List ByteArray).length (([] : List ByteArray).map eS))]⟩ ?_
  refine SRun.nil ?_
  refine nx_n ?_
  refine swp_ret ?_
  replace h := Option.some.inj h
  subst h
  exact q_br (q_rr (q_rr (q_br (q_rr (q_fr (fin2 (by kernel_rfl) (finO (d := 2) (holds_t (by kernel_rfl)) (by kernel_rfl) (flat_map eS_flat _) (by kernel_rfl)) (finV rfl SV.flat_of (holds_t (by kernel_rfl)))))))))
  replace h := cond_f hb h
  refine swp_skip ?_
  replace h := Option.some.inj h
  subst h
  exact q_bn (q_l (Le.sub0))
  refine swp_reg ?_
  refine SRun.ck tbok 3 ⟨24, [(4, .own 4), (5, vi (w64 (s4.1 + 1)))], [(4, .arr 9 1 x1.length (x1.map eS))]⟩ ?_
  refine SRun.nil ?_
  replace h := Option.some.inj h
  subst h
  exact q_l (Le.sub0)
  replace h := cond_f hb h
  refine swp_exit ?_
  replace h := Option.some.inj h
  subst h
  exact nx_e (q_re (q_bh (q_l (Le.sub0))))
  refine swp_seq ?_
  refine swp_reg ?_
  refine SRun.ck tbok 6 ⟨24, [(2, .own 4), (3, vb (decide ((x1.length : Int) ≤ 8)))], [(4, .arr 9 1 x1.length (x1.map eS))]⟩ ?_
  refine SRun.nil ?_
  refine nx_n ?_
  refine swp_ret ?_
  replace h := Option.some.inj h
  subst h
  exact q_fr (fin2 (by kernel_rfl) (finO (d := 4) (holds_t (by kernel_rfl)) (by kernel_rfl) (flat_map eS_flat _) (by kernel_rfl)) (finV rfl SV.flat_of (holds_t (by kernel_rfl))))
theorem ents53 : Ents Tryd.prog 53 := ents_of Tryd.func53 (by kernel_rfl) rfl
noncomputable def spec_IsPhrase (aS : ByteArray) : Option (Bool) :=
  ((spec_l01Phrase aS).bind fun x1 => some x1.2)
set_option maxRecDepth 100000 in
set_option maxHeartbeats 4000000 in
theorem spec_IsPhrase_run (aS : ByteArray) (r : Bool) (h : spec_IsPhrase aS = some r) : SCall Tryd.prog 46 [.v (vs aS)] ⟨[.v (vb r)], [], false⟩ := by
  refine scall_in Tryd.func46 rfl [(.tmp 2)] rfl (fun r => ⟨[.v (vb r)], [], false⟩) (r := r) ?_
  unfold spec_IsPhrase at h
  refine swp_seq ?_
  refine swp_reg ?_
  refine SRun.ck tbok 1 ⟨11, [(0, vs aS)], []⟩ ?_
  refine SRun.nil ?_
  refine nx_n ?_
  refine swp_seq ?_
  refine swp_reg ?_
  refine SRun.ck tbok 1 ⟨11, [(6, vs aS)], []⟩ ?_
  obtain ⟨x1, hx1, h⟩ := bind_some h
  refine SRun.ls (x_lstep_call (f := 53) (caps := []) (xs := [vs aS]) (ys := [vs aS]) (res := ⟨[.own 9 1 x1.1.length (x1.1.map eS), .v (vb x1.2)], [], false⟩) (x := .tup [.own 7, vb x1.2]) (y := some (.arr 9 1 x1.1.length (x1.1.map eS))) rfl ents53 (spec_l01Phrase_run aS _ hx1) rfl (by intro hc; cases hc)) ?_
  refine SRun.ck tbok 5 ⟨11, [(4, vb x1.2)], []⟩ ?_
  refine SRun.nil ?_
  refine nx_n ?_
  refine swp_seq ?_
  refine swp_reg ?_
  refine SRun.ck tbok 2 ⟨11, [(2, vb x1.2)], []⟩ ?_
  refine SRun.nil ?_
  refine nx_n ?_
  refine swp_ret ?_
  replace h := Option.some.inj h
  subst h
  exact q_fr (fin1 (by kernel_rfl) (finV rfl SV.flat_of (holds_t (by kernel_rfl))))
theorem ents46 : Ents Tryd.prog 46 := ents_of Tryd.func46 (by kernel_rfl) rfl
noncomputable def spec_IsClaim (aC : Claim) : Option (Bool) :=
  ((((spec_IsWord aC.Source).bind fun x1 => (bif (!x1) then some true else ((spec_IsWord aC.Place).bind fun x2 => (bif (!x2) then some true else ((spec_IsSpan aC.Years).bind fun x3 => (bif (!x3) then some true else ((spec_l01In aC.Weight 1 100).bind fun x4 => some (!x4))))))))).bind fun (j5 : Bool) => (bif j5 then some false else (((bif (aC.Kind == 0) then ((spec_IsPhrase aC.Value).bind fun x9 => some (.inr x9)) else (bif (aC.Kind == 1) then ((((spec_IsWord aC.Value).bind fun x10 => (bif x10 then some (!(aC.Value.toList == aC.Place.toList)) else some false))).bind fun (j11 : Bool) => some (.inr j11)) else (((bif (aC.Kind == 2) then some (aC.Kind == 2) else some (aC.Kind == 3))).bind fun (j13 : Bool) => (bif j13 then some (.inr (aC.Value.toList == (ByteArray.mk #[]).toList)) else some (.inl ())))))).bind (Sum.elim (fun (_ : Unit) => some false) some))))
set_option maxRecDepth 100000 in
set_option maxHeartbeats 4000000 in
theorem spec_IsClaim_run (aC : Claim) (r : Bool) (h : spec_IsClaim aC = some r) : SCall Tryd.prog 36 [.v (.agg [vs aC.Source, vi aC.Kind, vs aC.Place, vs aC.Value, vi aC.Years.From, vi aC.Years.To, vi aC.Weight])] ⟨[.v (vb r)], [], false⟩ := by
  refine scall_in Tryd.func36 rfl [(.tmp 2)] rfl (fun r => ⟨[.v (vb r)], [], false⟩) (r := r) ?_
  unfold spec_IsClaim at h
  refine swp_seq ?_
  refine swp_reg ?_
  refine SRun.ck tbok 2 ⟨50, [(1, .ref 1 0)], [(1, .box [vs aC.Source, vi aC.Kind, vs aC.Place, vs aC.Value, vi aC.Years.From, vi aC.Years.To, vi aC.Weight])]⟩ ?_
  refine SRun.nil ?_
  refine nx_n ?_
  refine swp_seq ?_
  refine swp_seq ?_
  refine swp_regJ h (fun j5 => ⟨50, [(1, .ref 1 0), (24, vb j5)], [(1, .box [vs aC.Source, vi aC.Kind, vs aC.Place, vs aC.Value, vi aC.Years.From, vi aC.Years.To, vi aC.Weight])]⟩) (fun v6 h => ?_) (fun j5 h => ?_)
  refine SRun.ck tbok 2 ⟨50, [(1, .ref 1 0), (4, vs aC.Source)], [(1, .box [vs aC.Source, vi aC.Kind, vs aC.Place, vs aC.Value, vi aC.Years.From, vi aC.Years.To, vi aC.Weight])]⟩ ?_
  obtain ⟨x1, hx1, h⟩ := bind_some h
  refine SRun.ls (x_lstep_call (f := 27) (caps := []) (xs := [vs aC.Source]) (ys := [vs aC.Source]) (res := ⟨[.v (vb x1)], [], false⟩) (x := vb x1) (y := none) rfl ents27 (spec_IsWord_run aC.Source _ hx1) rfl (by intro hc; cases hc)) ?_
  refine SRun.ck tbok 2 ⟨50, [(1, .ref 1 0), (7, vb (!x1))], [(1, .box [vs aC.Source, vi aC.Kind, vs aC.Place, vs aC.Value, vi aC.Years.From, vi aC.Years.To, vi aC.Weight])]⟩ ?_
  refine SRun.cut [(7, fun b => b)] (b := (!x1)) (by kernel_rfl) (fun hb => ?_) (fun hb => ?_)
  replace h := cond_t hb h
  refine SRun.ck tbok 17 ⟨50, [(1, .ref 1 0), (24, vb true)], [(1, .box [vs aC.Source, vi aC.Kind, vs aC.Place, vs aC.Value, vi aC.Years.From, vi aC.Years.To, vi aC.Weight])]⟩ ?_
  refine SRun.nil ?_
  replace h := Option.some.inj h
  subst h
  exact Le.sub0
  replace h := cond_f hb h
  refine SRun.ck tbok 2 ⟨50, [(1, .ref 1 0), (7, vb false), (9, vs aC.Place)], [(1, .box [vs aC.Source, vi aC.Kind, vs aC.Place, vs aC.Value, vi aC.Years.From, vi aC.Years.To, vi aC.Weight])]⟩ ?_
  obtain ⟨x2, hx2, h⟩ := bind_some h
  refine SRun.ls (x_lstep_call (f := 27) (caps := []) (xs := [vs aC.Place]) (ys := [vs aC.Place]) (res := ⟨[.v (vb x2)], [], false⟩) (x := vb x2) (y := none) rfl ents27 (spec_IsWord_run aC.Place _ hx2) rfl (by intro hc; cases hc)) ?_
  refine SRun.ck tbok 3 ⟨50, [(1, .ref 1 0), (13, vb (!x2))], [(1, .box [vs aC.Source, vi aC.Kind, vs aC.Place, vs aC.Value, vi aC.Years.From, vi aC.Years.To, vi aC.Weight])]⟩ ?_
  refine SRun.cut [(13, fun b => b)] (b := (!x2)) (by kernel_rfl) (fun hb => ?_) (fun hb => ?_)
  replace h := cond_t hb h
  refine SRun.ck tbok 11 ⟨50, [(1, .ref 1 0), (24, vb true)], [(1, .box [vs aC.Source, vi aC.Kind, vs aC.Place, vs aC.Value, vi aC.Years.From, vi aC.Years.To, vi aC.Weight])]⟩ ?_
  refine SRun.nil ?_
  replace h := Option.some.inj h
  subst h
  exact Le.sub0
  replace h := cond_f hb h
  refine SRun.ck tbok 2 ⟨50, [(1, .ref 1 0), (13, vb false), (15, .agg [vi aC.Years.From, vi aC.Years.To])], [(1, .box [vs aC.Source, vi aC.Kind, vs aC.Place, vs aC.Value, vi aC.Years.From, vi aC.Years.To, vi aC.Weight])]⟩ ?_
  obtain ⟨x3, hx3, h⟩ := bind_some h
  refine SRun.ls (x_lstep_call (f := 45) (caps := []) (xs := [.agg [vi aC.Years.From, vi aC.Years.To]]) (ys := [.agg [vi aC.Years.From, vi aC.Years.To]]) (res := ⟨[.v (vb x3)], [], false⟩) (x := vb x3) (y := none) rfl ents45 (spec_IsSpan_run aC.Years _ hx3) rfl (by intro hc; cases hc)) ?_
  refine SRun.ck tbok 3 ⟨50, [(1, .ref 1 0), (19, vb (!x3))], [(1, .box [vs aC.Source, vi aC.Kind, vs aC.Place, vs aC.Value, vi aC.Years.From, vi aC.Years.To, vi aC.Weight])]⟩ ?_
  refine SRun.cut [(19, fun b => b)] (b := (!x3)) (by kernel_rfl) (fun hb => ?_) (fun hb => ?_)
  replace h := cond_t hb h
  refine SRun.ck tbok 5 ⟨50, [(1, .ref 1 0), (24, vb true)], [(1, .box [vs aC.Source, vi aC.Kind, vs aC.Place, vs aC.Value, vi aC.Years.From, vi aC.Years.To, vi aC.Weight])]⟩ ?_
  refine SRun.nil ?_
  replace h := Option.some.inj h
  subst h
  exact Le.sub0
  replace h := cond_f hb h
  refine SRun.ck tbok 2 ⟨50, [(1, .ref 1 0), (19, vb false), (21, vi aC.Weight)], [(1, .box [vs aC.Source, vi aC.Kind, vs aC.Place, vs aC.Value, vi aC.Years.From, vi aC.Years.To, vi aC.Weight])]⟩ ?_
  obtain ⟨x4, hx4, h⟩ := bind_some h
  refine SRun.ls (x_lstep_call (f := 21) (caps := []) (xs := [vi aC.Weight, vi 1, vi 100]) (ys := [vi aC.Weight, vi 1, vi 100]) (res := ⟨[.v (vb x4)], [], false⟩) (x := vb x4) (y := none) rfl ents21 (spec_l01In_run aC.Weight 1 100 _ hx4) rfl (by intro hc; cases hc)) ?_
  refine SRun.ck tbok 2 ⟨50, [(1, .ref 1 0), (24, vb (!x4))], [(1, .box [vs aC.Source, vi aC.Kind, vs aC.Place, vs aC.Value, vi aC.Years.From, vi aC.Years.To, vi aC.Weight])]⟩ ?_
  refine SRun.nil ?_
  replace h := Option.some.inj h
  subst h
  exact Le.sub0
  refine swp_cond (b := j5) (by kernel_rfl) (fun hb => ?_) (fun hb => ?_)
  replace h := cond_t hb h
  refine swp_seq ?_
  refine swp_reg ?_
  refine SRun.ck tbok 1 ⟨50, [(2, vb false)], []⟩ ?_
  refine SRun.nil ?_
  refine nx_n ?_
  refine swp_ret ?_
  replace h := Option.some.inj h
  subst h
  exact nx_r (q_fr (fin1 (by kernel_rfl) (finV rfl SV.flat_of (holds_t (by kernel_rfl)))))
  replace h := cond_f hb h
  refine swp_skip ?_
  refine nx_n ?_
  refine swp_seq ?_
  refine swp_seq ?_
  refine swp_reg ?_
  refine SRun.ck tbok 2 ⟨50, [(1, .ref 1 0), (26, vi aC.Kind)], [(1, .box [vs aC.Source, vi aC.Kind, vs aC.Place, vs aC.Value, vi aC.Years.From, vi aC.Years.To, vi aC.Weight])]⟩ ?_
  refine SRun.nil ?_
  refine nx_n ?_
  refine swp_seqE (r := r) h (fun j7 => ⟨50, [], []⟩) (fun v8 h => ?_) (fun j7 h => ?_)
  refine swp_blk (a := v8) ?_
  refine swp_seq ?_
  refine swp_reg ?_
  refine SRun.ck tbok 2 ⟨50, [(1, .ref 1 0), (26, vi aC.Kind), (27, vb (aC.Kind == 0))], [(1, .box [vs aC.Source, vi aC.Kind, vs aC.Place, vs aC.Value, vi aC.Years.From, vi aC.Years.To, vi aC.Weight])]⟩ ?_
  refine SRun.nil ?_
  refine nx_n ?_
  refine swp_cond (b := (aC.Kind == 0)) (by kernel_rfl) (fun hb => ?_) (fun hb => ?_)
  replace h := cond_t hb h
  refine swp_seq ?_
  refine swp_reg ?_
  refine SRun.ck tbok 2 ⟨50, [(30, vs aC.Value)], []⟩ ?_
  obtain ⟨x9, hx9, h⟩ := bind_some h
  refine SRun.ls (x_lstep_call (f := 46) (caps := []) (xs := [vs aC.Value]) (ys := [vs aC.Value]) (res := ⟨[.v (vb x9)], [], false⟩) (x := vb x9) (y := none) rfl ents46 (spec_IsPhrase_run aC.Value _ hx9) rfl (by intro hc; cases hc)) ?_
  refine SRun.ck tbok 1 ⟨50, [(2, vb x9)], []⟩ ?_
  refine SRun.nil ?_
  refine nx_n ?_
  refine swp_ret ?_
  replace h := Option.some.inj h
  subst h
  exact q_br (q_rr (q_fr (fin1 (by kernel_rfl) (finV rfl SV.flat_of (holds_t (by kernel_rfl))))))
  replace h := cond_f hb h
  refine swp_seq ?_
  refine swp_reg ?_
  refine SRun.ck tbok 2 ⟨50, [(1, .ref 1 0), (26, vi aC.Kind), (32, vb (aC.Kind == 1))], [(1, .box [vs aC.Source, vi aC.Kind, vs aC.Place, vs aC.Value, vi aC.Years.From, vi aC.Years.To, vi aC.Weight])]⟩ ?_
  refine SRun.nil ?_
  refine nx_n ?_
  refine swp_cond (b := (aC.Kind == 1)) (by kernel_rfl) (fun hb => ?_) (fun hb => ?_)
  replace h := cond_t hb h
  refine swp_seq ?_
  refine swp_regJ h (fun j11 => ⟨50, [(2, vb j11)], []⟩) (fun v12 h => ?_) (fun j11 h => ?_)
  refine SRun.ck tbok 2 ⟨50, [(1, .ref 1 0), (35, vs aC.Value)], [(1, .box [vs aC.Source, vi aC.Kind, vs aC.Place, vs aC.Value, vi aC.Years.From, vi aC.Years.To, vi aC.Weight])]⟩ ?_
  obtain ⟨x10, hx10, h⟩ := bind_some h
  refine SRun.ls (x_lstep_call (f := 27) (caps := []) (xs := [vs aC.Value]) (ys := [vs aC.Value]) (res := ⟨[.v (vb x10)], [], false⟩) (x := vb x10) (y := none) rfl ents27 (spec_IsWord_run aC.Value _ hx10) rfl (by intro hc; cases hc)) ?_
  refine SRun.ck tbok 1 ⟨50, [(1, .ref 1 0), (37, vb x10)], [(1, .box [vs aC.Source, vi aC.Kind, vs aC.Place, vs aC.Value, vi aC.Years.From, vi aC.Years.To, vi aC.Weight])]⟩ ?_
  refine SRun.cut [(37, fun b => b)] (b := x10) (by kernel_rfl) (fun hb => ?_) (fun hb => ?_)
  replace h := cond_t hb h
  refine SRun.ck tbok 7 ⟨50, [(2, vb (!(aC.Value.toList == aC.Place.toList)))], []⟩ ?_
  refine SRun.nil ?_
  replace h := Option.some.inj h
  subst h
  exact Le.sub0
  replace h := cond_f hb h
  refine SRun.ck tbok 7 ⟨50, [(2, vb false)], []⟩ ?_
  refine SRun.nil ?_
  replace h := Option.some.inj h
  subst h
  exact Le.sub0
  refine swp_ret ?_
  replace h := Option.some.inj h
  subst h
  exact q_br (q_rr (q_fr (fin1 (by kernel_rfl) (finV rfl SV.flat_of (holds_t (by kernel_rfl))))))
  replace h := cond_f hb h
  refine swp_seq ?_
  refine swp_seq ?_
  refine swp_reg ?_
  refine SRun.ck tbok 2 ⟨50, [(1, .ref 1 0), (26, vi aC.Kind), (44, vb (aC.Kind == 2))], [(1, .box [vs aC.Source, vi aC.Kind, vs aC.Place, vs aC.Value, vi aC.Years.From, vi aC.Years.To, vi aC.Weight])]⟩ ?_
  refine SRun.nil ?_
  refine nx_n ?_
  refine swp_seqJ h (fun j13 => ⟨50, [(1, .ref 1 0), (44, vb j13)], [(1, .box [vs aC.Source, vi aC.Kind, vs aC.Place, vs aC.Value, vi aC.Years.From, vi aC.Years.To, vi aC.Weight])]⟩) (fun v14 h => ?_) (fun j13 h => ?_)
  refine swp_cond (b := (aC.Kind == 2)) (by kernel_rfl) (fun hb => ?_) (fun hb => ?_)
  replace h := cond_t hb h
  refine swp_skip ?_
  replace h := Option.some.inj h
  subst h
  exact q_j (Le.sub0)
  replace h := cond_f hb h
  refine swp_reg ?_
  refine SRun.ck tbok 2 ⟨50, [(1, .ref 1 0), (44, vb (aC.Kind == 3))], [(1, .box [vs aC.Source, vi aC.Kind, vs aC.Place, vs aC.Value, vi aC.Years.From, vi aC.Years.To, vi aC.Weight])]⟩ ?_
  refine SRun.nil ?_
  replace h := Option.some.inj h
  subst h
  exact q_j (Le.sub0)
  refine swp_cond (b := j13) (by kernel_rfl) (fun hb => ?_) (fun hb => ?_)
  replace h := cond_t hb h
  refine swp_seq ?_
  refine swp_reg ?_
  refine SRun.ck tbok 4 ⟨50, [(2, vb (aC.Value.toList == (ByteArray.mk #[]).toList))], []⟩ ?_
  refine SRun.nil ?_
  refine nx_n ?_
  refine swp_ret ?_
  replace h := Option.some.inj h
  subst h
  exact q_br (q_rr (q_fr (fin1 (by kernel_rfl) (finV rfl SV.flat_of (holds_t (by kernel_rfl))))))
  replace h := cond_f hb h
  refine swp_skip ?_
  replace h := Option.some.inj h
  subst h
  exact q_bn (q_l (Le.sub0))
  refine swp_seq ?_
  refine swp_reg ?_
  refine SRun.ck tbok 1 ⟨50, [(2, vb false)], []⟩ ?_
  refine SRun.nil ?_
  refine nx_n ?_
  refine swp_ret ?_
  replace h := Option.some.inj h
  subst h
  exact q_fr (fin1 (by kernel_rfl) (finV rfl SV.flat_of (holds_t (by kernel_rfl))))
theorem ents36 : Ents Tryd.prog 36 := ents_of Tryd.func36 (by kernel_rfl) rfl
noncomputable def spec_AreClaims (aList : (List Claim)) : Option (Bool) :=
  (((forN (aList.length : Int) (fun (i3 : Int) (_ : Unit) => ((at' aList i3).bind fun x7 => ((spec_IsClaim x7).bind fun x8 => (bif (!x8) then some (.inr (.inr false)) else some (.inl ()))))) (fun (_ : Unit) => .inl ()) 0 ())).bind (Sum.elim (fun (_ : Unit) => some (decide ((aList.length : Int) ≤ 12))) some))
set_option maxRecDepth 100000 in
set_option maxHeartbeats 4000000 in
theorem spec_AreClaims_run (aList : (List Claim)) (r : Bool) (h : spec_AreClaims aList = some r) : SCall Tryd.prog 26 [.v (vl eClaim aList)] ⟨[.v (vb r)], [], false⟩ := by
  refine scall_in Tryd.func26 rfl [(.tmp 2)] rfl (fun r => ⟨[.v (vb r)], [], false⟩) (r := r) ?_
  unfold spec_AreClaims at h
  refine swp_seq ?_
  refine swp_reg ?_
  refine SRun.ck tbok 1 ⟨19, [(0, vl eClaim aList)], []⟩ ?_
  refine SRun.nil ?_
  refine nx_n ?_
  refine swp_seq ?_
  refine swp_seq ?_
  refine swp_reg ?_
  refine SRun.ck tbok 1 ⟨19, [(0, vl eClaim aList), (3, vi 0)], []⟩ ?_
  refine SRun.nil ?_
  refine nx_n ?_
  refine swp_seqE (r := r) h (fun j1 => ⟨19, [(0, vl eClaim aList)], []⟩) (fun v2 h => ?_) (fun j1 h => ?_)
  refine swp_blk (a := v2) ?_
  refine swp_lpL (r := v2) (s := (0, ())) _ (fun s3 => ⟨19, [(0, vl eClaim aList), (3, vi s3.1)], []⟩) _ (Le.sub0) h (fun s3 v4 h => ?_)
  refine swp_seq ?_
  refine swp_seq ?_
  refine swp_reg ?_
  refine SRun.ck tbok 4 ⟨19, [(0, vl eClaim aList), (3, vi s3.1), (7, vb (decide (s3.1 < (aList.length : Int))))], []⟩ ?_
  refine SRun.nil ?_
  refine nx_n ?_
  refine swp_cond (b := (decide (s3.1 < (aList.length : Int)))) (by kernel_rfl) (fun hb => ?_) (fun hb => ?_)
  replace h := cond_t hb h
  refine swp_skip ?_
  refine nx_n ?_
  refine swp_seq ?_
  refine swp_seqL (r := v4) h (fun j5 => ⟨19, [(0, vl eClaim aList), (3, vi s3.1)], []⟩) (fun v6 h => ?_) (fun j5 h => ?_)
  refine swp_blk (a := v6) ?_
  refine swp_seq ?_
  refine swp_reg ?_
  refine SRun.ck tbok 2 ⟨19, [(0, vl eClaim aList), (3, vi s3.1), (10, vl eClaim aList), (11, vi s3.1)], []⟩ ?_
  obtain ⟨x7, hx7, h⟩ := bind_some h
  refine SRun.ls (x_index (L := aList) (f := eClaim) (ti := ti26) (tj := ti39) (e := 39) (k := .i64) tbok rfl hx7) ?_
  refine SRun.ck tbok 1 ⟨19, [(0, vl eClaim aList), (3, vi s3.1), (13, .agg [vs x7.Source, vi x7.Kind, vs x7.Place, vs x7.Value, vi x7.Years.From, vi x7.Years.To, vi x7.Weight])], []⟩ ?_
  obtain ⟨x8, hx8, h⟩ := bind_some h
  refine SRun.ls (x_lstep_call (f := 36) (caps := []) (xs := [.agg [vs x7.Source, vi x7.Kind, vs x7.Place, vs x7.Value, vi x7.Years.From, vi x7.Years.To, vi x7.Weight]]) (ys := [.agg [vs x7.Source, vi x7.Kind, vs x7.Place, vs x7.Value, vi x7.Years.From, vi x7.Years.To, vi x7.Weight]]) (res := ⟨[.v (vb x8)], [], false⟩) (x := vb x8) (y := none) rfl ents36 (spec_IsClaim_run x7 _ hx8) rfl (by intro hc; cases hc)) ?_
  refine SRun.ck tbok 1 ⟨19, [(0, vl eClaim aList), (3, vi s3.1), (15, vb (!x8))], []⟩ ?_
  refine SRun.nil ?_
  refine nx_n ?_
  refine swp_cond (b := (!x8)) (by kernel_rfl) (fun hb => ?_) (fun hb => ?_)
  replace h := cond_t hb h
  refine swp_seq ?_
  refine swp_reg ?_
  refine SRun.ck tbok 1 ⟨19, [(2, vb false)], []⟩ ?_
  refine SRun.nil ?_
  refine nx_n ?_
  refine swp_ret ?_
  replace h := Option.some.inj h
  subst h
  exact q_br (q_rr (q_rr (q_br (q_rr (q_fr (fin1 (by kernel_rfl) (finV rfl SV.flat_of (holds_t (by kernel_rfl)))))))))
  replace h := cond_f hb h
  refine swp_skip ?_
  replace h := Option.some.inj h
  subst h
  exact q_bn (q_l (Le.sub0))
  refine swp_reg ?_
  refine SRun.ck tbok 3 ⟨19, [(0, vl eClaim aList), (3, vi (w64 (s3.1 + 1)))], []⟩ ?_
  refine SRun.nil ?_
  replace h := Option.some.inj h
  subst h
  exact q_l (Le.sub0)
  replace h := cond_f hb h
  refine swp_exit ?_
  replace h := Option.some.inj h
  subst h
  exact nx_e (q_re (q_bh (q_l (Le.sub0))))
  refine swp_seq ?_
  refine swp_reg ?_
  refine SRun.ck tbok 4 ⟨19, [(2, vb (decide ((aList.length : Int) ≤ 12)))], []⟩ ?_
  refine SRun.nil ?_
  refine nx_n ?_
  refine swp_ret ?_
  replace h := Option.some.inj h
  subst h
  exact q_fr (fin1 (by kernel_rfl) (finV rfl SV.flat_of (holds_t (by kernel_rfl))))
theorem ents26 : Ents Tryd.prog 26 := ents_of Tryd.func26 (by kernel_rfl) rfl
noncomputable def spec_l21Code (aList : (List Claim)) (aPlace : ByteArray) (aYear : Int) : Option (Int) :=
  ((((spec_AreClaims aList).bind fun x1 => (bif (!x1) then some true else ((spec_IsWord aPlace).bind fun x2 => some (!x2))))).bind fun (j3 : Bool) => (bif j3 then some 1 else ((spec_l02Year aYear).bind fun x5 => (bif (!x5) then some 2 else some 0))))
set_option maxRecDepth 100000 in
set_option maxHeartbeats 4000000 in
theorem spec_l21Code_run (aList : (List Claim)) (aPlace : ByteArray) (aYear : Int) (r : Int) (h : spec_l21Code aList aPlace aYear = some r) : SCall Tryd.prog 19 [.v (vl eClaim aList), .v (vs aPlace), .v (vi aYear)] ⟨[.v (vi r)], [], false⟩ := by
  refine scall_in Tryd.func19 rfl [(.tmp 6)] rfl (fun r => ⟨[.v (vi r)], [], false⟩) (r := r) ?_
  unfold spec_l21Code at h
  refine swp_seq ?_
  refine swp_reg ?_
  refine SRun.ck tbok 1 ⟨18, [(0, vl eClaim aList), (1, vs aPlace), (2, vi aYear)], []⟩ ?_
  refine SRun.nil ?_
  refine nx_n ?_
  refine swp_seq ?_
  refine swp_seq ?_
  refine swp_regJ h (fun j3 => ⟨18, [(2, vi aYear), (14, vb j3)], []⟩) (fun v4 h => ?_) (fun j3 h => ?_)
  refine SRun.ck tbok 1 ⟨18, [(1, vs aPlace), (2, vi aYear), (7, vl eClaim aList)], []⟩ ?_
  obtain ⟨x1, hx1, h⟩ := bind_some h
  refine SRun.ls (x_lstep_call (f := 26) (caps := []) (xs := [vl eClaim aList]) (ys := [vl eClaim aList]) (res := ⟨[.v (vb x1)], [], false⟩) (x := vb x1) (y := none) rfl ents26 (spec_AreClaims_run aList _ hx1) rfl (by intro hc; cases hc)) ?_
  refine SRun.ck tbok 2 ⟨18, [(1, vs aPlace), (2, vi aYear), (10, vb (!x1))], []⟩ ?_
  refine SRun.cut [(10, fun b => b)] (b := (!x1)) (by kernel_rfl) (fun hb => ?_) (fun hb => ?_)
  replace h := cond_t hb h
  refine SRun.ck tbok 4 ⟨18, [(2, vi aYear), (14, vb true)], []⟩ ?_
  refine SRun.nil ?_
  replace h := Option.some.inj h
  subst h
  exact Le.sub0
  replace h := cond_f hb h
  refine SRun.ck tbok 1 ⟨18, [(2, vi aYear), (10, vb false), (11, vs aPlace)], []⟩ ?_
  obtain ⟨x2, hx2, h⟩ := bind_some h
  refine SRun.ls (x_lstep_call (f := 27) (caps := []) (xs := [vs aPlace]) (ys := [vs aPlace]) (res := ⟨[.v (vb x2)], [], false⟩) (x := vb x2) (y := none) rfl ents27 (spec_IsWord_run aPlace _ hx2) rfl (by intro hc; cases hc)) ?_
  refine SRun.ck tbok 2 ⟨18, [(2, vi aYear), (14, vb (!x2))], []⟩ ?_
  refine SRun.nil ?_
  replace h := Option.some.inj h
  subst h
  exact Le.sub0
  refine swp_cond (b := j3) (by kernel_rfl) (fun hb => ?_) (fun hb => ?_)
  replace h := cond_t hb h
  refine swp_seq ?_
  refine swp_reg ?_
  refine SRun.ck tbok 1 ⟨18, [(6, vi 1)], []⟩ ?_
  refine SRun.nil ?_
  refine nx_n ?_
  refine swp_ret ?_
  replace h := Option.some.inj h
  subst h
  exact nx_r (q_fr (fin1 (by kernel_rfl) (finV rfl SV.flat_of (holds_t (by kernel_rfl)))))
  replace h := cond_f hb h
  refine swp_skip ?_
  refine nx_n ?_
  refine swp_seq ?_
  refine swp_seq ?_
  refine swp_reg ?_
  refine SRun.ck tbok 1 ⟨18, [(15, vi aYear)], []⟩ ?_
  obtain ⟨x5, hx5, h⟩ := bind_some h
  refine SRun.ls (x_lstep_call (f := 28) (caps := []) (xs := [vi aYear]) (ys := [vi aYear]) (res := ⟨[.v (vb x5)], [], false⟩) (x := vb x5) (y := none) rfl ents28 (spec_l02Year_run aYear _ hx5) rfl (by intro hc; cases hc)) ?_
  refine SRun.ck tbok 1 ⟨18, [(17, vb (!x5))], []⟩ ?_
  refine SRun.nil ?_
  refine nx_n ?_
  refine swp_cond (b := (!x5)) (by kernel_rfl) (fun hb => ?_) (fun hb => ?_)
  replace h := cond_t hb h
  refine swp_seq ?_
  refine swp_reg ?_
  refine SRun.ck tbok 1 ⟨18, [(6, vi 2)], []⟩ ?_
  refine SRun.nil ?_
  refine nx_n ?_
  refine swp_ret ?_
  replace h := Option.some.inj h
  subst h
  exact nx_r (q_fr (fin1 (by kernel_rfl) (finV rfl SV.flat_of (holds_t (by kernel_rfl)))))
  replace h := cond_f hb h
  refine swp_skip ?_
  refine nx_n ?_
  refine swp_seq ?_
  refine swp_reg ?_
  refine SRun.ck tbok 1 ⟨18, [(6, vi 0)], []⟩ ?_
  refine SRun.nil ?_
  refine nx_n ?_
  refine swp_ret ?_
  replace h := Option.some.inj h
  subst h
  exact q_fr (fin1 (by kernel_rfl) (finV rfl SV.flat_of (holds_t (by kernel_rfl))))
theorem ents19 : Ents Tryd.prog 19 := ents_of Tryd.func19 (by kernel_rfl) rfl
noncomputable def spec_l02Meet (aA : Span) (aB : Span) : Option (Bool) :=
  some ((decide (aA.From ≤ aB.To)) && (decide (aB.From ≤ aA.To)))
set_option maxRecDepth 100000 in
set_option maxHeartbeats 4000000 in
theorem spec_l02Meet_run (aA : Span) (aB : Span) (r : Bool) (h : spec_l02Meet aA aB = some r) : SCall Tryd.prog 37 [.v (.agg [vi aA.From, vi aA.To]), .v (.agg [vi aB.From, vi aB.To])] ⟨[.v (vb r)], [], false⟩ := by
  refine scall_in Tryd.func37 rfl [(.tmp 4)] rfl (fun r => ⟨[.v (vb r)], [], false⟩) (r := r) ?_
  unfold spec_l02Meet at h
  refine swp_seq ?_
  refine swp_reg ?_
  refine SRun.ck tbok 3 ⟨17, [(2, .ref 2 0), (3, .ref 3 0)], [(2, .box [vi aA.From, vi aA.To]), (3, .box [vi aB.From, vi aB.To])]⟩ ?_
  refine SRun.nil ?_
  refine nx_n ?_
  refine swp_seq ?_
  refine swp_regP ⟨17, [(4, vb ((decide (aA.From ≤ aB.To)) && (decide (aB.From ≤ aA.To))))], []⟩ ?_ ?_
  refine SRun.ck tbok 6 ⟨17, [(2, .ref 2 0), (3, .ref 3 0), (10, vb (decide (aA.From ≤ aB.To)))], [(2, .box [vi aA.From, vi aA.To]), (3, .box [vi aB.From, vi aB.To])]⟩ ?_
  generalize (decide (aA.From ≤ aB.To)) = bb
  cases bb
  refine SRun.ck tbok 7 ⟨17, [(4, vb false)], []⟩ ?_
  exact SRun.nil (Le.sub0)
  refine SRun.ck tbok 7 ⟨17, [(4, vb (decide (aB.From ≤ aA.To)))], []⟩ ?_
  exact SRun.nil (Le.sub0)
  refine swp_ret ?_
  replace h := Option.some.inj h
  subst h
  exact q_fr (fin1 (by kernel_rfl) (finV rfl SV.flat_of (holds_t (by kernel_rfl))))
theorem ents37 : Ents Tryd.prog 37 := ents_of Tryd.func37 (by kernel_rfl) rfl
noncomputable def spec_l20Contradict (aA : Claim) (aB : Claim) : Option (Bool) :=
  ((spec_l02Meet aA.Years aB.Years).bind fun x1 => (bif (!x1) then some false else (bif (cond (aA.Kind == 1) (cond (aB.Kind == 3) ((aA.Value.toList == aB.Place.toList) || ((aB.Kind == 1) && ((aA.Kind == 3) && (aB.Value.toList == aA.Place.toList)))) ((aB.Kind == 1) && ((aA.Kind == 3) && (aB.Value.toList == aA.Place.toList)))) ((aB.Kind == 1) && ((aA.Kind == 3) && (aB.Value.toList == aA.Place.toList)))) then some true else (bif (!(aA.Place.toList == aB.Place.toList)) then some false else (bif (aA.Kind == aB.Kind) then some (cond (aA.Kind == 0) (!(aA.Value.toList == aB.Value.toList)) ((aA.Kind == 1) && (!(aA.Value.toList == aB.Value.toList)))) else some ((aA.Kind == 3) || (aB.Kind == 3)))))))
set_option maxRecDepth 100000 in
set_option maxHeartbeats 4000000 in
theorem spec_l20Contradict_run (aA : Claim) (aB : Claim) (r : Bool) (h : spec_l20Contradict aA aB = some r) : SCall Tryd.prog 29 [.v (.agg [vs aA.Source, vi aA.Kind, vs aA.Place, vs aA.Value, vi aA.Years.From, vi aA.Years.To, vi aA.Weight]), .v (.agg [vs aB.Source, vi aB.Kind, vs aB.Place, vs aB.Value, vi aB.Years.From, vi aB.Years.To, vi aB.Weight])] ⟨[.v (vb r)], [], false⟩ := by
  refine scall_in Tryd.func29 rfl [(.tmp 4)] rfl (fun r => ⟨[.v (vb r)], [], false⟩) (r := r) ?_
  unfold spec_l20Contradict at h
  refine swp_seq ?_
  refine swp_reg ?_
  refine SRun.ck tbok 3 ⟨76, [(2, .ref 2 0), (3, .ref 3 0)], [(2, .box [vs aA.Source, vi aA.Kind, vs aA.Place, vs aA.Value, vi aA.Years.From, vi aA.Years.To, vi aA.Weight]), (3, .box [vs aB.Source, vi aB.Kind, vs aB.Place, vs aB.Value, vi aB.Years.From, vi aB.Years.To, vi aB.Weight])]⟩ ?_
  refine SRun.nil ?_
  refine nx_n ?_
  refine swp_seq ?_
  refine swp_seq ?_
  refine swp_reg ?_
  refine SRun.ck tbok 4 ⟨76, [(2, .ref 2 0), (3, .ref 3 0), (6, .agg [vi aA.Years.From, vi aA.Years.To]), (8, .agg [vi aB.Years.From, vi aB.Years.To])], [(2, .box [vs aA.Source, vi aA.Kind, vs aA.Place, vs aA.Value, vi aA.Years.From, vi aA.Years.To, vi aA.Weight]), (3, .box [vs aB.Source, vi aB.Kind, vs aB.Place, vs aB.Value, vi aB.Years.From, vi aB.Years.To, vi aB.Weight])]⟩ ?_
  obtain ⟨x1, hx1, h⟩ := bind_some h
  refine SRun.ls (x_lstep_call (f := 37) (caps := []) (xs := [.agg [vi aA.Years.From, vi aA.Years.To], .agg [vi aB.Years.From, vi aB.Years.To]]) (ys := [.agg [vi aA.Years.From, vi aA.Years.To], .agg [vi aB.Years.From, vi aB.Years.To]]) (res := ⟨[.v (vb x1)], [], false⟩) (x := vb x1) (y := none) rfl ents37 (spec_l02Meet_run aA.Years aB.Years _ hx1) rfl (by intro hc; cases hc)) ?_
  refine SRun.ck tbok 1 ⟨76, [(2, .ref 2 0), (3, .ref 3 0), (10, vb (!x1))], [(2, .box [vs aA.Source, vi aA.Kind, vs aA.Place, vs aA.Value, vi aA.Years.From, vi aA.Years.To, vi aA.Weight]), (3, .box [vs aB.Source, vi aB.Kind, vs aB.Place, vs aB.Value, vi aB.Years.From, vi aB.Years.To, vi aB.Weight])]⟩ ?_
  refine SRun.nil ?_
  refine nx_n ?_
  refine swp_cond (b := (!x1)) (by kernel_rfl) (fun hb => ?_) (fun hb => ?_)
  replace h := cond_t hb h
  refine swp_seq ?_
  refine swp_reg ?_
  refine SRun.ck tbok 1 ⟨76, [(4, vb false)], []⟩ ?_
  refine SRun.nil ?_
  refine nx_n ?_
  refine swp_ret ?_
  replace h := Option.some.inj h
  subst h
  exact nx_r (q_fr (fin1 (by kernel_rfl) (finV rfl SV.flat_of (holds_t (by kernel_rfl)))))
  replace h := cond_f hb h
  refine swp_skip ?_
  refine nx_n ?_
  refine swp_seq ?_
  refine swp_seq ?_
  refine swp_regP ⟨76, [(2, .ref 2 0), (3, .ref 3 0), (42, vb (cond (aA.Kind == 1) (cond (aB.Kind == 3) ((aA.Value.toList == aB.Place.toList) || ((aB.Kind == 1) && ((aA.Kind == 3) && (aB.Value.toList == aA.Place.toList)))) ((aB.Kind == 1) && ((aA.Kind == 3) && (aB.Value.toList == aA.Place.toList)))) ((aB.Kind == 1) && ((aA.Kind == 3) && (aB.Value.toList == aA.Place.toList)))))], [(2, .box [vs aA.Source, vi aA.Kind, vs aA.Place, vs aA.Value, vi aA.Years.From, vi aA.Years.To, vi aA.Weight]), (3, .box [vs aB.Source, vi aB.Kind, vs aB.Place, vs aB.Value, vi aB.Years.From, vi aB.Years.To, vi aB.Weight])]⟩ ?_ ?_
  refine SRun.ck tbok 4 ⟨76, [(2, .ref 2 0), (3, .ref 3 0), (14, vb (aA.Kind == 1))], [(2, .box [vs aA.Source, vi aA.Kind, vs aA.Place, vs aA.Value, vi aA.Years.From, vi aA.Years.To, vi aA.Weight]), (3, .box [vs aB.Source, vi aB.Kind, vs aB.Place, vs aB.Value, vi aB.Years.From, vi aB.Years.To, vi aB.Weight])]⟩ ?_
  generalize (aA.Kind == 1) = bb
  cases bb
  refine SRun.ck tbok 16 ⟨76, [(2, .ref 2 0), (3, .ref 3 0), (26, vb false), (30, vb (aB.Kind == 1))], [(2, .box [vs aA.Source, vi aA.Kind, vs aA.Place, vs aA.Value, vi aA.Years.From, vi aA.Years.To, vi aA.Weight]), (3, .box [vs aB.Source, vi aB.Kind, vs aB.Place, vs aB.Value, vi aB.Years.From, vi aB.Years.To, vi aB.Weight])]⟩ ?_
  generalize (aB.Kind == 1) = bb
  cases bb
  refine SRun.ck tbok 12 ⟨76, [(2, .ref 2 0), (3, .ref 3 0), (42, vb false)], [(2, .box [vs aA.Source, vi aA.Kind, vs aA.Place, vs aA.Value, vi aA.Years.From, vi aA.Years.To, vi aA.Weight]), (3, .box [vs aB.Source, vi aB.Kind, vs aB.Place, vs aB.Value, vi aB.Years.From, vi aB.Years.To, vi aB.Weight])]⟩ ?_
  exact SRun.nil (Le.sub0)
  refine SRun.ck tbok 5 ⟨76, [(2, .ref 2 0), (3, .ref 3 0), (26, vb false), (35, vb (aA.Kind == 3))], [(2, .box [vs aA.Source, vi aA.Kind, vs aA.Place, vs aA.Value, vi aA.Years.From, vi aA.Years.To, vi aA.Weight]), (3, .box [vs aB.Source, vi aB.Kind, vs aB.Place, vs aB.Value, vi aB.Years.From, vi aB.Years.To, vi aB.Weight])]⟩ ?_
  generalize (aA.Kind == 3) = bb
  cases bb
  refine SRun.ck tbok 7 ⟨76, [(2, .ref 2 0), (3, .ref 3 0), (42, vb false)], [(2, .box [vs aA.Source, vi aA.Kind, vs aA.Place, vs aA.Value, vi aA.Years.From, vi aA.Years.To, vi aA.Weight]), (3, .box [vs aB.Source, vi aB.Kind, vs aB.Place, vs aB.Value, vi aB.Years.From, vi aB.Years.To, vi aB.Weight])]⟩ ?_
  exact SRun.nil (Le.sub0)
  refine SRun.ck tbok 7 ⟨76, [(2, .ref 2 0), (3, .ref 3 0), (42, vb (aB.Value.toList == aA.Place.toList))], [(2, .box [vs aA.Source, vi aA.Kind, vs aA.Place, vs aA.Value, vi aA.Years.From, vi aA.Years.To, vi aA.Weight]), (3, .box [vs aB.Source, vi aB.Kind, vs aB.Place, vs aB.Value, vi aB.Years.From, vi aB.Years.To, vi aB.Weight])]⟩ ?_
  exact SRun.nil (Le.sub0)
  refine SRun.ck tbok 5 ⟨76, [(2, .ref 2 0), (3, .ref 3 0), (19, vb (aB.Kind == 3))], [(2, .box [vs aA.Source, vi aA.Kind, vs aA.Place, vs aA.Value, vi aA.Years.From, vi aA.Years.To, vi aA.Weight]), (3, .box [vs aB.Source, vi aB.Kind, vs aB.Place, vs aB.Value, vi aB.Years.From, vi aB.Years.To, vi aB.Weight])]⟩ ?_
  generalize (aB.Kind == 3) = bb
  cases bb
  refine SRun.ck tbok 11 ⟨76, [(2, .ref 2 0), (3, .ref 3 0), (26, vb false), (30, vb (aB.Kind == 1))], [(2, .box [vs aA.Source, vi aA.Kind, vs aA.Place, vs aA.Value, vi aA.Years.From, vi aA.Years.To, vi aA.Weight]), (3, .box [vs aB.Source, vi aB.Kind, vs aB.Place, vs aB.Value, vi aB.Years.From, vi aB.Years.To, vi aB.Weight])]⟩ ?_
  generalize (aB.Kind == 1) = bb
  cases bb
  refine SRun.ck tbok 12 ⟨76, [(2, .ref 2 0), (3, .ref 3 0), (42, vb false)], [(2, .box [vs aA.Source, vi aA.Kind, vs aA.Place, vs aA.Value, vi aA.Years.From, vi aA.Years.To, vi aA.Weight]), (3, .box [vs aB.Source, vi aB.Kind, vs aB.Place, vs aB.Value, vi aB.Years.From, vi aB.Years.To, vi aB.Weight])]⟩ ?_
  exact SRun.nil (Le.sub0)
  refine SRun.ck tbok 5 ⟨76, [(2, .ref 2 0), (3, .ref 3 0), (26, vb false), (35, vb (aA.Kind == 3))], [(2, .box [vs aA.Source, vi aA.Kind, vs aA.Place, vs aA.Value, vi aA.Years.From, vi aA.Years.To, vi aA.Weight]), (3, .box [vs aB.Source, vi aB.Kind, vs aB.Place, vs aB.Value, vi aB.Years.From, vi aB.Years.To, vi aB.Weight])]⟩ ?_
  generalize (aA.Kind == 3) = bb
  cases bb
  refine SRun.ck tbok 7 ⟨76, [(2, .ref 2 0), (3, .ref 3 0), (42, vb false)], [(2, .box [vs aA.Source, vi aA.Kind, vs aA.Place, vs aA.Value, vi aA.Years.From, vi aA.Years.To, vi aA.Weight]), (3, .box [vs aB.Source, vi aB.Kind, vs aB.Place, vs aB.Value, vi aB.Years.From, vi aB.Years.To, vi aB.Weight])]⟩ ?_
  exact SRun.nil (Le.sub0)
  refine SRun.ck tbok 7 ⟨76, [(2, .ref 2 0), (3, .ref 3 0), (42, vb (aB.Value.toList == aA.Place.toList))], [(2, .box [vs aA.Source, vi aA.Kind, vs aA.Place, vs aA.Value, vi aA.Years.From, vi aA.Years.To, vi aA.Weight]), (3, .box [vs aB.Source, vi aB.Kind, vs aB.Place, vs aB.Value, vi aB.Years.From, vi aB.Years.To, vi aB.Weight])]⟩ ?_
  exact SRun.nil (Le.sub0)
  refine SRun.ck tbok 7 ⟨76, [(2, .ref 2 0), (3, .ref 3 0), (26, vb (aA.Value.toList == aB.Place.toList))], [(2, .box [vs aA.Source, vi aA.Kind, vs aA.Place, vs aA.Value, vi aA.Years.From, vi aA.Years.To, vi aA.Weight]), (3, .box [vs aB.Source, vi aB.Kind, vs aB.Place, vs aB.Value, vi aB.Years.From, vi aB.Years.To, vi aB.Weight])]⟩ ?_
  generalize (aA.Value.toList == aB.Place.toList) = bb
  cases bb
  refine SRun.ck tbok 4 ⟨76, [(2, .ref 2 0), (3, .ref 3 0), (26, vb false), (30, vb (aB.Kind == 1))], [(2, .box [vs aA.Source, vi aA.Kind, vs aA.Place, vs aA.Value, vi aA.Years.From, vi aA.Years.To, vi aA.Weight]), (3, .box [vs aB.Source, vi aB.Kind, vs aB.Place, vs aB.Value, vi aB.Years.From, vi aB.Years.To, vi aB.Weight])]⟩ ?_
  generalize (aB.Kind == 1) = bb
  cases bb
  refine SRun.ck tbok 12 ⟨76, [(2, .ref 2 0), (3, .ref 3 0), (42, vb false)], [(2, .box [vs aA.Source, vi aA.Kind, vs aA.Place, vs aA.Value, vi aA.Years.From, vi aA.Years.To, vi aA.Weight]), (3, .box [vs aB.Source, vi aB.Kind, vs aB.Place, vs aB.Value, vi aB.Years.From, vi aB.Years.To, vi aB.Weight])]⟩ ?_
  exact SRun.nil (Le.sub0)
  refine SRun.ck tbok 5 ⟨76, [(2, .ref 2 0), (3, .ref 3 0), (26, vb false), (35, vb (aA.Kind == 3))], [(2, .box [vs aA.Source, vi aA.Kind, vs aA.Place, vs aA.Value, vi aA.Years.From, vi aA.Years.To, vi aA.Weight]), (3, .box [vs aB.Source, vi aB.Kind, vs aB.Place, vs aB.Value, vi aB.Years.From, vi aB.Years.To, vi aB.Weight])]⟩ ?_
  generalize (aA.Kind == 3) = bb
  cases bb
  refine SRun.ck tbok 7 ⟨76, [(2, .ref 2 0), (3, .ref 3 0), (42, vb false)], [(2, .box [vs aA.Source, vi aA.Kind, vs aA.Place, vs aA.Value, vi aA.Years.From, vi aA.Years.To, vi aA.Weight]), (3, .box [vs aB.Source, vi aB.Kind, vs aB.Place, vs aB.Value, vi aB.Years.From, vi aB.Years.To, vi aB.Weight])]⟩ ?_
  exact SRun.nil (Le.sub0)
  refine SRun.ck tbok 7 ⟨76, [(2, .ref 2 0), (3, .ref 3 0), (42, vb (aB.Value.toList == aA.Place.toList))], [(2, .box [vs aA.Source, vi aA.Kind, vs aA.Place, vs aA.Value, vi aA.Years.From, vi aA.Years.To, vi aA.Weight]), (3, .box [vs aB.Source, vi aB.Kind, vs aB.Place, vs aB.Value, vi aB.Years.From, vi aB.Years.To, vi aB.Weight])]⟩ ?_
  exact SRun.nil (Le.sub0)
  refine SRun.ck tbok 16 ⟨76, [(2, .ref 2 0), (3, .ref 3 0), (42, vb true)], [(2, .box [vs aA.Source, vi aA.Kind, vs aA.Place, vs aA.Value, vi aA.Years.From, vi aA.Years.To, vi aA.Weight]), (3, .box [vs aB.Source, vi aB.Kind, vs aB.Place, vs aB.Value, vi aB.Years.From, vi aB.Years.To, vi aB.Weight])]⟩ ?_
  exact SRun.nil (Le.sub0)
  refine swp_cond (b := (cond (aA.Kind == 1) (cond (aB.Kind == 3) ((aA.Value.toList == aB.Place.toList) || ((aB.Kind == 1) && ((aA.Kind == 3) && (aB.Value.toList == aA.Place.toList)))) ((aB.Kind == 1) && ((aA.Kind == 3) && (aB.Value.toList == aA.Place.toList)))) ((aB.Kind == 1) && ((aA.Kind == 3) && (aB.Value.toList == aA.Place.toList))))) (by kernel_rfl) (fun hb => ?_) (fun hb => ?_)
  replace h := cond_t hb h
  refine swp_seq ?_
  refine swp_reg ?_
  refine SRun.ck tbok 1 ⟨76, [(4, vb true)], []⟩ ?_
  refine SRun.nil ?_
  refine nx_n ?_
  refine swp_ret ?_
  replace h := Option.some.inj h
  subst h
  exact nx_r (q_fr (fin1 (by kernel_rfl) (finV rfl SV.flat_of (holds_t (by kernel_rfl)))))
  replace h := cond_f hb h
  refine swp_skip ?_
  refine nx_n ?_
  refine swp_seq ?_
  refine swp_seq ?_
  refine swp_reg ?_
  refine SRun.ck tbok 5 ⟨76, [(2, .ref 2 0), (3, .ref 3 0), (47, vb (!(aA.Place.toList == aB.Place.toList)))], [(2, .box [vs aA.Source, vi aA.Kind, vs aA.Place, vs aA.Value, vi aA.Years.From, vi aA.Years.To, vi aA.Weight]), (3, .box [vs aB.Source, vi aB.Kind, vs aB.Place, vs aB.Value, vi aB.Years.From, vi aB.Years.To, vi aB.Weight])]⟩ ?_
  refine SRun.nil ?_
  refine nx_n ?_
  refine swp_cond (b := (!(aA.Place.toList == aB.Place.toList))) (by kernel_rfl) (fun hb => ?_) (fun hb => ?_)
  replace h := cond_t hb h
  refine swp_seq ?_
  refine swp_reg ?_
  refine SRun.ck tbok 1 ⟨76, [(4, vb false)], []⟩ ?_
  refine SRun.nil ?_
  refine nx_n ?_
  refine swp_ret ?_
  replace h := Option.some.inj h
  subst h
  exact nx_r (q_fr (fin1 (by kernel_rfl) (finV rfl SV.flat_of (holds_t (by kernel_rfl)))))
  replace h := cond_f hb h
  refine swp_skip ?_
  refine nx_n ?_
  refine swp_seq ?_
  refine swp_seq ?_
  refine swp_reg ?_
  refine SRun.ck tbok 5 ⟨76, [(2, .ref 2 0), (3, .ref 3 0), (52, vb (aA.Kind == aB.Kind))], [(2, .box [vs aA.Source, vi aA.Kind, vs aA.Place, vs aA.Value, vi aA.Years.From, vi aA.Years.To, vi aA.Weight]), (3, .box [vs aB.Source, vi aB.Kind, vs aB.Place, vs aB.Value, vi aB.Years.From, vi aB.Years.To, vi aB.Weight])]⟩ ?_
  refine SRun.nil ?_
  refine nx_n ?_
  refine swp_cond (b := (aA.Kind == aB.Kind)) (by kernel_rfl) (fun hb => ?_) (fun hb => ?_)
  replace h := cond_t hb h
  refine swp_seq ?_
  refine swp_regP ⟨76, [(4, vb (cond (aA.Kind == 0) (!(aA.Value.toList == aB.Value.toList)) ((aA.Kind == 1) && (!(aA.Value.toList == aB.Value.toList)))))], []⟩ ?_ ?_
  refine SRun.ck tbok 4 ⟨76, [(2, .ref 2 0), (3, .ref 3 0), (56, vb (aA.Kind == 0))], [(2, .box [vs aA.Source, vi aA.Kind, vs aA.Place, vs aA.Value, vi aA.Years.From, vi aA.Years.To, vi aA.Weight]), (3, .box [vs aB.Source, vi aB.Kind, vs aB.Place, vs aB.Value, vi aB.Years.From, vi aB.Years.To, vi aB.Weight])]⟩ ?_
  generalize (aA.Kind == 0) = bb
  cases bb
  refine SRun.ck tbok 5 ⟨76, [(2, .ref 2 0), (3, .ref 3 0), (61, vb (aA.Kind == 1))], [(2, .box [vs aA.Source, vi aA.Kind, vs aA.Place, vs aA.Value, vi aA.Years.From, vi aA.Years.To, vi aA.Weight]), (3, .box [vs aB.Source, vi aB.Kind, vs aB.Place, vs aB.Value, vi aB.Years.From, vi aB.Years.To, vi aB.Weight])]⟩ ?_
  generalize (aA.Kind == 1) = bb
  cases bb
  refine SRun.ck tbok 7 ⟨76, [(4, vb false)], []⟩ ?_
  exact SRun.nil (Le.sub0)
  refine SRun.ck tbok 7 ⟨76, [(4, vb (!(aA.Value.toList == aB.Value.toList)))], []⟩ ?_
  exact SRun.nil (Le.sub0)
  refine SRun.ck tbok 12 ⟨76, [(4, vb (!(aA.Value.toList == aB.Value.toList)))], []⟩ ?_
  exact SRun.nil (Le.sub0)
  refine swp_ret ?_
  replace h := Option.some.inj h
  subst h
  exact nx_r (q_fr (fin1 (by kernel_rfl) (finV rfl SV.flat_of (holds_t (by kernel_rfl)))))
  replace h := cond_f hb h
  refine swp_skip ?_
  refine nx_n ?_
  refine swp_seq ?_
  refine swp_regP ⟨76, [(4, vb ((aA.Kind == 3) || (aB.Kind == 3)))], []⟩ ?_ ?_
  refine SRun.ck tbok 4 ⟨76, [(3, .ref 3 0), (71, vb (aA.Kind == 3))], [(3, .box [vs aB.Source, vi aB.Kind, vs aB.Place, vs aB.Value, vi aB.Years.From, vi aB.Years.To, vi aB.Weight])]⟩ ?_
  generalize (aA.Kind == 3) = bb
  cases bb
  refine SRun.ck tbok 5 ⟨76, [(4, vb (aB.Kind == 3))], []⟩ ?_
  exact SRun.nil (Le.sub0)
  refine SRun.ck tbok 5 ⟨76, [(4, vb true)], []⟩ ?_
  exact SRun.nil (Le.sub0)
  refine swp_ret ?_
  replace h := Option.some.inj h
  subst h
  exact q_fr (fin1 (by kernel_rfl) (finV rfl SV.flat_of (holds_t (by kernel_rfl))))
theorem ents29 : Ents Tryd.prog 29 := ents_of Tryd.func29 (by kernel_rfl) rfl
noncomputable def spec_l03Find (aList : (List ByteArray)) (aS : ByteArray) : Option (Int) :=
  (((forN (aList.length : Int) (fun (i3 : Int) (_ : Unit) => ((at' aList i3).bind fun x7 => (bif (x7.toList == aS.toList) then some (.inr (.inr i3)) else some (.inl ())))) (fun (_ : Unit) => .inl ()) 0 ())).bind (Sum.elim (fun (_ : Unit) => some (-1)) some))
set_option maxRecDepth 100000 in
set_option maxHeartbeats 4000000 in
theorem spec_l03Find_run (aList : (List ByteArray)) (aS : ByteArray) (r : Int) (h : spec_l03Find aList aS = some r) : SCall Tryd.prog 38 [.v (vl eS aList), .v (vs aS)] ⟨[.v (vi r)], [], false⟩ := by
  refine scall_in Tryd.func38 rfl [(.tmp 4)] rfl (fun r => ⟨[.v (vi r)], [], false⟩) (r := r) ?_
  unfold spec_l03Find at h
  refine swp_seq ?_
  refine swp_reg ?_
  refine SRun.ck tbok 1 ⟨19, [(0, vl eS aList), (1, vs aS)], []⟩ ?_
  refine SRun.nil ?_
  refine nx_n ?_
  refine swp_seq ?_
  refine swp_seq ?_
  refine swp_reg ?_
  refine SRun.ck tbok 1 ⟨19, [(0, vl eS aList), (1, vs aS), (5, vi 0)], []⟩ ?_
  refine SRun.nil ?_
  refine nx_n ?_
  refine swp_seqE (r := r) h (fun j1 => ⟨19, [], []⟩) (fun v2 h => ?_) (fun j1 h => ?_)
  refine swp_blk (a := v2) ?_
  refine swp_lpL (r := v2) (s := (0, ())) _ (fun s3 => ⟨19, [(0, vl eS aList), (1, vs aS), (5, vi s3.1)], []⟩) _ (Le.sub0) h (fun s3 v4 h => ?_)
  refine swp_seq ?_
  refine swp_seq ?_
  refine swp_reg ?_
  refine SRun.ck tbok 4 ⟨19, [(0, vl eS aList), (1, vs aS), (5, vi s3.1), (9, vb (decide (s3.1 < (aList.length : Int))))], []⟩ ?_
  refine SRun.nil ?_
  refine nx_n ?_
  refine swp_cond (b := (decide (s3.1 < (aList.length : Int)))) (by kernel_rfl) (fun hb => ?_) (fun hb => ?_)
  replace h := cond_t hb h
  refine swp_skip ?_
  refine nx_n ?_
  refine swp_seq ?_
  refine swp_seqL (r := v4) h (fun j5 => ⟨19, [(0, vl eS aList), (1, vs aS), (5, vi s3.1)], []⟩) (fun v6 h => ?_) (fun j5 h => ?_)
  refine swp_blk (a := v6) ?_
  refine swp_seq ?_
  refine swp_reg ?_
  refine SRun.ck tbok 2 ⟨19, [(0, vl eS aList), (1, vs aS), (5, vi s3.1), (12, vl eS aList), (13, vi s3.1)], []⟩ ?_
  obtain ⟨x7, hx7, h⟩ := bind_some h
  refine SRun.ls (x_index (L := aList) (f := eS) (ti := ti51) (tj := ti9) (e := 9) (k := .i64) tbok rfl hx7) ?_
  refine SRun.ck tbok 3 ⟨19, [(0, vl eS aList), (1, vs aS), (5, vi s3.1), (17, vb (x7.toList == aS.toList))], []⟩ ?_
  refine SRun.nil ?_
  refine nx_n ?_
  refine swp_cond (b := (x7.toList == aS.toList)) (by kernel_rfl) (fun hb => ?_) (fun hb => ?_)
  replace h := cond_t hb h
  refine swp_seq ?_
  refine swp_reg ?_
  refine SRun.ck tbok 2 ⟨19, [(4, vi s3.1)], []⟩ ?_
  refine SRun.nil ?_
  refine nx_n ?_
  refine swp_ret ?_
  replace h := Option.some.inj h
  subst h
  exact q_br (q_rr (q_rr (q_br (q_rr (q_fr (fin1 (by kernel_rfl) (finV rfl SV.flat_of (holds_t (by kernel_rfl)))))))))
  replace h := cond_f hb h
  refine swp_skip ?_
  replace h := Option.some.inj h
  subst h
  exact q_bn (q_l (Le.sub0))
  refine swp_reg ?_
  refine SRun.ck tbok 3 ⟨19, [(0, vl eS aList), (1, vs aS), (5, vi (w64 (s3.1 + 1)))], []⟩ ?_
  refine SRun.nil ?_
  replace h := Option.some.inj h
  subst h
  exact q_l (Le.sub0)
  replace h := cond_f hb h
  refine swp_exit ?_
  replace h := Option.some.inj h
  subst h
  exact nx_e (q_re (q_bh (q_l (Le.sub0))))
  refine swp_seq ?_
  refine swp_reg ?_
  refine SRun.ck tbok 1 ⟨19, [(4, vi (-1))], []⟩ ?_
  refine SRun.nil ?_
  refine nx_n ?_
  refine swp_ret ?_
  replace h := Option.some.inj h
  subst h
  exact q_fr (fin1 (by kernel_rfl) (finV rfl SV.flat_of (holds_t (by kernel_rfl))))
theorem ents38 : Ents Tryd.prog 38 := ents_of Tryd.func38 (by kernel_rfl) rfl
noncomputable def spec_l21Parent (aList : (List Claim)) (aPlace : ByteArray) (aYear : Int) : Option (ByteArray) :=
  (((forN (aList.length : Int) (fun (i3 : Int) (_ : Unit) => ((at' aList i3).bind fun x7 => (((bif (x7.Kind == 1) then (bif (x7.Place.toList == aPlace.toList) then ((spec_l01In aYear x7.Years.From x7.Years.To).bind fun x8 => some x8) else some false) else some false)).bind fun (j9 : Bool) => (bif j9 then some (.inr (.inr x7.Value)) else some (.inl ()))))) (fun (_ : Unit) => .inl ()) 0 ())).bind (Sum.elim (fun (_ : Unit) => some (ByteArray.mk #[])) some))
set_option maxRecDepth 100000 in
set_option maxHeartbeats 4000000 in
theorem spec_l21Parent_run (aList : (List Claim)) (aPlace : ByteArray) (aYear : Int) (r : ByteArray) (h : spec_l21Parent aList aPlace aYear = some r) : SCall Tryd.prog 14 [.v (vl eClaim aList), .v (vs aPlace), .v (vi aYear)] ⟨[.v (vs r)], [], false⟩ := by
  refine scall_in Tryd.func14 rfl [(.tmp 6)] rfl (fun r => ⟨[.v (vs r)], [], false⟩) (r := r) ?_
  unfold spec_l21Parent at h
  refine swp_seq ?_
  refine swp_reg ?_
  refine SRun.ck tbok 1 ⟨40, [(0, vl eClaim aList), (1, vs aPlace), (2, vi aYear)], []⟩ ?_
  refine SRun.nil ?_
  refine nx_n ?_
  refine swp_seq ?_
  refine swp_seq ?_
  refine swp_reg ?_
  refine SRun.ck tbok 1 ⟨40, [(0, vl eClaim aList), (1, vs aPlace), (2, vi aYear), (7, vi 0)], []⟩ ?_
  refine SRun.nil ?_
  refine nx_n ?_
  refine swp_seqE (r := r) h (fun j1 => ⟨40, [], []⟩) (fun v2 h => ?_) (fun j1 h => ?_)
  refine swp_blk (a := v2) ?_
  refine swp_lpL (r := v2) (s := (0, ())) _ (fun s3 => ⟨40, [(0, vl eClaim aList), (1, vs aPlace), (2, vi aYear), (7, vi s3.1)], []⟩) _ (Le.sub0) h (fun s3 v4 h => ?_)
  refine swp_seq ?_
  refine swp_seq ?_
  refine swp_reg ?_
  refine SRun.ck tbok 4 ⟨40, [(0, vl eClaim aList), (1, vs aPlace), (2, vi aYear), (7, vi s3.1), (12, vb (decide (s3.1 < (aList.length : Int))))], []⟩ ?_
  refine SRun.nil ?_
  refine nx_n ?_
  refine swp_cond (b := (decide (s3.1 < (aList.length : Int)))) (by kernel_rfl) (fun hb => ?_) (fun hb => ?_)
  replace h := cond_t hb h
  refine swp_skip ?_
  refine nx_n ?_
  refine swp_seq ?_
  refine swp_seqL (r := v4) h (fun j5 => ⟨40, [(0, vl eClaim aList), (1, vs aPlace), (2, vi aYear), (7, vi s3.1)], []⟩) (fun v6 h => ?_) (fun j5 h => ?_)
  refine swp_blk (a := v6) ?_
  refine swp_seq ?_
  refine swp_reg ?_
  refine SRun.ck tbok 2 ⟨40, [(0, vl eClaim aList), (1, vs aPlace), (2, vi aYear), (7, vi s3.1), (15, vl eClaim aList), (16, vi s3.1)], []⟩ ?_
  obtain ⟨x7, hx7, h⟩ := bind_some h
  refine SRun.ls (x_index (L := aList) (f := eClaim) (ti := ti26) (tj := ti39) (e := 39) (k := .i64) tbok rfl hx7) ?_
  refine SRun.ck tbok 2 ⟨40, [(0, vl eClaim aList), (1, vs aPlace), (2, vi aYear), (7, vi s3.1), (8, .ref 8 0), (18, .agg [vs x7.Source, vi x7.Kind, vs x7.Place, vs x7.Value, vi x7.Years.From, vi x7.Years.To, vi x7.Weight])], [(8, .box [vs (ByteArray.mk #[]), vi 0, vs (ByteArray.mk #[]), vs (ByteArray.mk #[]), vi 0, vi 0, vi 0])]⟩ ?_
  refine SRun.estep (x_estep_store (d := 8) (k := 0) (ti := ti39) (cs := [vs (ByteArray.mk #[]), vi 0, vs (ByteArray.mk #[]), vs (ByteArray.mk #[]), vi 0, vi 0, vi 0]) (vs := [vs x7.Source, vi x7.Kind, vs x7.Place, vs x7.Value, vi x7.Years.From, vi x7.Years.To, vi x7.Weight]) (v := .agg [vs x7.Source, vi x7.Kind, vs x7.Place, vs x7.Value, vi x7.Years.From, vi x7.Years.To, vi x7.Weight]) tbok rfl rfl) ?_
  refine SRun.nil ?_
  refine nx_n ?_
  refine swp_seq ?_
  refine swp_regJ h (fun j9 => ⟨40, [(0, vl eClaim aList), (1, vs aPlace), (2, vi aYear), (7, vi s3.1), (8, .ref 8 0), (37, vb j9)], [(8, .box [vs x7.Source, vi x7.Kind, vs x7.Place, vs x7.Value, vi x7.Years.From, vi x7.Years.To, vi x7.Weight])]⟩) (fun v10 h => ?_) (fun j9 h => ?_)
  refine SRun.ck tbok 4 ⟨40, [(0, vl eClaim aList), (1, vs aPlace), (2, vi aYear), (7, vi s3.1), (8, .ref 8 0), (22, vb (x7.Kind == 1))], [(8, .box [vs x7.Source, vi x7.Kind, vs x7.Place, vs x7.Value, vi x7.Years.From, vi x7.Years.To, vi x7.Weight])]⟩ ?_
  refine SRun.cut [(22, fun b => b)] (b := (x7.Kind == 1)) (by kernel_rfl) (fun hb => ?_) (fun hb => ?_)
  replace h := cond_t hb h
  refine SRun.ck tbok 6 ⟨40, [(0, vl eClaim aList), (1, vs aPlace), (2, vi aYear), (7, vi s3.1), (8, .ref 8 0), (28, vb (x7.Place.toList == aPlace.toList))], [(8, .box [vs x7.Source, vi x7.Kind, vs x7.Place, vs x7.Value, vi x7.Years.From, vi x7.Years.To, vi x7.Weight])]⟩ ?_
  refine SRun.cut [(28, fun b => b)] (b := (x7.Place.toList == aPlace.toList)) (by kernel_rfl) (fun hb => ?_) (fun hb => ?_)
  replace h := cond_t hb h
  refine SRun.ck tbok 7 ⟨40, [(0, vl eClaim aList), (1, vs aPlace), (2, vi aYear), (7, vi s3.1), (8, .ref 8 0), (28, vb true), (29, vi aYear), (32, vi x7.Years.From), (35, vi x7.Years.To)], [(8, .box [vs x7.Source, vi x7.Kind, vs x7.Place, vs x7.Value, vi x7.Years.From, vi x7.Years.To, vi x7.Weight])]⟩ ?_
  obtain ⟨x8, hx8, h⟩ := bind_some h
  refine SRun.ls (x_lstep_call (f := 21) (caps := []) (xs := [vi aYear, vi x7.Years.From, vi x7.Years.To]) (ys := [vi aYear, vi x7.Years.From, vi x7.Years.To]) (res := ⟨[.v (vb x8)], [], false⟩) (x := vb x8) (y := none) rfl ents21 (spec_l01In_run aYear x7.Years.From x7.Years.To _ hx8) rfl (by intro hc; cases hc)) ?_
  refine SRun.ck tbok 1 ⟨40, [(0, vl eClaim aList), (1, vs aPlace), (2, vi aYear), (7, vi s3.1), (8, .ref 8 0), (37, vb x8)], [(8, .box [vs x7.Source, vi x7.Kind, vs x7.Place, vs x7.Value, vi x7.Years.From, vi x7.Years.To, vi x7.Weight])]⟩ ?_
  refine SRun.nil ?_
  replace h := Option.some.inj h
  subst h
  exact Le.sub0
  replace h := cond_f hb h
  refine SRun.ck tbok 9 ⟨40, [(0, vl eClaim aList), (1, vs aPlace), (2, vi aYear), (7, vi s3.1), (8, .ref 8 0), (37, vb false)], [(8, .box [vs x7.Source, vi x7.Kind, vs x7.Place, vs x7.Value, vi x7.Years.From, vi x7.Years.To, vi x7.Weight])]⟩ ?_
  refine SRun.nil ?_
  replace h := Option.some.inj h
  subst h
  exact Le.sub0
  replace h := cond_f hb h
  refine SRun.ck tbok 15 ⟨40, [(0, vl eClaim aList), (1, vs aPlace), (2, vi aYear), (7, vi s3.1), (8, .ref 8 0), (37, vb false)], [(8, .box [vs x7.Source, vi x7.Kind, vs x7.Place, vs x7.Value, vi x7.Years.From, vi x7.Years.To, vi x7.Weight])]⟩ ?_
  refine SRun.nil ?_
  replace h := Option.some.inj h
  subst h
  exact Le.sub0
  refine swp_cond (b := j9) (by kernel_rfl) (fun hb => ?_) (fun hb => ?_)
  replace h := cond_t hb h
  refine swp_seq ?_
  refine swp_reg ?_
  refine SRun.ck tbok 3 ⟨40, [(6, vs x7.Value)], []⟩ ?_
  refine SRun.nil ?_
  refine nx_n ?_
  refine swp_ret ?_
  replace h := Option.some.inj h
  subst h
  exact q_br (q_rr (q_rr (q_br (q_rr (q_fr (fin1 (by kernel_rfl) (finV rfl SV.flat_of (holds_t (by kernel_rfl)))))))))
  replace h := cond_f hb h
  refine swp_skip ?_
  replace h := Option.some.inj h
  subst h
  exact q_bn (q_l (Le.sub0))
  refine swp_reg ?_
  refine SRun.ck tbok 3 ⟨40, [(0, vl eClaim aList), (1, vs aPlace), (2, vi aYear), (7, vi (w64 (s3.1 + 1)))], []⟩ ?_
  refine SRun.nil ?_
  replace h := Option.some.inj h
  subst h
  exact q_l (Le.sub0)
  replace h := cond_f hb h
  refine swp_exit ?_
  replace h := Option.some.inj h
  subst h
  exact nx_e (q_re (q_bh (q_l (Le.sub0))))
  refine swp_seq ?_
  refine swp_reg ?_
  refine SRun.ck tbok 1 ⟨40, [(6, vs (ByteArray.mk #[]))], []⟩ ?_
  refine SRun.nil ?_
  refine nx_n ?_
  refine swp_ret ?_
  replace h := Option.some.inj h
  subst h
  exact q_fr (fin1 (by kernel_rfl) (finV rfl SV.flat_of (holds_t (by kernel_rfl))))
theorem ents14 : Ents Tryd.prog 14 := ents_of Tryd.func14 (by kernel_rfl) rfl
noncomputable def spec_l21Circle (aList : (List Claim)) (aPlace : ByteArray) (aYear : Int) : Option ((List ByteArray) × Bool) :=
  (((loop (fun (s3 : ByteArray × (List ByteArray)) => ((spec_l03Find s3.2 s3.1).bind fun x5 => (bif (decide (x5 < 0)) then ((app' s3.2 ([s3.1] : List ByteArray)).bind fun x6 => ((spec_l21Parent aList s3.1 aYear).bind fun x7 => (bif (x7.toList == (ByteArray.mk #[]).toList) then some (.inr (.inr (([] : List ByteArray), false))) else some (.inl (x7, x6))))) else some (.inr (.inl (s3.1, s3.2)))))) (aPlace, ([] : List ByteArray)))).bind (Sum.elim (fun (j1 : ByteArray × (List ByteArray)) => some (j1.2, (j1.1.toList == aPlace.toList))) some))
set_option maxRecDepth 100000 in
set_option maxHeartbeats 4000000 in
theorem spec_l21Circle_run (aList : (List Claim)) (aPlace : ByteArray) (aYear : Int) (r : (List ByteArray) × Bool) (h : spec_l21Circle aList aPlace aYear = some r) : SCall Tryd.prog 30 [.v (vl eClaim aList), .v (vs aPlace), .v (vi aYear)] ⟨[.own 9 1 r.1.length (r.1.map eS), .v (vb r.2)], [], false⟩ := by
  refine scall_in Tryd.func30 rfl [(.tmp 6), (.tmp 7)] rfl (fun r => ⟨[.own 9 1 r.1.length (r.1.map eS), .v (vb r.2)], [], false⟩) (r := r) ?_
  unfold spec_l21Circle at h
  refine swp_seq ?_
  refine swp_reg ?_
  refine SRun.ck tbok 2 ⟨30, [(0, vl eClaim aList), (1, vs aPlace), (2, vi aYear)], []⟩ ?_
  refine SRun.nil ?_
  refine nx_n ?_
  refine swp_seq ?_
  refine swp_reg ?_
  refine SRun.ck tbok 2 ⟨30, [(0, vl eClaim aList), (1, vs aPlace), (2, vi aYear), (8, .own 10)], [(10, .arr 9 1 ([] : List ByteArray).length (([] : List ByteArray).map eS))]⟩ ?_
  refine SRun.nil ?_
  refine nx_n ?_
  refine swp_seq ?_
  refine swp_reg ?_
  refine SRun.ck tbok 2 ⟨30, [(0, vl eClaim aList), (1, vs aPlace), (2, vi aYear), (8, .own 10), (9, vs aPlace)], [(10, .arr 9 1 ([] : List ByteArray).length (([] : List ByteArray).map eS))]⟩ ?_
  refine SRun.nil ?_
  refine nx_n ?_
  refine swp_seq ?_
  refine swp_seqE (r := r) h (fun j1 => ⟨30, [(1, vs aPlace), (8, .own 8), (9, vs j1.1)], [(8, .arr 9 1 j1.2.length (j1.2.map eS))]⟩) (fun v2 h => ?_) (fun j1 h => ?_)
  refine swp_blk (a := v2) ?_
  refine swp_lpL (r := v2) (s := (aPlace, ([] : List ByteArray))) _ (fun s3 => ⟨30, [(0, vl eClaim aList), (1, vs aPlace), (2, vi aYear), (8, .own 8), (9, vs s3.1)], [(8, .arr 9 1 s3.2.length (s3.2.map eS))]⟩) _ ((Le.sub' ([(0, vl eClaim aList), (1, vs aPlace), (2, vi aYear), (8, .own 10), (9, vs aPlace)] : List (Nat × SV)) ([(10, .arr 9 1 ([] : List ByteArray).length (([] : List ByteArray).map eS))] : List (Nat × SO)) (by kernel_rfl) (by kernel_rfl)).trans ((Le.ren' (d := 10) (e := 8) (by kernel_rfl) (by kernel_rfl) (by kernel_rfl)).trans (Le.sub0))) h (fun s3 v4 h => ?_)
  refine swp_seq ?_
  refine swp_seq ?_
  refine swp_reg ?_
  refine SRun.ck tbok 2 ⟨30, [(0, vl eClaim aList), (1, vs aPlace), (2, vi aYear), (8, .own 8), (9, vs s3.1), (12, .own 8), (13, vs s3.1)], [(8, .arr 9 1 s3.2.length (s3.2.map eS))]⟩ ?_
  obtain ⟨x5, hx5, h⟩ := bind_some h
  refine SRun.ls (x_lstep_call (f := 38) (caps := []) (xs := [.own 8, vs s3.1]) (ys := [vl eS s3.2, vs s3.1]) (res := ⟨[.v (vi x5)], [], false⟩) (x := vi x5) (y := none) rfl ents38 (spec_l03Find_run s3.2 s3.1 _ hx5) rfl (by intro hc; cases hc)) ?_
  refine SRun.ck tbok 1 ⟨30, [(0, vl eClaim aList), (1, vs aPlace), (2, vi aYear), (8, .own 8), (9, vs s3.1), (15, vb (decide (x5 < 0)))], [(8, .arr 9 1 s3.2.length (s3.2.map eS))]⟩ ?_
  refine SRun.nil ?_
  refine nx_n ?_
  refine swp_cond (b := (decide (x5 < 0))) (by kernel_rfl) (fun hb => ?_) (fun hb => ?_)
  replace h := cond_t hb h
  refine swp_skip ?_
  refine nx_n ?_
  refine swp_blk (a := v4) ?_
  refine swp_seq ?_
  refine swp_reg ?_
  refine SRun.ck tbok 3 ⟨30, [(0, vl eClaim aList), (1, vs aPlace), (2, vi aYear), (9, vs s3.1), (16, .own 8), (18, .own 18)], [(8, .arr 9 1 s3.2.length (s3.2.map eS)), (18, .arr 9 1 ([s3.1] : List ByteArray).length (([s3.1] : List ByteArray).map eS))]⟩ ?_
  obtain ⟨x6, hx6, h⟩ := bind_some h
  refine SRun.estep (x_append (f := eS) (t := 51) (ti := ti51) (tj := ti9) (zs := [.string (ByteArray.mk #[])]) (e := 9) (m := 1) (d := 8) (xv := .own 18) hx6 tbok rfl rfl rfl rfl (x_src_o (e := 9))) ?_
  refine SRun.ck tbok 1 ⟨30, [(0, vl eClaim aList), (1, vs aPlace), (2, vi aYear), (8, .own 19), (9, vs s3.1)], [(19, .arr 9 1 x6.length (x6.map eS))]⟩ ?_
  refine SRun.nil ?_
  refine nx_n ?_
  refine swp_seq ?_
  refine swp_reg ?_
  refine SRun.ck tbok 3 ⟨30, [(0, vl eClaim aList), (1, vs aPlace), (2, vi aYear), (8, .own 19), (20, vl eClaim aList), (21, vs s3.1), (22, vi aYear)], [(19, .arr 9 1 x6.length (x6.map eS))]⟩ ?_
  obtain ⟨x7, hx7, h⟩ := bind_some h
  refine SRun.ls (x_lstep_call (f := 14) (caps := []) (xs := [vl eClaim aList, vs s3.1, vi aYear]) (ys := [vl eClaim aList, vs s3.1, vi aYear]) (res := ⟨[.v (vs x7)], [], false⟩) (x := vs x7) (y := none) rfl ents14 (spec_l21Parent_run aList s3.1 aYear _ hx7) rfl (by intro hc; cases hc)) ?_
  refine SRun.ck tbok 1 ⟨30, [(0, vl eClaim aList), (1, vs aPlace), (2, vi aYear), (8, .own 19), (9, vs x7)], [(19, .arr 9 1 x6.length (x6.map eS))]⟩ ?_
  refine SRun.nil ?_
  refine nx_n ?_
  refine swp_seq ?_
  refine swp_reg ?_
  refine SRun.ck tbok 2 ⟨30, [(0, vl eClaim aList), (1, vs aPlace), (2, vi aYear), (8, .own 19), (9, vs x7), (25, vb (x7.toList == (ByteArray.mk #[]).toList))], [(19, .arr 9 1 x6.length (x6.map eS))]⟩ ?_
  refine SRun.nil ?_
  refine nx_n ?_
  refine swp_cond (b := (x7.toList == (ByteArray.mk #[]).toList)) (by kernel_rfl) (fun hb => ?_) (fun hb => ?_)
  replace h := cond_t hb h
  refine swp_seq ?_
  refine swp_reg ?_
  refine SRun.ck tbok 2 ⟨30, [(6, .own 6), (7, vb false)], [(6, .arr 9 1 ([] : List ByteArray).length (([] : List ByteArray).map eS))]⟩ ?_
  refine SRun.nil ?_
  refine nx_n ?_
  refine swp_ret ?_
  replace h := Option.some.inj h
  subst h
  exact q_br (q_rr (q_br (q_rr (q_fr (fin2 (by kernel_rfl) (finO (d := 6) (holds_t (by kernel_rfl)) (by kernel_rfl) (flat_map eS_flat _) (by kernel_rfl)) (finV rfl SV.flat_of (holds_t (by kernel_rfl))))))))
  replace h := cond_f hb h
  refine swp_skip ?_
  replace h := Option.some.inj h
  subst h
  exact q_bn (q_l ((Le.sub' ([(0, vl eClaim aList), (1, vs aPlace), (2, vi aYear), (8, .own 19), (9, vs x7)] : List (Nat × SV)) ([(19, .arr 9 1 x6.length (x6.map eS))] : List (Nat × SO)) (by kernel_rfl) (by kernel_rfl)).trans ((Le.ren' (d := 19) (e := 8) (by kernel_rfl) (by kernel_rfl) (by kernel_rfl)).trans (Le.sub0))))
  replace h := cond_f hb h
  refine swp_exit ?_
  replace h := Option.some.inj h
  subst h
  exact nx_e (q_re (q_bh (q_l (Le.sub0))))
  refine swp_seq ?_
  refine swp_reg ?_
  refine SRun.ck tbok 6 ⟨30, [(6, .own 8), (7, vb (j1.1.toList == aPlace.toList))], [(8, .arr 9 1 j1.2.length (j1.2.map eS))]⟩ ?_
  refine SRun.nil ?_
  refine nx_n ?_
  refine swp_ret ?_
  replace h := Option.some.inj h
  subst h
  exact q_fr (fin2 (by kernel_rfl) (finO (d := 8) (holds_t (by kernel_rfl)) (by kernel_rfl) (flat_map eS_flat _) (by kernel_rfl)) (finV rfl SV.flat_of (holds_t (by kernel_rfl))))
theorem ents30 : Ents Tryd.prog 30 := ents_of Tryd.func30 (by kernel_rfl) rfl
noncomputable def spec_l21Consistent (aList : (List Claim)) : Option (Bool) :=
  (((forN (aList.length : Int) (fun (i3 : Int) (_ : Unit) => (forN i3 (fun (i7 : Int) (_ : Unit) => ((at' aList i3).bind fun x11 => ((at' aList i7).bind fun x12 => ((spec_l20Contradict x11 x12).bind fun x13 => (bif x13 then some (.inr (.inr (.inr false))) else some (.inl ())))))) (fun (_ : Unit) => .inl ()) 0 ())) (fun (_ : Unit) => .inl ()) 0 ())).bind (Sum.elim (fun (_ : Unit) => (((forN (aList.length : Int) (fun (i16 : Int) (_ : Unit) => (loop (fun (s20 : Int) => (((bif (decide (s20 < (aList.length : Int))) then ((at' aList i16).bind fun x22 => some (x22.Kind == 1)) else some false)).bind fun (j23 : Bool) => (bif j23 then ((((at' aList s20).bind fun x27 => ((at' aList i16).bind fun x28 => ((spec_l21Circle aList x27.Place x28.Years.From).bind fun x29 => (bif x29.2 then some (.inr (.inr (.inr false))) else some (.inl ())))))).bind (Sum.elim (fun (_ : Unit) => some (.inl (w64 (s20 + 1)))) (fun a => some (.inr a)))) else some (.inr (.inl ()))))) 0)) (fun (_ : Unit) => .inl ()) 0 ())).bind (Sum.elim (fun (_ : Unit) => some true) some))) some))
set_option maxRecDepth 100000 in
set_option maxHeartbeats 4000000 in
theorem spec_l21Consistent_run (aList : (List Claim)) (r : Bool) (h : spec_l21Consistent aList = some r) : SCall Tryd.prog 20 [.v (vl eClaim aList)] ⟨[.v (vb r)], [], false⟩ := by
  refine scall_in Tryd.func20 rfl [(.tmp 2)] rfl (fun r => ⟨[.v (vb r)], [], false⟩) (r := r) ?_
  unfold spec_l21Consistent at h
  refine swp_seq ?_
  refine swp_reg ?_
  refine SRun.ck tbok 1 ⟨66, [(0, vl eClaim aList)], []⟩ ?_
  refine SRun.nil ?_
  refine nx_n ?_
  refine swp_seq ?_
  refine swp_seq ?_
  refine swp_reg ?_
  refine SRun.ck tbok 1 ⟨66, [(0, vl eClaim aList), (3, vi 0)], []⟩ ?_
  refine SRun.nil ?_
  refine nx_n ?_
  refine swp_seqE (r := r) h (fun j1 => ⟨66, [(0, vl eClaim aList)], []⟩) (fun v2 h => ?_) (fun j1 h => ?_)
  refine swp_blk (a := v2) ?_
  refine swp_lpL (r := v2) (s := (0, ())) _ (fun s3 => ⟨66, [(0, vl eClaim aList), (3, vi s3.1)], []⟩) _ (Le.sub0) h (fun s3 v4 h => ?_)
  refine swp_seq ?_
  refine swp_seq ?_
  refine swp_reg ?_
  refine SRun.ck tbok 4 ⟨66, [(0, vl eClaim aList), (3, vi s3.1), (12, vb (decide (s3.1 < (aList.length : Int))))], []⟩ ?_
  refine SRun.nil ?_
  refine nx_n ?_
  refine swp_cond (b := (decide (s3.1 < (aList.length : Int)))) (by kernel_rfl) (fun hb => ?_) (fun hb => ?_)
  replace h := cond_t hb h
  refine swp_skip ?_
  refine nx_n ?_
  refine swp_seq ?_
  refine swp_seqL (r := v4) h (fun j5 => ⟨66, [(0, vl eClaim aList), (3, vi s3.1)], []⟩) (fun v6 h => ?_) (fun j5 h => ?_)
  refine swp_blk (a := v6) ?_
  refine swp_seq ?_
  refine swp_reg ?_
  refine SRun.ck tbok 1 ⟨66, [(0, vl eClaim aList), (3, vi s3.1), (4, vi 0)], []⟩ ?_
  refine SRun.nil ?_
  refine nx_n ?_
  refine swp_blk (a := v6) ?_
  refine swp_lpL (r := v6) (s := (0, ())) _ (fun s7 => ⟨66, [(0, vl eClaim aList), (3, vi s3.1), (4, vi s7.1)], []⟩) _ (Le.sub0) h (fun s7 v8 h => ?_)
  refine swp_seq ?_
  refine swp_seq ?_
  refine swp_reg ?_
  refine SRun.ck tbok 3 ⟨66, [(0, vl eClaim aList), (3, vi s3.1), (4, vi s7.1), (17, vb (decide (s7.1 < s3.1)))], []⟩ ?_
  refine SRun.nil ?_
  refine nx_n ?_
  refine swp_cond (b := (decide (s7.1 < s3.1))) (by kernel_rfl) (fun hb => ?_) (fun hb => ?_)
  replace h := cond_t hb h
  refine swp_skip ?_
  refine nx_n ?_
  refine swp_seq ?_
  refine swp_seqL (r := v8) h (fun j9 => ⟨66, [(0, vl eClaim aList), (3, vi s3.1), (4, vi s7.1)], []⟩) (fun v10 h => ?_) (fun j9 h => ?_)
  refine swp_blk (a := v10) ?_
  refine swp_seq ?_
  refine swp_dr mixed ?_
  refine DGo.chunk' tbok 2 (σ' := ⟨66, [(21, vi s3.1), (20, vl eClaim aList), (0, vl eClaim aList), (3, vi s3.1), (4, vi s7.1), (17, vb (decide (s7.1 < s3.1)))], []⟩) (by kernel_rfl) ?_
  obtain ⟨x11, hx11, h⟩ := bind_some h
  refine DGo.step (x_index (L := aList) (f := eClaim) (ti := ti26) (tj := ti39) (e := 39) (k := .i64) tbok rfl hx11) ?_
  refine DGo.chunk' tbok 3 (σ' := ⟨66, [(25, vi s7.1), (24, vl eClaim aList), (23, .agg [vs x11.Source, vi x11.Kind, vs x11.Place, vs x11.Value, vi x11.Years.From, vi x11.Years.To, vi x11.Weight]), (22, .ptr ((eClaim x11).map .tr) 0), (21, vi s3.1), (20, vl eClaim aList), (0, vl eClaim aList), (3, vi s3.1), (4, vi s7.1), (17, vb (decide (s7.1 < s3.1)))], []⟩) (by kernel_rfl) ?_
  obtain ⟨x12, hx12, h⟩ := bind_some h
  refine DGo.step (x_index (L := aList) (f := eClaim) (ti := ti26) (tj := ti39) (e := 39) (k := .i64) tbok rfl hx12) ?_
  refine DGo.chunk' tbok 1 (σ' := ⟨66, [(27, .agg [vs x12.Source, vi x12.Kind, vs x12.Place, vs x12.Value, vi x12.Years.From, vi x12.Years.To, vi x12.Weight]), (26, .ptr ((eClaim x12).map .tr) 0), (25, vi s7.1), (24, vl eClaim aList), (23, .agg [vs x11.Source, vi x11.Kind, vs x11.Place, vs x11.Value, vi x11.Years.From, vi x11.Years.To, vi x11.Weight]), (22, .ptr ((eClaim x11).map .tr) 0), (21, vi s3.1), (20, vl eClaim aList), (0, vl eClaim aList), (3, vi s3.1), (4, vi s7.1), (17, vb (decide (s7.1 < s3.1)))], []⟩) (by kernel_rfl) ?_
  obtain ⟨x13, hx13, h⟩ := bind_some h
  refine DGo.step (x_lstep_call (f := 29) (caps := []) (xs := [.agg [vs x11.Source, vi x11.Kind, vs x11.Place, vs x11.Value, vi x11.Years.From, vi x11.Years.To, vi x11.Weight], .agg [vs x12.Source, vi x12.Kind, vs x12.Place, vs x12.Value, vi x12.Years.From, vi x12.Years.To, vi x12.Weight]]) (ys := [.agg [vs x11.Source, vi x11.Kind, vs x11.Place, vs x11.Value, vi x11.Years.From, vi x11.Years.To, vi x11.Weight], .agg [vs x12.Source, vi x12.Kind, vs x12.Place, vs x12.Value, vi x12.Years.From, vi x12.Years.To, vi x12.Weight]]) (res := ⟨[.v (vb x13)], [], false⟩) (x := vb x13) (y := none) rfl ents29 (spec_l20Contradict_run x11 x12 _ hx13) rfl (by intro hc; cases hc)) ?_
  refine DGo.nil (by kernel_rfl) ?_
  refine nx_n ?_
  refine swp_cond (b := x13) (by kernel_rfl) (fun hb => ?_) (fun hb => ?_)
  replace h := cond_t hb h
  refine swp_seq ?_
  refine swp_reg ?_
  refine SRun.ck tbok 1 ⟨66, [(2, vb false)], []⟩ ?_
  refine SRun.nil ?_
  refine nx_n ?_
  refine swp_ret ?_
  replace h := Option.some.inj h
  subst h
  exact q_br (q_rr (q_rr (q_br (q_br (q_rr (q_rr (q_br (q_rr (q_fr (fin1 (by kernel_rfl) (finV rfl SV.flat_of (holds_t (by kernel_rfl)))))))))))))
  replace h := cond_f hb h
  refine swp_skip ?_
  replace h := Option.some.inj h
  subst h
  exact q_bn (q_l (Le.sub0))
  refine swp_reg ?_
  refine SRun.ck tbok 3 ⟨66, [(0, vl eClaim aList), (3, vi s3.1), (4, vi (w64 (s7.1 + 1)))], []⟩ ?_
  refine SRun.nil ?_
  replace h := Option.some.inj h
  subst h
  exact q_l (Le.sub0)
  replace h := cond_f hb h
  refine swp_exit ?_
  replace h := Option.some.inj h
  subst h
  exact nx_e (q_re (q_bh (q_bn (q_l (Le.sub0)))))
  refine swp_reg ?_
  refine SRun.ck tbok 3 ⟨66, [(0, vl eClaim aList), (3, vi (w64 (s3.1 + 1)))], []⟩ ?_
  refine SRun.nil ?_
  replace h := Option.some.inj h
  subst h
  exact q_l (Le.sub0)
  replace h := cond_f hb h
  refine swp_exit ?_
  replace h := Option.some.inj h
  subst h
  exact nx_e (q_re (q_bh (q_l (Le.sub0))))
  refine swp_seq ?_
  refine swp_seq ?_
  refine swp_reg ?_
  refine SRun.ck tbok 1 ⟨66, [(0, vl eClaim aList), (5, vi 0)], []⟩ ?_
  refine SRun.nil ?_
  refine nx_n ?_
  refine swp_seqE (r := r) h (fun j14 => ⟨66, [], []⟩) (fun v15 h => ?_) (fun j14 h => ?_)
  refine swp_blk (a := v15) ?_
  refine swp_lpL (r := v15) (s := (0, ())) _ (fun s16 => ⟨66, [(0, vl eClaim aList), (5, vi s16.1)], []⟩) _ (Le.sub0) h (fun s16 v17 h => ?_)
  refine swp_seq ?_
  refine swp_seq ?_
  refine swp_reg ?_
  refine SRun.ck tbok 4 ⟨66, [(0, vl eClaim aList), (5, vi s16.1), (32, vb (decide (s16.1 < (aList.length : Int))))], []⟩ ?_
  refine SRun.nil ?_
  refine nx_n ?_
  refine swp_cond (b := (decide (s16.1 < (aList.length : Int)))) (by kernel_rfl) (fun hb => ?_) (fun hb => ?_)
  replace h := cond_t hb h
  refine swp_skip ?_
  refine nx_n ?_
  refine swp_seq ?_
  refine swp_seqL (r := v17) h (fun j18 => ⟨66, [(0, vl eClaim aList), (5, vi s16.1)], []⟩) (fun v19 h => ?_) (fun j18 h => ?_)
  refine swp_blk (a := v19) ?_
  refine swp_seq ?_
  refine swp_reg ?_
  refine SRun.ck tbok 1 ⟨66, [(0, vl eClaim aList), (5, vi s16.1), (6, vi 0)], []⟩ ?_
  refine SRun.nil ?_
  refine nx_n ?_
  refine swp_blk (a := v19) ?_
  refine swp_lpL (r := v19) (s := 0) _ (fun s20 => ⟨66, [(0, vl eClaim aList), (5, vi s16.1), (6, vi s20)], []⟩) _ (Le.sub0) h (fun s20 v21 h => ?_)
  refine swp_seq ?_
  refine swp_seq ?_
  refine swp_regJ h (fun j23 => ⟨66, [(0, vl eClaim aList), (5, vi s16.1), (6, vi s20), (46, vb j23)], []⟩) (fun v24 h => ?_) (fun j23 h => ?_)
  refine SRun.ck tbok 5 ⟨66, [(0, vl eClaim aList), (5, vi s16.1), (6, vi s20), (39, vb (decide (s20 < (aList.length : Int))))], []⟩ ?_
  refine SRun.cut [(39, fun b => b)] (b := (decide (s20 < (aList.length : Int)))) (by kernel_rfl) (fun hb => ?_) (fun hb => ?_)
  replace h := cond_t hb h
  refine SRun.ck tbok 2 ⟨66, [(0, vl eClaim aList), (5, vi s16.1), (6, vi s20), (39, vb true), (40, vl eClaim aList), (41, vi s16.1)], []⟩ ?_
  obtain ⟨x22, hx22, h⟩ := bind_some h
  refine SRun.ls (x_index (L := aList) (f := eClaim) (ti := ti26) (tj := ti39) (e := 39) (k := .i64) tbok rfl hx22) ?_
  refine SRun.ck tbok 4 ⟨66, [(0, vl eClaim aList), (5, vi s16.1), (6, vi s20), (46, vb (x22.Kind == 1))], []⟩ ?_
  refine SRun.nil ?_
  replace h := Option.some.inj h
  subst h
  exact Le.sub0
  replace h := cond_f hb h
  refine SRun.ck tbok 7 ⟨66, [(0, vl eClaim aList), (5, vi s16.1), (6, vi s20), (46, vb false)], []⟩ ?_
  refine SRun.nil ?_
  replace h := Option.some.inj h
  subst h
  exact Le.sub0
  refine swp_cond (b := j23) (by kernel_rfl) (fun hb => ?_) (fun hb => ?_)
  replace h := cond_t hb h
  refine swp_skip ?_
  refine nx_n ?_
  refine swp_seq ?_
  refine swp_seqL (r := v21) h (fun j25 => ⟨66, [(0, vl eClaim aList), (5, vi s16.1), (6, vi s20)], []⟩) (fun v26 h => ?_) (fun j25 h => ?_)
  refine swp_blk (a := v26) ?_
  refine swp_seq ?_
  refine swp_dr mixed ?_
  refine DGo.chunk' tbok 3 (σ' := ⟨66, [(52, vi s20), (51, vl eClaim aList), (50, vl eClaim aList), (0, vl eClaim aList), (5, vi s16.1), (6, vi s20), (46, vb j23)], []⟩) (by kernel_rfl) ?_
  obtain ⟨x27, hx27, h⟩ := bind_some h
  refine DGo.step (x_index (L := aList) (f := eClaim) (ti := ti26) (tj := ti39) (e := 39) (k := .i64) tbok rfl hx27) ?_
  refine DGo.chunk' tbok 4 (σ' := ⟨66, [(57, vi s16.1), (56, vl eClaim aList), (55, vs x27.Place), (54, .ptr ((eClaim x27).map .tr) 2), (53, .ptr ((eClaim x27).map .tr) 0), (52, vi s20), (51, vl eClaim aList), (50, vl eClaim aList), (0, vl eClaim aList), (5, vi s16.1), (6, vi s20), (46, vb j23)], []⟩) (by kernel_rfl) ?_
  obtain ⟨x28, hx28, h⟩ := bind_some h
  refine DGo.step (x_index (L := aList) (f := eClaim) (ti := ti26) (tj := ti39) (e := 39) (k := .i64) tbok rfl hx28) ?_
  refine DGo.chunk' tbok 3 (σ' := ⟨66, [(61, vi x28.Years.From), (60, .ptr ((eClaim x28).map .tr) 4), (59, .ptr ((eClaim x28).map .tr) 4), (58, .ptr ((eClaim x28).map .tr) 0), (57, vi s16.1), (56, vl eClaim aList), (55, vs x27.Place), (54, .ptr ((eClaim x27).map .tr) 2), (53, .ptr ((eClaim x27).map .tr) 0), (52, vi s20), (51, vl eClaim aList), (50, vl eClaim aList), (0, vl eClaim aList), (5, vi s16.1), (6, vi s20), (46, vb j23)], []⟩) (by kernel_rfl) ?_
  obtain ⟨x29, hx29, h⟩ := bind_some h
  refine DGo.step (x_lstep_call (f := 30) (caps := []) (xs := [vl eClaim aList, vs x27.Place, vi x28.Years.From]) (ys := [vl eClaim aList, vs x27.Place, vi x28.Years.From]) (res := ⟨[.own 9 1 x29.1.length (x29.1.map eS), .v (vb x29.2)], [], false⟩) (x := .tup [.own 62, vb x29.2]) (y := some (.arr 9 1 x29.1.length (x29.1.map eS))) rfl ents30 (spec_l21Circle_run aList x27.Place x28.Years.From _ hx29) rfl (by intro hc; cases hc)) ?_
  refine DGo.chunk' tbok 5 (σ' := ⟨66, [(8, vb x29.2), (7, .own 62), (64, vb x29.2), (63, .own 62), (49, .tup [.own 62, vb x29.2]), (62, .tup [.own 62, vb x29.2]), (61, vi x28.Years.From), (60, .ptr ((eClaim x28).map .tr) 4), (59, .ptr ((eClaim x28).map .tr) 4), (58, .ptr ((eClaim x28).map .tr) 0), (57, vi s16.1), (56, vl eClaim aList), (55, vs x27.Place), (54, .ptr ((eClaim x27).map .tr) 2), (53, .ptr ((eClaim x27).map .tr) 0), (52, vi s20), (51, vl eClaim aList), (50, vl eClaim aList), (0, vl eClaim aList), (5, vi s16.1), (6, vi s20), (46, vb j23)], [(62, .arr 9 1 x29.1.length (x29.1.map eS))]⟩) (by kernel_rfl) ?_
  refine DGo.nil (by kernel_rfl) ?_
  refine nx_n ?_
  refine swp_seq ?_
  refine swp_reg ?_
  refine SRun.ck tbok 1 ⟨66, [(0, vl eClaim aList), (5, vi s16.1), (6, vi s20), (65, vb x29.2)], []⟩ ?_
  refine SRun.nil ?_
  refine nx_n ?_
  refine swp_cond (b := x29.2) (by kernel_rfl) (fun hb => ?_) (fun hb => ?_)
  replace h := cond_t hb h
  refine swp_seq ?_
  refine swp_reg ?_
  refine SRun.ck tbok 1 ⟨66, [(2, vb false)], []⟩ ?_
  refine SRun.nil ?_
  refine nx_n ?_
  refine swp_ret ?_
  replace h := Option.some.inj h
  subst h
  exact q_br (q_rr (q_rr (q_br (q_br (q_rr (q_rr (q_br (q_rr (q_fr (fin1 (by kernel_rfl) (finV rfl SV.flat_of (holds_t (by kernel_rfl)))))))))))))
  replace h := cond_f hb h
  refine swp_skip ?_
  replace h := Option.some.inj h
  subst h
  exact q_bn (q_l (Le.sub0))
  refine swp_reg ?_
  refine SRun.ck tbok 3 ⟨66, [(0, vl eClaim aList), (5, vi s16.1), (6, vi (w64 (s20 + 1)))], []⟩ ?_
  refine SRun.nil ?_
  replace h := Option.some.inj h
  subst h
  exact q_l (Le.sub0)
  replace h := cond_f hb h
  refine swp_exit ?_
  replace h := Option.some.inj h
  subst h
  exact nx_e (q_re (q_bh (q_bn (q_l (Le.sub0)))))
  refine swp_reg ?_
  refine SRun.ck tbok 3 ⟨66, [(0, vl eClaim aList), (5, vi (w64 (s16.1 + 1)))], []⟩ ?_
  refine SRun.nil ?_
  replace h := Option.some.inj h
  subst h
  exact q_l (Le.sub0)
  replace h := cond_f hb h
  refine swp_exit ?_
  replace h := Option.some.inj h
  subst h
  exact nx_e (q_re (q_bh (q_l (Le.sub0))))
  refine swp_seq ?_
  refine swp_reg ?_
  refine SRun.ck tbok 1 ⟨66, [(2, vb true)], []⟩ ?_
  refine SRun.nil ?_
  refine nx_n ?_
  refine swp_ret ?_
  replace h := Option.some.inj h
  subst h
  exact q_fr (fin1 (by kernel_rfl) (finV rfl SV.flat_of (holds_t (by kernel_rfl))))
theorem ents20 : Ents Tryd.prog 20 := ents_of Tryd.func20 (by kernel_rfl) rfl
noncomputable def spec_l21Sound (aList : (List Claim)) (aPlace : ByteArray) (aYear : Int) : Option (Int) :=
  ((spec_l21Code aList aPlace aYear).bind fun x1 => (((bif (x1 == 0) then ((spec_l21Consistent aList).bind fun x2 => some (!x2)) else some false)).bind fun (j3 : Bool) => (bif j3 then some 5 else some x1)))
set_option maxRecDepth 100000 in
set_option maxHeartbeats 4000000 in
theorem spec_l21Sound_run (aList : (List Claim)) (aPlace : ByteArray) (aYear : Int) (r : Int) (h : spec_l21Sound aList aPlace aYear = some r) : SCall Tryd.prog 13 [.v (vl eClaim aList), .v (vs aPlace), .v (vi aYear)] ⟨[.v (vi r)], [], false⟩ := by
  refine scall_in Tryd.func13 rfl [(.tmp 6)] rfl (fun r => ⟨[.v (vi r)], [], false⟩) (r := r) ?_
  unfold spec_l21Sound at h
  refine swp_seq ?_
  refine swp_reg ?_
  refine SRun.ck tbok 1 ⟨20, [(0, vl eClaim aList), (1, vs aPlace), (2, vi aYear)], []⟩ ?_
  refine SRun.nil ?_
  refine nx_n ?_
  refine swp_seq ?_
  refine swp_reg ?_
  refine SRun.ck tbok 3 ⟨20, [(0, vl eClaim aList), (8, vl eClaim aList), (9, vs aPlace), (10, vi aYear)], []⟩ ?_
  obtain ⟨x1, hx1, h⟩ := bind_some h
  refine SRun.ls (x_lstep_call (f := 19) (caps := []) (xs := [vl eClaim aList, vs aPlace, vi aYear]) (ys := [vl eClaim aList, vs aPlace, vi aYear]) (res := ⟨[.v (vi x1)], [], false⟩) (x := vi x1) (y := none) rfl ents19 (spec_l21Code_run aList aPlace aYear _ hx1) rfl (by intro hc; cases hc)) ?_
  refine SRun.ck tbok 1 ⟨20, [(0, vl eClaim aList), (7, vi x1)], []⟩ ?_
  refine SRun.nil ?_
  refine nx_n ?_
  refine swp_seq ?_
  refine swp_seq ?_
  refine swp_regJ h (fun j3 => ⟨20, [(7, vi x1), (18, vb j3)], []⟩) (fun v4 h => ?_) (fun j3 h => ?_)
  refine SRun.ck tbok 3 ⟨20, [(0, vl eClaim aList), (7, vi x1), (14, vb (x1 == 0))], []⟩ ?_
  refine SRun.cut [(14, fun b => b)] (b := (x1 == 0)) (by kernel_rfl) (fun hb => ?_) (fun hb => ?_)
  replace h := cond_t hb h
  refine SRun.ck tbok 1 ⟨20, [(7, vi x1), (14, vb true), (15, vl eClaim aList)], []⟩ ?_
  obtain ⟨x2, hx2, h⟩ := bind_some h
  refine SRun.ls (x_lstep_call (f := 20) (caps := []) (xs := [vl eClaim aList]) (ys := [vl eClaim aList]) (res := ⟨[.v (vb x2)], [], false⟩) (x := vb x2) (y := none) rfl ents20 (spec_l21Consistent_run aList _ hx2) rfl (by intro hc; cases hc)) ?_
  refine SRun.ck tbok 2 ⟨20, [(7, vi x1), (18, vb (!x2))], []⟩ ?_
  refine SRun.nil ?_
  replace h := Option.some.inj h
  subst h
  exact Le.sub0
  replace h := cond_f hb h
  refine SRun.ck tbok 4 ⟨20, [(7, vi x1), (18, vb false)], []⟩ ?_
  refine SRun.nil ?_
  replace h := Option.some.inj h
  subst h
  exact Le.sub0
  refine swp_cond (b := j3) (by kernel_rfl) (fun hb => ?_) (fun hb => ?_)
  replace h := cond_t hb h
  refine swp_seq ?_
  refine swp_reg ?_
  refine SRun.ck tbok 1 ⟨20, [(6, vi 5)], []⟩ ?_
  refine SRun.nil ?_
  refine nx_n ?_
  refine swp_ret ?_
  replace h := Option.some.inj h
  subst h
  exact nx_r (q_fr (fin1 (by kernel_rfl) (finV rfl SV.flat_of (holds_t (by kernel_rfl)))))
  replace h := cond_f hb h
  refine swp_skip ?_
  refine nx_n ?_
  refine swp_seq ?_
  refine swp_reg ?_
  refine SRun.ck tbok 2 ⟨20, [(6, vi x1)], []⟩ ?_
  refine SRun.nil ?_
  refine nx_n ?_
  refine swp_ret ?_
  replace h := Option.some.inj h
  subst h
  exact q_fr (fin1 (by kernel_rfl) (finV rfl SV.flat_of (holds_t (by kernel_rfl))))
theorem ents13 : Ents Tryd.prog 13 := ents_of Tryd.func13 (by kernel_rfl) rfl
noncomputable def spec_l21Name (aList : (List Claim)) (aPlace : ByteArray) (aYear : Int) : Option (ByteArray) :=
  (((forN (aList.length : Int) (fun (i3 : Int) (_ : Unit) => ((at' aList i3).bind fun x7 => (((bif (x7.Kind == 0) then (bif (x7.Place.toList == aPlace.toList) then ((spec_l01In aYear x7.Years.From x7.Years.To).bind fun x8 => some x8) else some false) else some false)).bind fun (j9 : Bool) => (bif j9 then some (.inr (.inr x7.Value)) else some (.inl ()))))) (fun (_ : Unit) => .inl ()) 0 ())).bind (Sum.elim (fun (_ : Unit) => some (ByteArray.mk #[])) some))
set_option maxRecDepth 100000 in
set_option maxHeartbeats 4000000 in
theorem spec_l21Name_run (aList : (List Claim)) (aPlace : ByteArray) (aYear : Int) (r : ByteArray) (h : spec_l21Name aList aPlace aYear = some r) : SCall Tryd.prog 18 [.v (vl eClaim aList), .v (vs aPlace), .v (vi aYear)] ⟨[.v (vs r)], [], false⟩ := by
  refine scall_in Tryd.func18 rfl [(.tmp 6)] rfl (fun r => ⟨[.v (vs r)], [], false⟩) (r := r) ?_
  unfold spec_l21Name at h
  refine swp_seq ?_
  refine swp_reg ?_
  refine SRun.ck tbok 1 ⟨40, [(0, vl eClaim aList), (1, vs aPlace), (2, vi aYear)], []⟩ ?_
  refine SRun.nil ?_
  refine nx_n ?_
  refine swp_seq ?_
  refine swp_seq ?_
  refine swp_reg ?_
  refine SRun.ck tbok 1 ⟨40, [(0, vl eClaim aList), (1, vs aPlace), (2, vi aYear), (7, vi 0)], []⟩ ?_
  refine SRun.nil ?_
  refine nx_n ?_
  refine swp_seqE (r := r) h (fun j1 => ⟨40, [], []⟩) (fun v2 h => ?_) (fun j1 h => ?_)
  refine swp_blk (a := v2) ?_
  refine swp_lpL (r := v2) (s := (0, ())) _ (fun s3 => ⟨40, [(0, vl eClaim aList), (1, vs aPlace), (2, vi aYear), (7, vi s3.1)], []⟩) _ (Le.sub0) h (fun s3 v4 h => ?_)
  refine swp_seq ?_
  refine swp_seq ?_
  refine swp_reg ?_
  refine SRun.ck tbok 4 ⟨40, [(0, vl eClaim aList), (1, vs aPlace), (2, vi aYear), (7, vi s3.1), (12, vb (decide (s3.1 < (aList.length : Int))))], []⟩ ?_
  refine SRun.nil ?_
  refine nx_n ?_
  refine swp_cond (b := (decide (s3.1 < (aList.length : Int)))) (by kernel_rfl) (fun hb => ?_) (fun hb => ?_)
  replace h := cond_t hb h
  refine swp_skip ?_
  refine nx_n ?_
  refine swp_seq ?_
  refine swp_seqL (r := v4) h (fun j5 => ⟨40, [(0, vl eClaim aList), (1, vs aPlace), (2, vi aYear), (7, vi s3.1)], []⟩) (fun v6 h => ?_) (fun j5 h => ?_)
  refine swp_blk (a := v6) ?_
  refine swp_seq ?_
  refine swp_reg ?_
  refine SRun.ck tbok 2 ⟨40, [(0, vl eClaim aList), (1, vs aPlace), (2, vi aYear), (7, vi s3.1), (15, vl eClaim aList), (16, vi s3.1)], []⟩ ?_
  obtain ⟨x7, hx7, h⟩ := bind_some h
  refine SRun.ls (x_index (L := aList) (f := eClaim) (ti := ti26) (tj := ti39) (e := 39) (k := .i64) tbok rfl hx7) ?_
  refine SRun.ck tbok 2 ⟨40, [(0, vl eClaim aList), (1, vs aPlace), (2, vi aYear), (7, vi s3.1), (8, .ref 8 0), (18, .agg [vs x7.Source, vi x7.Kind, vs x7.Place, vs x7.Value, vi x7.Years.From, vi x7.Years.To, vi x7.Weight])], [(8, .box [vs (ByteArray.mk #[]), vi 0, vs (ByteArray.mk #[]), vs (ByteArray.mk #[]), vi 0, vi 0, vi 0])]⟩ ?_
  refine SRun.estep (x_estep_store (d := 8) (k := 0) (ti := ti39) (cs := [vs (ByteArray.mk #[]), vi 0, vs (ByteArray.mk #[]), vs (ByteArray.mk #[]), vi 0, vi 0, vi 0]) (vs := [vs x7.Source, vi x7.Kind, vs x7.Place, vs x7.Value, vi x7.Years.From, vi x7.Years.To, vi x7.Weight]) (v := .agg [vs x7.Source, vi x7.Kind, vs x7.Place, vs x7.Value, vi x7.Years.From, vi x7.Years.To, vi x7.Weight]) tbok rfl rfl) ?_
  refine SRun.nil ?_
  refine nx_n ?_
  refine swp_seq ?_
  refine swp_regJ h (fun j9 => ⟨40, [(0, vl eClaim aList), (1, vs aPlace), (2, vi aYear), (7, vi s3.1), (8, .ref 8 0), (37, vb j9)], [(8, .box [vs x7.Source, vi x7.Kind, vs x7.Place, vs x7.Value, vi x7.Years.From, vi x7.Years.To, vi x7.Weight])]⟩) (fun v10 h => ?_) (fun j9 h => ?_)
  refine SRun.ck tbok 4 ⟨40, [(0, vl eClaim aList), (1, vs aPlace), (2, vi aYear), (7, vi s3.1), (8, .ref 8 0), (22, vb (x7.Kind == 0))], [(8, .box [vs x7.Source, vi x7.Kind, vs x7.Place, vs x7.Value, vi x7.Years.From, vi x7.Years.To, vi x7.Weight])]⟩ ?_
  refine SRun.cut [(22, fun b => b)] (b := (x7.Kind == 0)) (by kernel_rfl) (fun hb => ?_) (fun hb => ?_)
  replace h := cond_t hb h
  refine SRun.ck tbok 6 ⟨40, [(0, vl eClaim aList), (1, vs aPlace), (2, vi aYear), (7, vi s3.1), (8, .ref 8 0), (28, vb (x7.Place.toList == aPlace.toList))], [(8, .box [vs x7.Source, vi x7.Kind, vs x7.Place, vs x7.Value, vi x7.Years.From, vi x7.Years.To, vi x7.Weight])]⟩ ?_
  refine SRun.cut [(28, fun b => b)] (b := (x7.Place.toList == aPlace.toList)) (by kernel_rfl) (fun hb => ?_) (fun hb => ?_)
  replace h := cond_t hb h
  refine SRun.ck tbok 7 ⟨40, [(0, vl eClaim aList), (1, vs aPlace), (2, vi aYear), (7, vi s3.1), (8, .ref 8 0), (28, vb true), (29, vi aYear), (32, vi x7.Years.From), (35, vi x7.Years.To)], [(8, .box [vs x7.Source, vi x7.Kind, vs x7.Place, vs x7.Value, vi x7.Years.From, vi x7.Years.To, vi x7.Weight])]⟩ ?_
  obtain ⟨x8, hx8, h⟩ := bind_some h
  refine SRun.ls (x_lstep_call (f := 21) (caps := []) (xs := [vi aYear, vi x7.Years.From, vi x7.Years.To]) (ys := [vi aYear, vi x7.Years.From, vi x7.Years.To]) (res := ⟨[.v (vb x8)], [], false⟩) (x := vb x8) (y := none) rfl ents21 (spec_l01In_run aYear x7.Years.From x7.Years.To _ hx8) rfl (by intro hc; cases hc)) ?_
  refine SRun.ck tbok 1 ⟨40, [(0, vl eClaim aList), (1, vs aPlace), (2, vi aYear), (7, vi s3.1), (8, .ref 8 0), (37, vb x8)], [(8, .box [vs x7.Source, vi x7.Kind, vs x7.Place, vs x7.Value, vi x7.Years.From, vi x7.Years.To, vi x7.Weight])]⟩ ?_
  refine SRun.nil ?_
  replace h := Option.some.inj h
  subst h
  exact Le.sub0
  replace h := cond_f hb h
  refine SRun.ck tbok 9 ⟨40, [(0, vl eClaim aList), (1, vs aPlace), (2, vi aYear), (7, vi s3.1), (8, .ref 8 0), (37, vb false)], [(8, .box [vs x7.Source, vi x7.Kind, vs x7.Place, vs x7.Value, vi x7.Years.From, vi x7.Years.To, vi x7.Weight])]⟩ ?_
  refine SRun.nil ?_
  replace h := Option.some.inj h
  subst h
  exact Le.sub0
  replace h := cond_f hb h
  refine SRun.ck tbok 15 ⟨40, [(0, vl eClaim aList), (1, vs aPlace), (2, vi aYear), (7, vi s3.1), (8, .ref 8 0), (37, vb false)], [(8, .box [vs x7.Source, vi x7.Kind, vs x7.Place, vs x7.Value, vi x7.Years.From, vi x7.Years.To, vi x7.Weight])]⟩ ?_
  refine SRun.nil ?_
  replace h := Option.some.inj h
  subst h
  exact Le.sub0
  refine swp_cond (b := j9) (by kernel_rfl) (fun hb => ?_) (fun hb => ?_)
  replace h := cond_t hb h
  refine swp_seq ?_
  refine swp_reg ?_
  refine SRun.ck tbok 3 ⟨40, [(6, vs x7.Value)], []⟩ ?_
  refine SRun.nil ?_
  refine nx_n ?_
  refine swp_ret ?_
  replace h := Option.some.inj h
  subst h
  exact q_br (q_rr (q_rr (q_br (q_rr (q_fr (fin1 (by kernel_rfl) (finV rfl SV.flat_of (holds_t (by kernel_rfl)))))))))
  replace h := cond_f hb h
  refine swp_skip ?_
  replace h := Option.some.inj h
  subst h
  exact q_bn (q_l (Le.sub0))
  refine swp_reg ?_
  refine SRun.ck tbok 3 ⟨40, [(0, vl eClaim aList), (1, vs aPlace), (2, vi aYear), (7, vi (w64 (s3.1 + 1)))], []⟩ ?_
  refine SRun.nil ?_
  replace h := Option.some.inj h
  subst h
  exact q_l (Le.sub0)
  replace h := cond_f hb h
  refine swp_exit ?_
  replace h := Option.some.inj h
  subst h
  exact nx_e (q_re (q_bh (q_l (Le.sub0))))
  refine swp_seq ?_
  refine swp_reg ?_
  refine SRun.ck tbok 1 ⟨40, [(6, vs (ByteArray.mk #[]))], []⟩ ?_
  refine SRun.nil ?_
  refine nx_n ?_
  refine swp_ret ?_
  replace h := Option.some.inj h
  subst h
  exact q_fr (fin1 (by kernel_rfl) (finV rfl SV.flat_of (holds_t (by kernel_rfl))))
theorem ents18 : Ents Tryd.prog 18 := ents_of Tryd.func18 (by kernel_rfl) rfl
noncomputable def spec_NameBy (aList : (List Claim)) (aPlace : ByteArray) (aYear : Int) : Option (ByteArray × Int) :=
  ((spec_l21Sound aList aPlace aYear).bind fun x1 => (bif (x1 != 0) then some ((ByteArray.mk #[]), x1) else ((spec_l21Name aList aPlace aYear).bind fun x2 => (bif (x2.toList == (ByteArray.mk #[]).toList) then some ((ByteArray.mk #[]), 4) else some (x2, 0)))))
set_option maxRecDepth 100000 in
set_option maxHeartbeats 4000000 in
theorem spec_NameBy_run (aList : (List Claim)) (aPlace : ByteArray) (aYear : Int) (r : ByteArray × Int) (h : spec_NameBy aList aPlace aYear = some r) : SCall Tryd.prog 10 [.v (vl eClaim aList), .v (vs aPlace), .v (vi aYear)] ⟨[.v (vs r.1), .v (vi r.2)], [], false⟩ := by
  refine scall_in Tryd.func10 rfl [(.tmp 6), (.tmp 7)] rfl (fun r => ⟨[.v (vs r.1), .v (vi r.2)], [], false⟩) (r := r) ?_
  unfold spec_NameBy at h
  refine swp_seq ?_
  refine swp_reg ?_
  refine SRun.ck tbok 2 ⟨24, [(0, vl eClaim aList), (1, vs aPlace), (2, vi aYear)], []⟩ ?_
  refine SRun.nil ?_
  refine nx_n ?_
  refine swp_seq ?_
  refine swp_reg ?_
  refine SRun.ck tbok 3 ⟨24, [(0, vl eClaim aList), (1, vs aPlace), (2, vi aYear), (10, vl eClaim aList), (11, vs aPlace), (12, vi aYear)], []⟩ ?_
  obtain ⟨x1, hx1, h⟩ := bind_some h
  refine SRun.ls (x_lstep_call (f := 13) (caps := []) (xs := [vl eClaim aList, vs aPlace, vi aYear]) (ys := [vl eClaim aList, vs aPlace, vi aYear]) (res := ⟨[.v (vi x1)], [], false⟩) (x := vi x1) (y := none) rfl ents13 (spec_l21Sound_run aList aPlace aYear _ hx1) rfl (by intro hc; cases hc)) ?_
  refine SRun.ck tbok 1 ⟨24, [(0, vl eClaim aList), (1, vs aPlace), (2, vi aYear), (8, vi x1)], []⟩ ?_
  refine SRun.nil ?_
  refine nx_n ?_
  refine swp_seq ?_
  refine swp_seq ?_
  refine swp_reg ?_
  refine SRun.ck tbok 2 ⟨24, [(0, vl eClaim aList), (1, vs aPlace), (2, vi aYear), (8, vi x1), (15, vb (x1 != 0))], []⟩ ?_
  refine SRun.nil ?_
  refine nx_n ?_
  refine swp_cond (b := (x1 != 0)) (by kernel_rfl) (fun hb => ?_) (fun hb => ?_)
  replace h := cond_t hb h
  refine swp_seq ?_
  refine swp_reg ?_
  refine SRun.ck tbok 3 ⟨24, [(6, vs (ByteArray.mk #[])), (7, vi x1)], []⟩ ?_
  refine SRun.nil ?_
  refine nx_n ?_
  refine swp_ret ?_
  replace h := Option.some.inj h
  subst h
  exact nx_r (q_fr (fin2 (by kernel_rfl) (finV rfl SV.flat_of (holds_t (by kernel_rfl))) (finV rfl SV.flat_of (holds_t (by kernel_rfl)))))
  replace h := cond_f hb h
  refine swp_skip ?_
  refine nx_n ?_
  refine swp_seq ?_
  refine swp_reg ?_
  refine SRun.ck tbok 3 ⟨24, [(17, vl eClaim aList), (18, vs aPlace), (19, vi aYear)], []⟩ ?_
  obtain ⟨x2, hx2, h⟩ := bind_some h
  refine SRun.ls (x_lstep_call (f := 18) (caps := []) (xs := [vl eClaim aList, vs aPlace, vi aYear]) (ys := [vl eClaim aList, vs aPlace, vi aYear]) (res := ⟨[.v (vs x2)], [], false⟩) (x := vs x2) (y := none) rfl ents18 (spec_l21Name_run aList aPlace aYear _ hx2) rfl (by intro hc; cases hc)) ?_
  refine SRun.ck tbok 1 ⟨24, [(9, vs x2)], []⟩ ?_
  refine SRun.nil ?_
  refine nx_n ?_
  refine swp_seq ?_
  refine swp_seq ?_
  refine swp_reg ?_
  refine SRun.ck tbok 2 ⟨24, [(9, vs x2), (22, vb (x2.toList == (ByteArray.mk #[]).toList))], []⟩ ?_
  refine SRun.nil ?_
  refine nx_n ?_
  refine swp_cond (b := (x2.toList == (ByteArray.mk #[]).toList)) (by kernel_rfl) (fun hb => ?_) (fun hb => ?_)
  replace h := cond_t hb h
  refine swp_seq ?_
  refine swp_reg ?_
  refine SRun.ck tbok 2 ⟨24, [(6, vs (ByteArray.mk #[])), (7, vi 4)], []⟩ ?_
  refine SRun.nil ?_
  refine nx_n ?_
  refine swp_ret ?_
  replace h := Option.some.inj h
  subst h
  exact nx_r (q_fr (fin2 (by kernel_rfl) (finV rfl SV.flat_of (holds_t (by kernel_rfl))) (finV rfl SV.flat_of (holds_t (by kernel_rfl)))))
  replace h := cond_f hb h
  refine swp_skip ?_
  refine nx_n ?_
  refine swp_seq ?_
  refine swp_reg ?_
  refine SRun.ck tbok 3 ⟨24, [(6, vs x2), (7, vi 0)], []⟩ ?_
  refine SRun.nil ?_
  refine nx_n ?_
  refine swp_ret ?_
  replace h := Option.some.inj h
  subst h
  exact q_fr (fin2 (by kernel_rfl) (finV rfl SV.flat_of (holds_t (by kernel_rfl))) (finV rfl SV.flat_of (holds_t (by kernel_rfl))))
theorem ents10 : Ents Tryd.prog 10 := ents_of Tryd.func10 (by kernel_rfl) rfl
noncomputable def impl_within (aX : Int) (aLow : Int) (aHigh : Int) : Option (Bool) :=
  some ((decide (aX ≥ aLow)) && (decide (aX ≤ aHigh)))
set_option maxRecDepth 100000 in
set_option maxHeartbeats 4000000 in
theorem impl_within_run (aX : Int) (aLow : Int) (aHigh : Int) (r : Bool) (h : impl_within aX aLow aHigh = some r) : SCall Tryd.prog 44 [.v (vi aX), .v (vi aLow), .v (vi aHigh)] ⟨[.v (vb r)], [], false⟩ := by
  refine scall_in Tryd.func44 rfl [(.tmp 6)] rfl (fun r => ⟨[.v (vb r)], [], false⟩) (r := r) ?_
  unfold impl_within at h
  refine swp_seq ?_
  refine swp_reg ?_
  refine SRun.ck tbok 1 ⟨15, [(0, vi aX), (1, vi aLow), (2, vi aHigh)], []⟩ ?_
  refine SRun.nil ?_
  refine nx_n ?_
  refine swp_seq ?_
  refine swp_regP ⟨15, [(6, vb ((decide (aX ≥ aLow)) && (decide (aX ≤ aHigh))))], []⟩ ?_ ?_
  refine SRun.ck tbok 4 ⟨15, [(0, vi aX), (2, vi aHigh), (10, vb (decide (aX ≥ aLow)))], []⟩ ?_
  generalize (decide (aX ≥ aLow)) = bb
  cases bb
  refine SRun.ck tbok 5 ⟨15, [(6, vb false)], []⟩ ?_
  exact SRun.nil (Le.sub0)
  refine SRun.ck tbok 5 ⟨15, [(6, vb (decide (aX ≤ aHigh)))], []⟩ ?_
  exact SRun.nil (Le.sub0)
  refine swp_ret ?_
  replace h := Option.some.inj h
  subst h
  exact q_fr (fin1 (by kernel_rfl) (finV rfl SV.flat_of (holds_t (by kernel_rfl))))
theorem ents44 : Ents Tryd.prog 44 := ents_of Tryd.func44 (by kernel_rfl) rfl
theorem strings_Trim_run (s c r : ByteArray) (h : strings_Trim s c = some r) : SCall Tryd.prog 57 [.v (.tr (.str s)), .v (.tr (.str c))] ⟨[.v (.tr (.str r))], [], false⟩ := trim_run Tryd.lays160 (by kernel_rfl) 57 rfl s c r h
theorem ents57 : Ents Tryd.prog 57 := ents_of Tryd.func57 (by kernel_rfl) rfl
noncomputable def impl_isSmall (aS : ByteArray) (aLeast : Int) (aMost : Int) : Option (Bool) :=
  ((((impl_within (aS.size : Int) aLeast aMost).bind fun x1 => (bif x1 then ((strings_Trim aS (ByteArray.mk #[97, 98, 99, 100, 101, 102, 103, 104, 105, 106, 107, 108, 109, 110, 111, 112, 113, 114, 115, 116, 117, 118, 119, 120, 121, 122])).bind fun x2 => some (x2.toList == (ByteArray.mk #[]).toList)) else some false))).bind fun (j3 : Bool) => some j3)
set_option maxRecDepth 100000 in
set_option maxHeartbeats 4000000 in
theorem impl_isSmall_run (aS : ByteArray) (aLeast : Int) (aMost : Int) (r : Bool) (h : impl_isSmall aS aLeast aMost = some r) : SCall Tryd.prog 50 [.v (vs aS), .v (vi aLeast), .v (vi aMost)] ⟨[.v (vb r)], [], false⟩ := by
  refine scall_in Tryd.func50 rfl [(.tmp 6)] rfl (fun r => ⟨[.v (vb r)], [], false⟩) (r := r) ?_
  unfold impl_isSmall at h
  refine swp_seq ?_
  refine swp_reg ?_
  refine SRun.ck tbok 1 ⟨17, [(0, vs aS), (1, vi aLeast), (2, vi aMost)], []⟩ ?_
  refine SRun.nil ?_
  refine nx_n ?_
  refine swp_seq ?_
  refine swp_regJ h (fun j3 => ⟨17, [(6, vb j3)], []⟩) (fun v4 h => ?_) (fun j3 h => ?_)
  refine SRun.ck tbok 4 ⟨17, [(0, vs aS), (8, vi (aS.size : Int)), (9, vi aLeast), (10, vi aMost)], []⟩ ?_
  obtain ⟨x1, hx1, h⟩ := bind_some h
  refine SRun.ls (x_lstep_call (f := 44) (caps := []) (xs := [vi (aS.size : Int), vi aLeast, vi aMost]) (ys := [vi (aS.size : Int), vi aLeast, vi aMost]) (res := ⟨[.v (vb x1)], [], false⟩) (x := vb x1) (y := none) rfl ents44 (impl_within_run (aS.size : Int) aLeast aMost _ hx1) rfl (by intro hc; cases hc)) ?_
  refine SRun.ck tbok 1 ⟨17, [(0, vs aS), (12, vb x1)], []⟩ ?_
  refine SRun.cut [(12, fun b => b)] (b := x1) (by kernel_rfl) (fun hb => ?_) (fun hb => ?_)
  replace h := cond_t hb h
  refine SRun.ck tbok 1 ⟨17, [(12, vb true), (13, vs aS)], []⟩ ?_
  obtain ⟨x2, hx2, h⟩ := bind_some h
  refine SRun.ls (x_lstep_call (f := 57) (caps := []) (xs := [vs aS, vs (ByteArray.mk #[97, 98, 99, 100, 101, 102, 103, 104, 105, 106, 107, 108, 109, 110, 111, 112, 113, 114, 115, 116, 117, 118, 119, 120, 121, 122])]) (ys := [vs aS, vs (ByteArray.mk #[97, 98, 99, 100, 101, 102, 103, 104, 105, 106, 107, 108, 109, 110, 111, 112, 113, 114, 115, 116, 117, 118, 119, 120, 121, 122])]) (res := ⟨[.v (vs x2)], [], false⟩) (x := vs x2) (y := none) rfl ents57 (strings_Trim_run aS (ByteArray.mk #[97, 98, 99, 100, 101, 102, 103, 104, 105, 106, 107, 108, 109, 110, 111, 112, 113, 114, 115, 116, 117, 118, 119, 120, 121, 122]) _ hx2) rfl (by intro hc; cases hc)) ?_
  refine SRun.ck tbok 3 ⟨17, [(6, vb (x2.toList == (ByteArray.mk #[]).toList))], []⟩ ?_
  refine SRun.nil ?_
  replace h := Option.some.inj h
  subst h
  exact Le.sub0
  replace h := cond_f hb h
  refine SRun.ck tbok 5 ⟨17, [(6, vb false)], []⟩ ?_
  refine SRun.nil ?_
  replace h := Option.some.inj h
  subst h
  exact Le.sub0
  refine swp_ret ?_
  replace h := Option.some.inj h
  subst h
  exact q_fr (fin1 (by kernel_rfl) (finV rfl SV.flat_of (holds_t (by kernel_rfl))))
theorem ents50 : Ents Tryd.prog 50 := ents_of Tryd.func50 (by kernel_rfl) rfl
noncomputable def impl_IsWord (aS : ByteArray) : Option (Bool) :=
  ((impl_isSmall aS 1 16).bind fun x1 => some x1)
set_option maxRecDepth 100000 in
set_option maxHeartbeats 4000000 in
theorem impl_IsWord_run (aS : ByteArray) (r : Bool) (h : impl_IsWord aS = some r) : SCall Tryd.prog 40 [.v (vs aS)] ⟨[.v (vb r)], [], false⟩ := by
  refine scall_in Tryd.func40 rfl [(.tmp 2)] rfl (fun r => ⟨[.v (vb r)], [], false⟩) (r := r) ?_
  unfold impl_IsWord at h
  refine swp_seq ?_
  refine swp_reg ?_
  refine SRun.ck tbok 1 ⟨5, [(0, vs aS)], []⟩ ?_
  refine SRun.nil ?_
  refine nx_n ?_
  refine swp_seq ?_
  refine swp_reg ?_
  refine SRun.ck tbok 1 ⟨5, [(3, vs aS)], []⟩ ?_
  obtain ⟨x1, hx1, h⟩ := bind_some h
  refine SRun.ls (x_lstep_call (f := 50) (caps := []) (xs := [vs aS, vi 1, vi 16]) (ys := [vs aS, vi 1, vi 16]) (res := ⟨[.v (vb x1)], [], false⟩) (x := vb x1) (y := none) rfl ents50 (impl_isSmall_run aS 1 16 _ hx1) rfl (by intro hc; cases hc)) ?_
  refine SRun.ck tbok 1 ⟨5, [(2, vb x1)], []⟩ ?_
  refine SRun.nil ?_
  refine nx_n ?_
  refine swp_ret ?_
  replace h := Option.some.inj h
  subst h
  exact q_fr (fin1 (by kernel_rfl) (finV rfl SV.flat_of (holds_t (by kernel_rfl))))
theorem ents40 : Ents Tryd.prog 40 := ents_of Tryd.func40 (by kernel_rfl) rfl
noncomputable def impl_areWords (aList : (List ByteArray)) : Option (Bool) :=
  (((forN (aList.length : Int) (fun (i3 : Int) (_ : Unit) => ((at' aList i3).bind fun x7 => ((impl_IsWord x7).bind fun x8 => (bif (!x8) then some (.inr (.inr false)) else some (.inl ()))))) (fun (_ : Unit) => .inl ()) 0 ())).bind (Sum.elim (fun (_ : Unit) => some true) some))
set_option maxRecDepth 100000 in
set_option maxHeartbeats 4000000 in
theorem impl_areWords_run (aList : (List ByteArray)) (r : Bool) (h : impl_areWords aList = some r) : SCall Tryd.prog 54 [.v (vl eS aList)] ⟨[.v (vb r)], [], false⟩ := by
  refine scall_in Tryd.func54 rfl [(.tmp 2)] rfl (fun r => ⟨[.v (vb r)], [], false⟩) (r := r) ?_
  unfold impl_areWords at h
  refine swp_seq ?_
  refine swp_reg ?_
  refine SRun.ck tbok 1 ⟨15, [(0, vl eS aList)], []⟩ ?_
  refine SRun.nil ?_
  refine nx_n ?_
  refine swp_seq ?_
  refine swp_seq ?_
  refine swp_reg ?_
  refine SRun.ck tbok 3 ⟨15, [(5, vl eS aList), (6, vi (aList.length : Int)), (7, vi 0)], []⟩ ?_
  refine SRun.nil ?_
  refine nx_n ?_
  refine swp_seqE (r := r) h (fun j1 => ⟨15, [], []⟩) (fun v2 h => ?_) (fun j1 h => ?_)
  refine swp_blk (a := v2) ?_
  refine swp_lpL (r := v2) (s := (0, ())) _ (fun s3 => ⟨15, [(5, vl eS aList), (6, vi (aList.length : Int)), (7, vi s3.1)], []⟩) _ (Le.sub0) h (fun s3 v4 h => ?_)
  refine swp_seq ?_
  refine swp_reg ?_
  refine SRun.ck tbok 1 ⟨15, [(5, vl eS aList), (6, vi (aList.length : Int)), (7, vi s3.1), (8, vb (decide (s3.1 < (aList.length : Int))))], []⟩ ?_
  refine SRun.nil ?_
  refine nx_n ?_
  refine swp_seq ?_
  refine swp_cond (b := (decide (s3.1 < (aList.length : Int)))) (by kernel_rfl) (fun hb => ?_) (fun hb => ?_)
  replace h := cond_t hb h
  refine swp_skip ?_
  refine nx_n ?_
  refine swp_seq ?_
  refine swp_seqL (r := v4) h (fun j5 => ⟨15, [(5, vl eS aList), (6, vi (aList.length : Int)), (7, vi s3.1)], []⟩) (fun v6 h => ?_) (fun j5 h => ?_)
  refine swp_blk (a := v6) ?_
  refine swp_seq ?_
  refine swp_reg ?_
  obtain ⟨x7, hx7, h⟩ := bind_some h
  refine SRun.ls (x_index (L := aList) (f := eS) (ti := ti51) (tj := ti9) (e := 9) (k := .i64) tbok rfl hx7) ?_
  refine SRun.ck tbok 2 ⟨15, [(4, vs x7), (5, vl eS aList), (6, vi (aList.length : Int)), (7, vi s3.1)], []⟩ ?_
  refine SRun.nil ?_
  refine nx_n ?_
  refine swp_seq ?_
  refine swp_reg ?_
  refine SRun.ck tbok 1 ⟨15, [(5, vl eS aList), (6, vi (aList.length : Int)), (7, vi s3.1), (11, vs x7)], []⟩ ?_
  obtain ⟨x8, hx8, h⟩ := bind_some h
  refine SRun.ls (x_lstep_call (f := 40) (caps := []) (xs := [vs x7]) (ys := [vs x7]) (res := ⟨[.v (vb x8)], [], false⟩) (x := vb x8) (y := none) rfl ents40 (impl_IsWord_run x7 _ hx8) rfl (by intro hc; cases hc)) ?_
  refine SRun.ck tbok 1 ⟨15, [(5, vl eS aList), (6, vi (aList.length : Int)), (7, vi s3.1), (13, vb (!x8))], []⟩ ?_
  refine SRun.nil ?_
  refine nx_n ?_
  refine swp_cond (b := (!x8)) (by kernel_rfl) (fun hb => ?_) (fun hb => ?_)
  replace h := cond_t hb h
  refine swp_seq ?_
  refine swp_reg ?_
  refine SRun.ck tbok 1 ⟨15, [(2, vb false)], []⟩ ?_
  refine SRun.nil ?_
  refine nx_n ?_
  refine swp_ret ?_
  replace h := Option.some.inj h
  subst h
  exact q_br (q_rr (q_rr (q_br (q_rr (q_fr (fin1 (by kernel_rfl) (finV rfl SV.flat_of (holds_t (by kernel_rfl)))))))))
  replace h := cond_f hb h
  refine swp_skip ?_
  replace h := Option.some.inj h
  subst h
  exact q_bn (q_l (Le.sub0))
  refine swp_reg ?_
  refine SRun.ck tbok 2 ⟨15, [(5, vl eS aList), (6, vi (aList.length : Int)), (7, vi (w64 (s3.1 + 1)))], []⟩ ?_
  refine SRun.nil ?_
  replace h := Option.some.inj h
  subst h
  exact q_l (Le.sub0)
  replace h := cond_f hb h
  refine swp_exit ?_
  replace h := Option.some.inj h
  subst h
  exact nx_e (q_re (q_bh (q_l (Le.sub0))))
  refine swp_seq ?_
  refine swp_reg ?_
  refine SRun.ck tbok 1 ⟨15, [(2, vb true)], []⟩ ?_
  refine SRun.nil ?_
  refine nx_n ?_
  refine swp_ret ?_
  replace h := Option.some.inj h
  subst h
  exact q_fr (fin1 (by kernel_rfl) (finV rfl SV.flat_of (holds_t (by kernel_rfl))))
theorem ents54 : Ents Tryd.prog 54 := ents_of Tryd.func54 (by kernel_rfl) rfl
theorem strings_Split_run (s c : ByteArray) (r : List ByteArray) (h : strings_Split s c = some r) : SCall Tryd.prog 78 [.v (.tr (.str s)), .v (.tr (.str c))] ⟨[.own 9 1 r.length (r.map eS)], [], false⟩ := split_run Tryd.lays146 (by kernel_rfl) 78 9 rfl rfl s c r h
theorem ents78 : Ents Tryd.prog 78 := ents_of Tryd.func78 (by kernel_rfl) rfl
noncomputable def impl_wordsOf (aS : ByteArray) : Option ((List ByteArray)) :=
  ((strings_Split aS (ByteArray.mk #[32])).bind fun x1 => some x1)
set_option maxRecDepth 100000 in
set_option maxHeartbeats 4000000 in
theorem impl_wordsOf_run (aS : ByteArray) (r : (List ByteArray)) (h : impl_wordsOf aS = some r) : SCall Tryd.prog 73 [.v (vs aS)] ⟨[.own 9 1 r.length (r.map eS)], [], false⟩ := by
  refine scall_in Tryd.func73 rfl [(.tmp 2)] rfl (fun r => ⟨[.own 9 1 r.length (r.map eS)], [], false⟩) (r := r) ?_
  unfold impl_wordsOf at h
  refine swp_seq ?_
  refine swp_reg ?_
  refine SRun.ck tbok 1 ⟨5, [(0, vs aS)], []⟩ ?_
  refine SRun.nil ?_
  refine nx_n ?_
  refine swp_seq ?_
  refine swp_reg ?_
  refine SRun.ck tbok 1 ⟨5, [(3, vs aS)], []⟩ ?_
  obtain ⟨x1, hx1, h⟩ := bind_some h
  refine SRun.ls (x_lstep_call (f := 78) (caps := []) (xs := [vs aS, vs (ByteArray.mk #[32])]) (ys := [vs aS, vs (ByteArray.mk #[32])]) (res := ⟨[.own 9 1 x1.length (x1.map eS)], [], false⟩) (x := .own 4) (y := some (.arr 9 1 x1.length (x1.map eS))) rfl ents78 (strings_Split_run aS (ByteArray.mk #[32]) _ hx1) rfl (by intro hc; cases hc)) ?_
  refine SRun.ck tbok 1 ⟨5, [(2, .own 4)], [(4, .arr 9 1 x1.length (x1.map eS))]⟩ ?_
  refine SRun.nil ?_
  refine nx_n ?_
  refine swp_ret ?_
  replace h := Option.some.inj h
  subst h
  exact q_fr (fin1 (by kernel_rfl) (finO (d := 4) (holds_t (by kernel_rfl)) (by kernel_rfl) (flat_map eS_flat _) (by kernel_rfl)))
theorem ents73 : Ents Tryd.prog 73 := ents_of Tryd.func73 (by kernel_rfl) rfl
noncomputable def impl_IsPhrase (aS : ByteArray) : Option (Bool) :=
  ((impl_wordsOf aS).bind fun x1 => (((bif (decide ((x1.length : Int) ≤ 8)) then ((impl_areWords x1).bind fun x2 => some x2) else some false)).bind fun (j3 : Bool) => some j3))
set_option maxRecDepth 100000 in
set_option maxHeartbeats 4000000 in
theorem impl_IsPhrase_run (aS : ByteArray) (r : Bool) (h : impl_IsPhrase aS = some r) : SCall Tryd.prog 63 [.v (vs aS)] ⟨[.v (vb r)], [], false⟩ := by
  refine scall_in Tryd.func63 rfl [(.tmp 2)] rfl (fun r => ⟨[.v (vb r)], [], false⟩) (r := r) ?_
  unfold impl_IsPhrase at h
  refine swp_seq ?_
  refine swp_reg ?_
  refine SRun.ck tbok 1 ⟨13, [(0, vs aS)], []⟩ ?_
  refine SRun.nil ?_
  refine nx_n ?_
  refine swp_seq ?_
  refine swp_reg ?_
  refine SRun.ck tbok 1 ⟨13, [(4, vs aS)], []⟩ ?_
  obtain ⟨x1, hx1, h⟩ := bind_some h
  refine SRun.ls (x_lstep_call (f := 73) (caps := []) (xs := [vs aS]) (ys := [vs aS]) (res := ⟨[.own 9 1 x1.length (x1.map eS)], [], false⟩) (x := .own 5) (y := some (.arr 9 1 x1.length (x1.map eS))) rfl ents73 (impl_wordsOf_run aS _ hx1) rfl (by intro hc; cases hc)) ?_
  refine SRun.ck tbok 1 ⟨13, [(3, .own 5)], [(5, .arr 9 1 x1.length (x1.map eS))]⟩ ?_
  refine SRun.nil ?_
  refine nx_n ?_
  refine swp_seq ?_
  refine swp_regJ h (fun j3 => ⟨13, [(2, vb j3)], []⟩) (fun v4 h => ?_) (fun j3 h => ?_)
  refine SRun.ck tbok 4 ⟨13, [(3, .own 5), (9, vb (decide ((x1.length : Int) ≤ 8)))], [(5, .arr 9 1 x1.length (x1.map eS))]⟩ ?_
  refine SRun.cut [(9, fun b => b)] (b := (decide ((x1.length : Int) ≤ 8))) (by kernel_rfl) (fun hb => ?_) (fun hb => ?_)
  replace h := cond_t hb h
  refine SRun.ck tbok 1 ⟨13, [(9, vb true), (10, .own 5)], [(5, .arr 9 1 x1.length (x1.map eS))]⟩ ?_
  obtain ⟨x2, hx2, h⟩ := bind_some h
  refine SRun.ls (x_lstep_call (f := 54) (caps := []) (xs := [.own 5]) (ys := [vl eS x1]) (res := ⟨[.v (vb x2)], [], false⟩) (x := vb x2) (y := none) rfl ents54 (impl_areWords_run x1 _ hx2) rfl (by intro hc; cases hc)) ?_
  refine SRun.ck tbok 2 ⟨13, [(2, vb x2)], []⟩ ?_
  refine SRun.nil ?_
  replace h := Option.some.inj h
  subst h
  exact Le.sub0
  replace h := cond_f hb h
  refine SRun.ck tbok 4 ⟨13, [(2, vb false)], []⟩ ?_
  refine SRun.nil ?_
  replace h := Option.some.inj h
  subst h
  exact Le.sub0
  refine swp_ret ?_
  replace h := Option.some.inj h
  subst h
  exact q_fr (fin1 (by kernel_rfl) (finV rfl SV.flat_of (holds_t (by kernel_rfl))))
theorem ents63 : Ents Tryd.prog 63 := ents_of Tryd.func63 (by kernel_rfl) rfl
noncomputable def impl_isClaimValue (aC : Claim) : Option (Bool) :=
  (((bif (aC.Kind == 0) then ((impl_IsPhrase aC.Value).bind fun x3 => some (.inr x3)) else (bif (aC.Kind == 1) then ((((impl_IsWord aC.Value).bind fun x4 => (bif x4 then some (!(aC.Value.toList == aC.Place.toList)) else some false))).bind fun (j5 : Bool) => some (.inr j5)) else (((bif (aC.Kind == 2) then some (aC.Kind == 2) else some (aC.Kind == 3))).bind fun (j7 : Bool) => (bif j7 then some (.inr (aC.Value.toList == (ByteArray.mk #[]).toList)) else some (.inl ())))))).bind (Sum.elim (fun (_ : Unit) => some false) some))
set_option maxRecDepth 100000 in
set_option maxHeartbeats 4000000 in
theorem impl_isClaimValue_run (aC : Claim) (r : Bool) (h : impl_isClaimValue aC = some r) : SCall Tryd.prog 55 [.v (.agg [vs aC.Source, vi aC.Kind, vs aC.Place, vs aC.Value, vi aC.Years.From, vi aC.Years.To, vi aC.Weight])] ⟨[.v (vb r)], [], false⟩ := by
  refine scall_in Tryd.func55 rfl [(.tmp 2)] rfl (fun r => ⟨[.v (vb r)], [], false⟩) (r := r) ?_
  unfold impl_isClaimValue at h
  refine swp_seq ?_
  refine swp_reg ?_
  refine SRun.ck tbok 2 ⟨28, [(1, .ref 1 0)], [(1, .box [vs aC.Source, vi aC.Kind, vs aC.Place, vs aC.Value, vi aC.Years.From, vi aC.Years.To, vi aC.Weight])]⟩ ?_
  refine SRun.nil ?_
  refine nx_n ?_
  refine swp_seq ?_
  refine swp_seq ?_
  refine swp_reg ?_
  refine SRun.ck tbok 2 ⟨28, [(1, .ref 1 0), (4, vi aC.Kind)], [(1, .box [vs aC.Source, vi aC.Kind, vs aC.Place, vs aC.Value, vi aC.Years.From, vi aC.Years.To, vi aC.Weight])]⟩ ?_
  refine SRun.nil ?_
  refine nx_n ?_
  refine swp_seqE (r := r) h (fun j1 => ⟨28, [], []⟩) (fun v2 h => ?_) (fun j1 h => ?_)
  refine swp_blk (a := v2) ?_
  refine swp_seq ?_
  refine swp_reg ?_
  refine SRun.ck tbok 2 ⟨28, [(1, .ref 1 0), (4, vi aC.Kind), (5, vb (aC.Kind == 0))], [(1, .box [vs aC.Source, vi aC.Kind, vs aC.Place, vs aC.Value, vi aC.Years.From, vi aC.Years.To, vi aC.Weight])]⟩ ?_
  refine SRun.nil ?_
  refine nx_n ?_
  refine swp_cond (b := (aC.Kind == 0)) (by kernel_rfl) (fun hb => ?_) (fun hb => ?_)
  replace h := cond_t hb h
  refine swp_seq ?_
  refine swp_reg ?_
  refine SRun.ck tbok 2 ⟨28, [(8, vs aC.Value)], []⟩ ?_
  obtain ⟨x3, hx3, h⟩ := bind_some h
  refine SRun.ls (x_lstep_call (f := 63) (caps := []) (xs := [vs aC.Value]) (ys := [vs aC.Value]) (res := ⟨[.v (vb x3)], [], false⟩) (x := vb x3) (y := none) rfl ents63 (impl_IsPhrase_run aC.Value _ hx3) rfl (by intro hc; cases hc)) ?_
  refine SRun.ck tbok 1 ⟨28, [(2, vb x3)], []⟩ ?_
  refine SRun.nil ?_
  refine nx_n ?_
  refine swp_ret ?_
  replace h := Option.some.inj h
  subst h
  exact q_br (q_rr (q_fr (fin1 (by kernel_rfl) (finV rfl SV.flat_of (holds_t (by kernel_rfl))))))
  replace h := cond_f hb h
  refine swp_seq ?_
  refine swp_reg ?_
  refine SRun.ck tbok 2 ⟨28, [(1, .ref 1 0), (4, vi aC.Kind), (10, vb (aC.Kind == 1))], [(1, .box [vs aC.Source, vi aC.Kind, vs aC.Place, vs aC.Value, vi aC.Years.From, vi aC.Years.To, vi aC.Weight])]⟩ ?_
  refine SRun.nil ?_
  refine nx_n ?_
  refine swp_cond (b := (aC.Kind == 1)) (by kernel_rfl) (fun hb => ?_) (fun hb => ?_)
  replace h := cond_t hb h
  refine swp_seq ?_
  refine swp_regJ h (fun j5 => ⟨28, [(2, vb j5)], []⟩) (fun v6 h => ?_) (fun j5 h => ?_)
  refine SRun.ck tbok 2 ⟨28, [(1, .ref 1 0), (13, vs aC.Value)], [(1, .box [vs aC.Source, vi aC.Kind, vs aC.Place, vs aC.Value, vi aC.Years.From, vi aC.Years.To, vi aC.Weight])]⟩ ?_
  obtain ⟨x4, hx4, h⟩ := bind_some h
  refine SRun.ls (x_lstep_call (f := 40) (caps := []) (xs := [vs aC.Value]) (ys := [vs aC.Value]) (res := ⟨[.v (vb x4)], [], false⟩) (x := vb x4) (y := none) rfl ents40 (impl_IsWord_run aC.Value _ hx4) rfl (by intro hc; cases hc)) ?_
  refine SRun.ck tbok 1 ⟨28, [(1, .ref 1 0), (15, vb x4)], [(1, .box [vs aC.Source, vi aC.Kind, vs aC.Place, vs aC.Value, vi aC.Years.From, vi aC.Years.To, vi aC.Weight])]⟩ ?_
  refine SRun.cut [(15, fun b => b)] (b := x4) (by kernel_rfl) (fun hb => ?_) (fun hb => ?_)
  replace h := cond_t hb h
  refine SRun.ck tbok 7 ⟨28, [(2, vb (!(aC.Value.toList == aC.Place.toList)))], []⟩ ?_
  refine SRun.nil ?_
  replace h := Option.some.inj h
  subst h
  exact Le.sub0
  replace h := cond_f hb h
  refine SRun.ck tbok 7 ⟨28, [(2, vb false)], []⟩ ?_
  refine SRun.nil ?_
  replace h := Option.some.inj h
  subst h
  exact Le.sub0
  refine swp_ret ?_
  replace h := Option.some.inj h
  subst h
  exact q_br (q_rr (q_fr (fin1 (by kernel_rfl) (finV rfl SV.flat_of (holds_t (by kernel_rfl))))))
  replace h := cond_f hb h
  refine swp_seq ?_
  refine swp_seq ?_
  refine swp_reg ?_
  refine SRun.ck tbok 2 ⟨28, [(1, .ref 1 0), (4, vi aC.Kind), (22, vb (aC.Kind == 2))], [(1, .box [vs aC.Source, vi aC.Kind, vs aC.Place, vs aC.Value, vi aC.Years.From, vi aC.Years.To, vi aC.Weight])]⟩ ?_
  refine SRun.nil ?_
  refine nx_n ?_
  refine swp_seqJ h (fun j7 => ⟨28, [(1, .ref 1 0), (22, vb j7)], [(1, .box [vs aC.Source, vi aC.Kind, vs aC.Place, vs aC.Value, vi aC.Years.From, vi aC.Years.To, vi aC.Weight])]⟩) (fun v8 h => ?_) (fun j7 h => ?_)
  refine swp_cond (b := (aC.Kind == 2)) (by kernel_rfl) (fun hb => ?_) (fun hb => ?_)
  replace h := cond_t hb h
  refine swp_skip ?_
  replace h := Option.some.inj h
  subst h
  exact q_j (Le.sub0)
  replace h := cond_f hb h
  refine swp_reg ?_
  refine SRun.ck tbok 2 ⟨28, [(1, .ref 1 0), (22, vb (aC.Kind == 3))], [(1, .box [vs aC.Source, vi aC.Kind, vs aC.Place, vs aC.Value, vi aC.Years.From, vi aC.Years.To, vi aC.Weight])]⟩ ?_
  refine SRun.nil ?_
  replace h := Option.some.inj h
  subst h
  exact q_j (Le.sub0)
  refine swp_cond (b := j7) (by kernel_rfl) (fun hb => ?_) (fun hb => ?_)
  replace h := cond_t hb h
  refine swp_seq ?_
  refine swp_reg ?_
  refine SRun.ck tbok 4 ⟨28, [(2, vb (aC.Value.toList == (ByteArray.mk #[]).toList))], []⟩ ?_
  refine SRun.nil ?_
  refine nx_n ?_
  refine swp_ret ?_
  replace h := Option.some.inj h
  subst h
  exact q_br (q_rr (q_fr (fin1 (by kernel_rfl) (finV rfl SV.flat_of (holds_t (by kernel_rfl))))))
  replace h := cond_f hb h
  refine swp_skip ?_
  replace h := Option.some.inj h
  subst h
  exact q_bn (q_l (Le.sub0))
  refine swp_seq ?_
  refine swp_reg ?_
  refine SRun.ck tbok 1 ⟨28, [(2, vb false)], []⟩ ?_
  refine SRun.nil ?_
  refine nx_n ?_
  refine swp_ret ?_
  replace h := Option.some.inj h
  subst h
  exact q_fr (fin1 (by kernel_rfl) (finV rfl SV.flat_of (holds_t (by kernel_rfl))))
theorem ents55 : Ents Tryd.prog 55 := ents_of Tryd.func55 (by kernel_rfl) rfl
noncomputable def impl_isYear (aYear : Int) : Option (Bool) :=
  ((impl_within aYear (-3000) 3000).bind fun x1 => some x1)
set_option maxRecDepth 100000 in
set_option maxHeartbeats 4000000 in
theorem impl_isYear_run (aYear : Int) (r : Bool) (h : impl_isYear aYear = some r) : SCall Tryd.prog 41 [.v (vi aYear)] ⟨[.v (vb r)], [], false⟩ := by
  refine scall_in Tryd.func41 rfl [(.tmp 2)] rfl (fun r => ⟨[.v (vb r)], [], false⟩) (r := r) ?_
  unfold impl_isYear at h
  refine swp_seq ?_
  refine swp_reg ?_
  refine SRun.ck tbok 1 ⟨5, [(0, vi aYear)], []⟩ ?_
  refine SRun.nil ?_
  refine nx_n ?_
  refine swp_seq ?_
  refine swp_reg ?_
  refine SRun.ck tbok 1 ⟨5, [(3, vi aYear)], []⟩ ?_
  obtain ⟨x1, hx1, h⟩ := bind_some h
  refine SRun.ls (x_lstep_call (f := 44) (caps := []) (xs := [vi aYear, vi (-3000), vi 3000]) (ys := [vi aYear, vi (-3000), vi 3000]) (res := ⟨[.v (vb x1)], [], false⟩) (x := vb x1) (y := none) rfl ents44 (impl_within_run aYear (-3000) 3000 _ hx1) rfl (by intro hc; cases hc)) ?_
  refine SRun.ck tbok 1 ⟨5, [(2, vb x1)], []⟩ ?_
  refine SRun.nil ?_
  refine nx_n ?_
  refine swp_ret ?_
  replace h := Option.some.inj h
  subst h
  exact q_fr (fin1 (by kernel_rfl) (finV rfl SV.flat_of (holds_t (by kernel_rfl))))
theorem ents41 : Ents Tryd.prog 41 := ents_of Tryd.func41 (by kernel_rfl) rfl
noncomputable def impl_IsSpan (aS : Span) : Option (Bool) :=
  ((((impl_isYear aS.From).bind fun x1 => (bif x1 then ((impl_isYear aS.To).bind fun x2 => (bif x2 then some (decide (aS.From ≤ aS.To)) else some false)) else some false))).bind fun (j3 : Bool) => some j3)
set_option maxRecDepth 100000 in
set_option maxHeartbeats 4000000 in
theorem impl_IsSpan_run (aS : Span) (r : Bool) (h : impl_IsSpan aS = some r) : SCall Tryd.prog 56 [.v (.agg [vi aS.From, vi aS.To])] ⟨[.v (vb r)], [], false⟩ := by
  refine scall_in Tryd.func56 rfl [(.tmp 2)] rfl (fun r => ⟨[.v (vb r)], [], false⟩) (r := r) ?_
  unfold impl_IsSpan at h
  refine swp_seq ?_
  refine swp_reg ?_
  refine SRun.ck tbok 2 ⟨18, [(1, .ref 1 0)], [(1, .box [vi aS.From, vi aS.To])]⟩ ?_
  refine SRun.nil ?_
  refine nx_n ?_
  refine swp_seq ?_
  refine swp_regJ h (fun j3 => ⟨18, [(2, vb j3)], []⟩) (fun v4 h => ?_) (fun j3 h => ?_)
  refine SRun.ck tbok 2 ⟨18, [(1, .ref 1 0), (4, vi aS.From)], [(1, .box [vi aS.From, vi aS.To])]⟩ ?_
  obtain ⟨x1, hx1, h⟩ := bind_some h
  refine SRun.ls (x_lstep_call (f := 41) (caps := []) (xs := [vi aS.From]) (ys := [vi aS.From]) (res := ⟨[.v (vb x1)], [], false⟩) (x := vb x1) (y := none) rfl ents41 (impl_isYear_run aS.From _ hx1) rfl (by intro hc; cases hc)) ?_
  refine SRun.ck tbok 1 ⟨18, [(1, .ref 1 0), (6, vb x1)], [(1, .box [vi aS.From, vi aS.To])]⟩ ?_
  refine SRun.cut [(6, fun b => b)] (b := x1) (by kernel_rfl) (fun hb => ?_) (fun hb => ?_)
  replace h := cond_t hb h
  refine SRun.ck tbok 2 ⟨18, [(1, .ref 1 0), (6, vb true), (8, vi aS.To)], [(1, .box [vi aS.From, vi aS.To])]⟩ ?_
  obtain ⟨x2, hx2, h⟩ := bind_some h
  refine SRun.ls (x_lstep_call (f := 41) (caps := []) (xs := [vi aS.To]) (ys := [vi aS.To]) (res := ⟨[.v (vb x2)], [], false⟩) (x := vb x2) (y := none) rfl ents41 (impl_isYear_run aS.To _ hx2) rfl (by intro hc; cases hc)) ?_
  refine SRun.ck tbok 2 ⟨18, [(1, .ref 1 0), (11, vb x2)], [(1, .box [vi aS.From, vi aS.To])]⟩ ?_
  refine SRun.cut [(11, fun b => b)] (b := x2) (by kernel_rfl) (fun hb => ?_) (fun hb => ?_)
  replace h := cond_t hb h
  refine SRun.ck tbok 7 ⟨18, [(2, vb (decide (aS.From ≤ aS.To)))], []⟩ ?_
  refine SRun.nil ?_
  replace h := Option.some.inj h
  subst h
  exact Le.sub0
  replace h := cond_f hb h
  refine SRun.ck tbok 7 ⟨18, [(2, vb false)], []⟩ ?_
  refine SRun.nil ?_
  replace h := Option.some.inj h
  subst h
  exact Le.sub0
  replace h := cond_f hb h
  refine SRun.ck tbok 12 ⟨18, [(2, vb false)], []⟩ ?_
  refine SRun.nil ?_
  replace h := Option.some.inj h
  subst h
  exact Le.sub0
  refine swp_ret ?_
  replace h := Option.some.inj h
  subst h
  exact q_fr (fin1 (by kernel_rfl) (finV rfl SV.flat_of (holds_t (by kernel_rfl))))
theorem ents56 : Ents Tryd.prog 56 := ents_of Tryd.func56 (by kernel_rfl) rfl
noncomputable def impl_IsClaim (aC : Claim) : Option (Bool) :=
  ((((impl_areWords ([aC.Source, aC.Place] : List ByteArray)).bind fun x1 => (bif x1 then ((impl_isClaimValue aC).bind fun x2 => (bif x2 then ((impl_IsSpan aC.Years).bind fun x3 => (bif x3 then ((impl_within aC.Weight 1 100).bind fun x4 => some x4) else some false)) else some false)) else some false))).bind fun (j5 : Bool) => some j5)
set_option maxRecDepth 100000 in
set_option maxHeartbeats 4000000 in
theorem impl_IsClaim_run (aC : Claim) (r : Bool) (h : impl_IsClaim aC = some r) : SCall Tryd.prog 49 [.v (.agg [vs aC.Source, vi aC.Kind, vs aC.Place, vs aC.Value, vi aC.Years.From, vi aC.Years.To, vi aC.Weight])] ⟨[.v (vb r)], [], false⟩ := by
  refine scall_in Tryd.func49 rfl [(.tmp 2)] rfl (fun r => ⟨[.v (vb r)], [], false⟩) (r := r) ?_
  unfold impl_IsClaim at h
  refine swp_seq ?_
  refine swp_reg ?_
  refine SRun.ck tbok 2 ⟨23, [(1, .ref 1 0)], [(1, .box [vs aC.Source, vi aC.Kind, vs aC.Place, vs aC.Value, vi aC.Years.From, vi aC.Years.To, vi aC.Weight])]⟩ ?_
  refine SRun.nil ?_
  refine nx_n ?_
  refine swp_seq ?_
  refine swp_regJ h (fun j5 => ⟨23, [(2, vb j5)], []⟩) (fun v6 h => ?_) (fun j5 h => ?_)
  refine SRun.ck tbok 5 ⟨23, [(1, .ref 1 0), (7, .own 7)], [(1, .box [vs aC.Source, vi aC.Kind, vs aC.Place, vs aC.Value, vi aC.Years.From, vi aC.Years.To, vi aC.Weight]), (7, .arr 9 1 ([aC.Source, aC.Place] : List ByteArray).length (([aC.Source, aC.Place] : List ByteArray).map eS))]⟩ ?_
  obtain ⟨x1, hx1, h⟩ := bind_some h
  refine SRun.ls (x_lstep_call (f := 54) (caps := []) (xs := [.own 7]) (ys := [vl eS ([aC.Source, aC.Place] : List ByteArray)]) (res := ⟨[.v (vb x1)], [], false⟩) (x := vb x1) (y := none) rfl ents54 (impl_areWords_run ([aC.Source, aC.Place] : List ByteArray) _ hx1) rfl (by intro hc; cases hc)) ?_
  refine SRun.ck tbok 1 ⟨23, [(1, .ref 1 0), (9, vb x1)], [(1, .box [vs aC.Source, vi aC.Kind, vs aC.Place, vs aC.Value, vi aC.Years.From, vi aC.Years.To, vi aC.Weight])]⟩ ?_
  refine SRun.cut [(9, fun b => b)] (b := x1) (by kernel_rfl) (fun hb => ?_) (fun hb => ?_)
  replace h := cond_t hb h
  refine SRun.ck tbok 1 ⟨23, [(1, .ref 1 0), (9, vb true), (10, .agg [vs aC.Source, vi aC.Kind, vs aC.Place, vs aC.Value, vi aC.Years.From, vi aC.Years.To, vi aC.Weight])], [(1, .box [vs aC.Source, vi aC.Kind, vs aC.Place, vs aC.Value, vi aC.Years.From, vi aC.Years.To, vi aC.Weight])]⟩ ?_
  obtain ⟨x2, hx2, h⟩ := bind_some h
  refine SRun.ls (x_lstep_call (f := 55) (caps := []) (xs := [.agg [vs aC.Source, vi aC.Kind, vs aC.Place, vs aC.Value, vi aC.Years.From, vi aC.Years.To, vi aC.Weight]]) (ys := [.agg [vs aC.Source, vi aC.Kind, vs aC.Place, vs aC.Value, vi aC.Years.From, vi aC.Years.To, vi aC.Weight]]) (res := ⟨[.v (vb x2)], [], false⟩) (x := vb x2) (y := none) rfl ents55 (impl_isClaimValue_run aC _ hx2) rfl (by intro hc; cases hc)) ?_
  refine SRun.ck tbok 2 ⟨23, [(1, .ref 1 0), (13, vb x2)], [(1, .box [vs aC.Source, vi aC.Kind, vs aC.Place, vs aC.Value, vi aC.Years.From, vi aC.Years.To, vi aC.Weight])]⟩ ?_
  refine SRun.cut [(13, fun b => b)] (b := x2) (by kernel_rfl) (fun hb => ?_) (fun hb => ?_)
  replace h := cond_t hb h
  refine SRun.ck tbok 2 ⟨23, [(1, .ref 1 0), (13, vb true), (15, .agg [vi aC.Years.From, vi aC.Years.To])], [(1, .box [vs aC.Source, vi aC.Kind, vs aC.Place, vs aC.Value, vi aC.Years.From, vi aC.Years.To, vi aC.Weight])]⟩ ?_
  obtain ⟨x3, hx3, h⟩ := bind_some h
  refine SRun.ls (x_lstep_call (f := 56) (caps := []) (xs := [.agg [vi aC.Years.From, vi aC.Years.To]]) (ys := [.agg [vi aC.Years.From, vi aC.Years.To]]) (res := ⟨[.v (vb x3)], [], false⟩) (x := vb x3) (y := none) rfl ents56 (impl_IsSpan_run aC.Years _ hx3) rfl (by intro hc; cases hc)) ?_
  refine SRun.ck tbok 2 ⟨23, [(1, .ref 1 0), (18, vb x3)], [(1, .box [vs aC.Source, vi aC.Kind, vs aC.Place, vs aC.Value, vi aC.Years.From, vi aC.Years.To, vi aC.Weight])]⟩ ?_
  refine SRun.cut [(18, fun b => b)] (b := x3) (by kernel_rfl) (fun hb => ?_) (fun hb => ?_)
  replace h := cond_t hb h
  refine SRun.ck tbok 2 ⟨23, [(18, vb true), (20, vi aC.Weight)], []⟩ ?_
  obtain ⟨x4, hx4, h⟩ := bind_some h
  refine SRun.ls (x_lstep_call (f := 44) (caps := []) (xs := [vi aC.Weight, vi 1, vi 100]) (ys := [vi aC.Weight, vi 1, vi 100]) (res := ⟨[.v (vb x4)], [], false⟩) (x := vb x4) (y := none) rfl ents44 (impl_within_run aC.Weight 1 100 _ hx4) rfl (by intro hc; cases hc)) ?_
  refine SRun.ck tbok 2 ⟨23, [(2, vb x4)], []⟩ ?_
  refine SRun.nil ?_
  replace h := Option.some.inj h
  subst h
  exact Le.sub0
  replace h := cond_f hb h
  refine SRun.ck tbok 5 ⟨23, [(2, vb false)], []⟩ ?_
  refine SRun.nil ?_
  replace h := Option.some.inj h
  subst h
  exact Le.sub0
  replace h := cond_f hb h
  refine SRun.ck tbok 10 ⟨23, [(2, vb false)], []⟩ ?_
  refine SRun.nil ?_
  replace h := Option.some.inj h
  subst h
  exact Le.sub0
  replace h := cond_f hb h
  refine SRun.ck tbok 14 ⟨23, [(2, vb false)], []⟩ ?_
  refine SRun.nil ?_
  replace h := Option.some.inj h
  subst h
  exact Le.sub0
  refine swp_ret ?_
  replace h := Option.some.inj h
  subst h
  exact q_fr (fin1 (by kernel_rfl) (finV rfl SV.flat_of (holds_t (by kernel_rfl))))
theorem ents49 : Ents Tryd.prog 49 := ents_of Tryd.func49 (by kernel_rfl) rfl
noncomputable def impl_AreClaims_1 (aC : Claim) : Option (Bool) :=
  ((impl_IsClaim aC).bind fun x1 => some (!x1))
set_option maxRecDepth 100000 in
set_option maxHeartbeats 4000000 in
theorem impl_AreClaims_1_run (aC : Claim) (r : Bool) (h : impl_AreClaims_1 aC = some r) : SCall Tryd.prog 48 [.v (.agg [vs aC.Source, vi aC.Kind, vs aC.Place, vs aC.Value, vi aC.Years.From, vi aC.Years.To, vi aC.Weight])] ⟨[.v (vb r)], [], false⟩ := by
  refine scall_in Tryd.func48 rfl [(.tmp 2)] rfl (fun r => ⟨[.v (vb r)], [], false⟩) (r := r) ?_
  unfold impl_AreClaims_1 at h
  refine swp_seq ?_
  refine swp_reg ?_
  refine SRun.ck tbok 2 ⟨6, [(1, .ref 1 0)], [(1, .box [vs aC.Source, vi aC.Kind, vs aC.Place, vs aC.Value, vi aC.Years.From, vi aC.Years.To, vi aC.Weight])]⟩ ?_
  refine SRun.nil ?_
  refine nx_n ?_
  refine swp_seq ?_
  refine swp_reg ?_
  refine SRun.ck tbok 1 ⟨6, [(3, .agg [vs aC.Source, vi aC.Kind, vs aC.Place, vs aC.Value, vi aC.Years.From, vi aC.Years.To, vi aC.Weight])], []⟩ ?_
  obtain ⟨x1, hx1, h⟩ := bind_some h
  refine SRun.ls (x_lstep_call (f := 49) (caps := []) (xs := [.agg [vs aC.Source, vi aC.Kind, vs aC.Place, vs aC.Value, vi aC.Years.From, vi aC.Years.To, vi aC.Weight]]) (ys := [.agg [vs aC.Source, vi aC.Kind, vs aC.Place, vs aC.Value, vi aC.Years.From, vi aC.Years.To, vi aC.Weight]]) (res := ⟨[.v (vb x1)], [], false⟩) (x := vb x1) (y := none) rfl ents49 (impl_IsClaim_run aC _ hx1) rfl (by intro hc; cases hc)) ?_
  refine SRun.ck tbok 2 ⟨6, [(2, vb (!x1))], []⟩ ?_
  refine SRun.nil ?_
  refine nx_n ?_
  refine swp_ret ?_
  replace h := Option.some.inj h
  subst h
  exact q_fr (fin1 (by kernel_rfl) (finV rfl SV.flat_of (holds_t (by kernel_rfl))))
theorem ents48 : Ents Tryd.prog 48 := ents_of Tryd.func48 (by kernel_rfl) rfl
noncomputable def slices_IndexFunc_Claim_impl_AreClaims_1 (aS : (List Claim)) : Option (Int) :=
  (((forN (aS.length : Int) (fun (i3 : Int) (_ : Unit) => ((at' aS i3).bind fun x7 => ((impl_AreClaims_1 x7).bind fun x8 => (bif x8 then some (.inr (.inr i3)) else some (.inl ()))))) (fun (_ : Unit) => .inl ()) 0 ())).bind (Sum.elim (fun (_ : Unit) => some (-1)) some))
set_option maxRecDepth 100000 in
set_option maxHeartbeats 4000000 in
theorem slices_IndexFunc_Claim_impl_AreClaims_1_run (aS : (List Claim)) (r : Int) (h : slices_IndexFunc_Claim_impl_AreClaims_1 aS = some r) : SCall Tryd.prog 33 [.v (vl eClaim aS), .v (.clo 48 [])] ⟨[.v (vi r)], [], false⟩ := by
  refine scall_in Tryd.func33 rfl [(.tmp 4)] rfl (fun r => ⟨[.v (vi r)], [], false⟩) (r := r) ?_
  unfold slices_IndexFunc_Claim_impl_AreClaims_1 at h
  refine swp_seq ?_
  refine swp_reg ?_
  refine SRun.ck tbok 1 ⟨19, [(0, vl eClaim aS), (1, .clo 48 [])], []⟩ ?_
  refine SRun.nil ?_
  refine nx_n ?_
  refine swp_seq ?_
  refine swp_seq ?_
  refine swp_reg ?_
  refine SRun.ck tbok 3 ⟨19, [(0, vl eClaim aS), (1, .clo 48 []), (7, vi (aS.length : Int)), (8, vi 0)], []⟩ ?_
  refine SRun.nil ?_
  refine nx_n ?_
  refine swp_seqE (r := r) h (fun j1 => ⟨19, [], []⟩) (fun v2 h => ?_) (fun j1 h => ?_)
  refine swp_blk (a := v2) ?_
  refine swp_lpL (r := v2) (s := (0, ())) _ (fun s3 => ⟨19, [(0, vl eClaim aS), (1, .clo 48 []), (7, vi (aS.length : Int)), (8, vi s3.1)], []⟩) _ (Le.sub0) h (fun s3 v4 h => ?_)
  refine swp_seq ?_
  refine swp_reg ?_
  refine SRun.ck tbok 1 ⟨19, [(0, vl eClaim aS), (1, .clo 48 []), (7, vi (aS.length : Int)), (8, vi s3.1), (9, vb (decide (s3.1 < (aS.length : Int))))], []⟩ ?_
  refine SRun.nil ?_
  refine nx_n ?_
  refine swp_seq ?_
  refine swp_cond (b := (decide (s3.1 < (aS.length : Int)))) (by kernel_rfl) (fun hb => ?_) (fun hb => ?_)
  replace h := cond_t hb h
  refine swp_skip ?_
  refine nx_n ?_
  refine swp_seq ?_
  refine swp_seqL (r := v4) h (fun j5 => ⟨19, [(0, vl eClaim aS), (1, .clo 48 []), (7, vi (aS.length : Int)), (8, vi s3.1)], []⟩) (fun v6 h => ?_) (fun j5 h => ?_)
  refine swp_blk (a := v6) ?_
  refine swp_seq ?_
  refine swp_reg ?_
  refine SRun.ck tbok 2 ⟨19, [(0, vl eClaim aS), (1, .clo 48 []), (5, vi s3.1), (7, vi (aS.length : Int)), (8, vi s3.1)], []⟩ ?_
  refine SRun.nil ?_
  refine nx_n ?_
  refine swp_seq ?_
  refine swp_reg ?_
  refine SRun.ck tbok 3 ⟨19, [(0, vl eClaim aS), (1, .clo 48 []), (5, vi s3.1), (7, vi (aS.length : Int)), (8, vi s3.1), (11, .clo 48 []), (12, vl eClaim aS), (13, vi s3.1)], []⟩ ?_
  obtain ⟨x7, hx7, h⟩ := bind_some h
  refine SRun.ls (x_index (L := aS) (f := eClaim) (ti := ti26) (tj := ti39) (e := 39) (k := .i64) tbok rfl hx7) ?_
  refine SRun.ck tbok 1 ⟨19, [(0, vl eClaim aS), (1, .clo 48 []), (5, vi s3.1), (7, vi (aS.length : Int)), (8, vi s3.1), (11, .clo 48 []), (15, .agg [vs x7.Source, vi x7.Kind, vs x7.Place, vs x7.Value, vi x7.Years.From, vi x7.Years.To, vi x7.Weight])], []⟩ ?_
  obtain ⟨x8, hx8, h⟩ := bind_some h
  refine SRun.ls (x_lstep_call (f := 48) (caps := []) (xs := [.agg [vs x7.Source, vi x7.Kind, vs x7.Place, vs x7.Value, vi x7.Years.From, vi x7.Years.To, vi x7.Weight]]) (ys := [.agg [vs x7.Source, vi x7.Kind, vs x7.Place, vs x7.Value, vi x7.Years.From, vi x7.Years.To, vi x7.Weight]]) (res := ⟨[.v (vb x8)], [], false⟩) (x := vb x8) (y := none) rfl ents48 (impl_AreClaims_1_run x7 _ hx8) rfl (by intro hc; cases hc)) ?_
  refine SRun.nil ?_
  refine nx_n ?_
  refine swp_cond (b := x8) (by kernel_rfl) (fun hb => ?_) (fun hb => ?_)
  replace h := cond_t hb h
  refine swp_seq ?_
  refine swp_reg ?_
  refine SRun.ck tbok 2 ⟨19, [(4, vi s3.1)], []⟩ ?_
  refine SRun.nil ?_
  refine nx_n ?_
  refine swp_ret ?_
  replace h := Option.some.inj h
  subst h
  exact q_br (q_rr (q_rr (q_br (q_rr (q_fr (fin1 (by kernel_rfl) (finV rfl SV.flat_of (holds_t (by kernel_rfl)))))))))
  replace h := cond_f hb h
  refine swp_skip ?_
  replace h := Option.some.inj h
  subst h
  exact q_bn (q_l (Le.sub0))
  refine swp_reg ?_
  refine SRun.ck tbok 2 ⟨19, [(0, vl eClaim aS), (1, .clo 48 []), (7, vi (aS.length : Int)), (8, vi (w64 (s3.1 + 1)))], []⟩ ?_
  refine SRun.nil ?_
  replace h := Option.some.inj h
  subst h
  exact q_l (Le.sub0)
  replace h := cond_f hb h
  refine swp_exit ?_
  replace h := Option.some.inj h
  subst h
  exact nx_e (q_re (q_bh (q_l (Le.sub0))))
  refine swp_seq ?_
  refine swp_reg ?_
  refine SRun.ck tbok 1 ⟨19, [(4, vi (-1))], []⟩ ?_
  refine SRun.nil ?_
  refine nx_n ?_
  refine swp_ret ?_
  replace h := Option.some.inj h
  subst h
  exact q_fr (fin1 (by kernel_rfl) (finV rfl SV.flat_of (holds_t (by kernel_rfl))))
theorem ents33 : Ents Tryd.prog 33 := ents_of Tryd.func33 (by kernel_rfl) rfl
noncomputable def slices_ContainsFunc_Claim_impl_AreClaims_1 (aS : (List Claim)) : Option (Bool) :=
  ((slices_IndexFunc_Claim_impl_AreClaims_1 aS).bind fun x1 => some (decide (x1 ≥ 0)))
set_option maxRecDepth 100000 in
set_option maxHeartbeats 4000000 in
theorem slices_ContainsFunc_Claim_impl_AreClaims_1_run (aS : (List Claim)) (r : Bool) (h : slices_ContainsFunc_Claim_impl_AreClaims_1 aS = some r) : SCall Tryd.prog 47 [.v (vl eClaim aS), .v (.clo 48 [])] ⟨[.v (vb r)], [], false⟩ := by
  refine scall_in Tryd.func47 rfl [(.tmp 4)] rfl (fun r => ⟨[.v (vb r)], [], false⟩) (r := r) ?_
  unfold slices_ContainsFunc_Claim_impl_AreClaims_1 at h
  refine swp_seq ?_
  refine swp_reg ?_
  refine SRun.ck tbok 1 ⟨9, [(0, vl eClaim aS), (1, .clo 48 [])], []⟩ ?_
  refine SRun.nil ?_
  refine nx_n ?_
  refine swp_seq ?_
  refine swp_reg ?_
  refine SRun.ck tbok 2 ⟨9, [(5, vl eClaim aS), (6, .clo 48 [])], []⟩ ?_
  obtain ⟨x1, hx1, h⟩ := bind_some h
  refine SRun.ls (x_lstep_call (f := 33) (caps := []) (xs := [vl eClaim aS, .clo 48 []]) (ys := [vl eClaim aS, .clo 48 []]) (res := ⟨[.v (vi x1)], [], false⟩) (x := vi x1) (y := none) rfl ents33 (slices_IndexFunc_Claim_impl_AreClaims_1_run aS _ hx1) rfl (by intro hc; cases hc)) ?_
  refine SRun.ck tbok 2 ⟨9, [(4, vb (decide (x1 ≥ 0)))], []⟩ ?_
  refine SRun.nil ?_
  refine nx_n ?_
  refine swp_ret ?_
  replace h := Option.some.inj h
  subst h
  exact q_fr (fin1 (by kernel_rfl) (finV rfl SV.flat_of (holds_t (by kernel_rfl))))
theorem ents47 : Ents Tryd.prog 47 := ents_of Tryd.func47 (by kernel_rfl) rfl
noncomputable def impl_AreClaims (aList : (List Claim)) : Option (Bool) :=
  (((bif (decide ((aList.length : Int) ≤ 12)) then ((slices_ContainsFunc_Claim_impl_AreClaims_1 aList).bind fun x1 => some (!x1)) else some false)).bind fun (j2 : Bool) => some j2)
set_option maxRecDepth 100000 in
set_option maxHeartbeats 4000000 in
theorem impl_AreClaims_run (aList : (List Claim)) (r : Bool) (h : impl_AreClaims aList = some r) : SCall Tryd.prog 39 [.v (vl eClaim aList)] ⟨[.v (vb r)], [], false⟩ := by
  refine scall_in Tryd.func39 rfl [(.tmp 2)] rfl (fun r => ⟨[.v (vb r)], [], false⟩) (r := r) ?_
  unfold impl_AreClaims at h
  refine swp_seq ?_
  refine swp_reg ?_
  refine SRun.ck tbok 1 ⟨11, [(0, vl eClaim aList)], []⟩ ?_
  refine SRun.nil ?_
  refine nx_n ?_
  refine swp_seq ?_
  refine swp_regJ h (fun j2 => ⟨11, [(2, vb j2)], []⟩) (fun v3 h => ?_) (fun j2 h => ?_)
  refine SRun.ck tbok 4 ⟨11, [(0, vl eClaim aList), (6, vb (decide ((aList.length : Int) ≤ 12)))], []⟩ ?_
  refine SRun.cut [(6, fun b => b)] (b := (decide ((aList.length : Int) ≤ 12))) (by kernel_rfl) (fun hb => ?_) (fun hb => ?_)
  replace h := cond_t hb h
  refine SRun.ck tbok 1 ⟨11, [(6, vb true), (7, vl eClaim aList)], []⟩ ?_
  obtain ⟨x1, hx1, h⟩ := bind_some h
  refine SRun.ls (x_lstep_call (f := 47) (caps := []) (xs := [vl eClaim aList, .clo 48 []]) (ys := [vl eClaim aList, .clo 48 []]) (res := ⟨[.v (vb x1)], [], false⟩) (x := vb x1) (y := none) rfl ents47 (slices_ContainsFunc_Claim_impl_AreClaims_1_run aList _ hx1) rfl (by intro hc; cases hc)) ?_
  refine SRun.ck tbok 3 ⟨11, [(2, vb (!x1))], []⟩ ?_
  refine SRun.nil ?_
  replace h := Option.some.inj h
  subst h
  exact Le.sub0
  replace h := cond_f hb h
  refine SRun.ck tbok 5 ⟨11, [(2, vb false)], []⟩ ?_
  refine SRun.nil ?_
  replace h := Option.some.inj h
  subst h
  exact Le.sub0
  refine swp_ret ?_
  replace h := Option.some.inj h
  subst h
  exact q_fr (fin1 (by kernel_rfl) (finV rfl SV.flat_of (holds_t (by kernel_rfl))))
theorem ents39 : Ents Tryd.prog 39 := ents_of Tryd.func39 (by kernel_rfl) rfl
noncomputable def impl_aboutCode (aList : (List Claim)) (aPlace : ByteArray) (aYear : Int) : Option (Int) :=
  ((((((impl_AreClaims aList).bind fun x3 => (bif (!x3) then some true else ((impl_IsWord aPlace).bind fun x4 => some (!x4))))).bind fun (j5 : Bool) => (bif j5 then some (.inr 1) else ((impl_isYear aYear).bind fun x7 => (bif (!x7) then some (.inr 2) else some (.inl ())))))).bind (Sum.elim (fun (_ : Unit) => some 0) some))
set_option maxRecDepth 100000 in
set_option maxHeartbeats 4000000 in
theorem impl_aboutCode_run (aList : (List Claim)) (aPlace : ByteArray) (aYear : Int) (r : Int) (h : impl_aboutCode aList aPlace aYear = some r) : SCall Tryd.prog 31 [.v (vl eClaim aList), .v (vs aPlace), .v (vi aYear)] ⟨[.v (vi r)], [], false⟩ := by
  refine scall_in Tryd.func31 rfl [(.tmp 6)] rfl (fun r => ⟨[.v (vi r)], [], false⟩) (r := r) ?_
  unfold impl_aboutCode at h
  refine swp_seq ?_
  refine swp_reg ?_
  refine SRun.ck tbok 1 ⟨20, [(0, vl eClaim aList), (1, vs aPlace), (2, vi aYear)], []⟩ ?_
  refine SRun.nil ?_
  refine nx_n ?_
  refine swp_seq ?_
  refine swp_seqE (r := r) h (fun j1 => ⟨20, [], []⟩) (fun v2 h => ?_) (fun j1 h => ?_)
  refine swp_blk (a := v2) ?_
  refine swp_seq ?_
  refine swp_regJ h (fun j5 => ⟨20, [(2, vi aYear), (7, vb j5)], []⟩) (fun v6 h => ?_) (fun j5 h => ?_)
  refine SRun.ck tbok 1 ⟨20, [(1, vs aPlace), (2, vi aYear), (8, vl eClaim aList)], []⟩ ?_
  obtain ⟨x3, hx3, h⟩ := bind_some h
  refine SRun.ls (x_lstep_call (f := 39) (caps := []) (xs := [vl eClaim aList]) (ys := [vl eClaim aList]) (res := ⟨[.v (vb x3)], [], false⟩) (x := vb x3) (y := none) rfl ents39 (impl_AreClaims_run aList _ hx3) rfl (by intro hc; cases hc)) ?_
  refine SRun.ck tbok 2 ⟨20, [(1, vs aPlace), (2, vi aYear), (11, vb (!x3))], []⟩ ?_
  refine SRun.cut [(11, fun b => b)] (b := (!x3)) (by kernel_rfl) (fun hb => ?_) (fun hb => ?_)
  replace h := cond_t hb h
  refine SRun.ck tbok 5 ⟨20, [(2, vi aYear), (7, vb true)], []⟩ ?_
  refine SRun.nil ?_
  replace h := Option.some.inj h
  subst h
  exact Le.sub0
  replace h := cond_f hb h
  refine SRun.ck tbok 1 ⟨20, [(2, vi aYear), (11, vb false), (12, vs aPlace)], []⟩ ?_
  obtain ⟨x4, hx4, h⟩ := bind_some h
  refine SRun.ls (x_lstep_call (f := 40) (caps := []) (xs := [vs aPlace]) (ys := [vs aPlace]) (res := ⟨[.v (vb x4)], [], false⟩) (x := vb x4) (y := none) rfl ents40 (impl_IsWord_run aPlace _ hx4) rfl (by intro hc; cases hc)) ?_
  refine SRun.ck tbok 3 ⟨20, [(2, vi aYear), (7, vb (!x4))], []⟩ ?_
  refine SRun.nil ?_
  replace h := Option.some.inj h
  subst h
  exact Le.sub0
  refine swp_cond (b := j5) (by kernel_rfl) (fun hb => ?_) (fun hb => ?_)
  replace h := cond_t hb h
  refine swp_seq ?_
  refine swp_reg ?_
  refine SRun.ck tbok 1 ⟨20, [(6, vi 1)], []⟩ ?_
  refine SRun.nil ?_
  refine nx_n ?_
  refine swp_ret ?_
  replace h := Option.some.inj h
  subst h
  exact q_br (q_rr (q_fr (fin1 (by kernel_rfl) (finV rfl SV.flat_of (holds_t (by kernel_rfl))))))
  replace h := cond_f hb h
  refine swp_seq ?_
  refine swp_reg ?_
  refine SRun.ck tbok 1 ⟨20, [(17, vi aYear)], []⟩ ?_
  obtain ⟨x7, hx7, h⟩ := bind_some h
  refine SRun.ls (x_lstep_call (f := 41) (caps := []) (xs := [vi aYear]) (ys := [vi aYear]) (res := ⟨[.v (vb x7)], [], false⟩) (x := vb x7) (y := none) rfl ents41 (impl_isYear_run aYear _ hx7) rfl (by intro hc; cases hc)) ?_
  refine SRun.ck tbok 2 ⟨20, [(16, vb (!x7))], []⟩ ?_
  refine SRun.nil ?_
  refine nx_n ?_
  refine swp_cond (b := (!x7)) (by kernel_rfl) (fun hb => ?_) (fun hb => ?_)
  replace h := cond_t hb h
  refine swp_seq ?_
  refine swp_reg ?_
  refine SRun.ck tbok 1 ⟨20, [(6, vi 2)], []⟩ ?_
  refine SRun.nil ?_
  refine nx_n ?_
  refine swp_ret ?_
  replace h := Option.some.inj h
  subst h
  exact q_br (q_rr (q_fr (fin1 (by kernel_rfl) (finV rfl SV.flat_of (holds_t (by kernel_rfl))))))
  replace h := cond_f hb h
  refine swp_skip ?_
  replace h := Option.some.inj h
  subst h
  exact q_bn (q_l (Le.sub0))
  refine swp_seq ?_
  refine swp_reg ?_
  refine SRun.ck tbok 1 ⟨20, [(6, vi 0)], []⟩ ?_
  refine SRun.nil ?_
  refine nx_n ?_
  refine swp_ret ?_
  replace h := Option.some.inj h
  subst h
  exact q_fr (fin1 (by kernel_rfl) (finV rfl SV.flat_of (holds_t (by kernel_rfl))))
theorem ents31 : Ents Tryd.prog 31 := ents_of Tryd.func31 (by kernel_rfl) rfl
noncomputable def impl_Span_meets (aS : Span) (aT : Span) : Option (Bool) :=
  some ((decide (aS.From ≤ aT.To)) && (decide (aT.From ≤ aS.To)))
set_option maxRecDepth 100000 in
set_option maxHeartbeats 4000000 in
theorem impl_Span_meets_run (aS : Span) (aT : Span) (r : Bool) (h : impl_Span_meets aS aT = some r) : SCall Tryd.prog 58 [.v (.agg [vi aS.From, vi aS.To]), .v (.agg [vi aT.From, vi aT.To])] ⟨[.v (vb r)], [], false⟩ := by
  refine scall_in Tryd.func58 rfl [(.tmp 4)] rfl (fun r => ⟨[.v (vb r)], [], false⟩) (r := r) ?_
  unfold impl_Span_meets at h
  refine swp_seq ?_
  refine swp_reg ?_
  refine SRun.ck tbok 3 ⟨17, [(2, .ref 2 0), (3, .ref 3 0)], [(2, .box [vi aS.From, vi aS.To]), (3, .box [vi aT.From, vi aT.To])]⟩ ?_
  refine SRun.nil ?_
  refine nx_n ?_
  refine swp_seq ?_
  refine swp_regP ⟨17, [(4, vb ((decide (aS.From ≤ aT.To)) && (decide (aT.From ≤ aS.To))))], []⟩ ?_ ?_
  refine SRun.ck tbok 6 ⟨17, [(2, .ref 2 0), (3, .ref 3 0), (10, vb (decide (aS.From ≤ aT.To)))], [(2, .box [vi aS.From, vi aS.To]), (3, .box [vi aT.From, vi aT.To])]⟩ ?_
  generalize (decide (aS.From ≤ aT.To)) = bb
  cases bb
  refine SRun.ck tbok 7 ⟨17, [(4, vb false)], []⟩ ?_
  exact SRun.nil (Le.sub0)
  refine SRun.ck tbok 7 ⟨17, [(4, vb (decide (aT.From ≤ aS.To)))], []⟩ ?_
  exact SRun.nil (Le.sub0)
  refine swp_ret ?_
  replace h := Option.some.inj h
  subst h
  exact q_fr (fin1 (by kernel_rfl) (finV rfl SV.flat_of (holds_t (by kernel_rfl))))
theorem ents58 : Ents Tryd.prog 58 := ents_of Tryd.func58 (by kernel_rfl) rfl
noncomputable def impl_Claim_isWithout (aC : Claim) (aD : Claim) : Option (Bool) :=
  some ((aC.Kind == 1) && ((aD.Kind == 3) && (aD.Place.toList == aC.Value.toList)))
set_option maxRecDepth 100000 in
set_option maxHeartbeats 4000000 in
theorem impl_Claim_isWithout_run (aC : Claim) (aD : Claim) (r : Bool) (h : impl_Claim_isWithout aC aD = some r) : SCall Tryd.prog 59 [.v (.agg [vs aC.Source, vi aC.Kind, vs aC.Place, vs aC.Value, vi aC.Years.From, vi aC.Years.To, vi aC.Weight]), .v (.agg [vs aD.Source, vi aD.Kind, vs aD.Place, vs aD.Value, vi aD.Years.From, vi aD.Years.To, vi aD.Weight])] ⟨[.v (vb r)], [], false⟩ := by
  refine scall_in Tryd.func59 rfl [(.tmp 4)] rfl (fun r => ⟨[.v (vb r)], [], false⟩) (r := r) ?_
  unfold impl_Claim_isWithout at h
  refine swp_seq ?_
  refine swp_reg ?_
  refine SRun.ck tbok 3 ⟨20, [(2, .ref 2 0), (3, .ref 3 0)], [(2, .box [vs aC.Source, vi aC.Kind, vs aC.Place, vs aC.Value, vi aC.Years.From, vi aC.Years.To, vi aC.Weight]), (3, .box [vs aD.Source, vi aD.Kind, vs aD.Place, vs aD.Value, vi aD.Years.From, vi aD.Years.To, vi aD.Weight])]⟩ ?_
  refine SRun.nil ?_
  refine nx_n ?_
  refine swp_seq ?_
  refine swp_regP ⟨20, [(4, vb ((aC.Kind == 1) && ((aD.Kind == 3) && (aD.Place.toList == aC.Value.toList))))], []⟩ ?_ ?_
  refine SRun.ck tbok 4 ⟨20, [(2, .ref 2 0), (3, .ref 3 0), (8, vb (aC.Kind == 1))], [(2, .box [vs aC.Source, vi aC.Kind, vs aC.Place, vs aC.Value, vi aC.Years.From, vi aC.Years.To, vi aC.Weight]), (3, .box [vs aD.Source, vi aD.Kind, vs aD.Place, vs aD.Value, vi aD.Years.From, vi aD.Years.To, vi aD.Weight])]⟩ ?_
  generalize (aC.Kind == 1) = bb
  cases bb
  refine SRun.ck tbok 12 ⟨20, [(4, vb false)], []⟩ ?_
  exact SRun.nil (Le.sub0)
  refine SRun.ck tbok 5 ⟨20, [(2, .ref 2 0), (3, .ref 3 0), (13, vb (aD.Kind == 3))], [(2, .box [vs aC.Source, vi aC.Kind, vs aC.Place, vs aC.Value, vi aC.Years.From, vi aC.Years.To, vi aC.Weight]), (3, .box [vs aD.Source, vi aD.Kind, vs aD.Place, vs aD.Value, vi aD.Years.From, vi aD.Years.To, vi aD.Weight])]⟩ ?_
  generalize (aD.Kind == 3) = bb
  cases bb
  refine SRun.ck tbok 7 ⟨20, [(4, vb false)], []⟩ ?_
  exact SRun.nil (Le.sub0)
  refine SRun.ck tbok 7 ⟨20, [(4, vb (aD.Place.toList == aC.Value.toList))], []⟩ ?_
  exact SRun.nil (Le.sub0)
  refine swp_ret ?_
  replace h := Option.some.inj h
  subst h
  exact q_fr (fin1 (by kernel_rfl) (finV rfl SV.flat_of (holds_t (by kernel_rfl))))
theorem ents59 : Ents Tryd.prog 59 := ents_of Tryd.func59 (by kernel_rfl) rfl
noncomputable def impl_Claim_contradicts (aC : Claim) (aD : Claim) : Option (Bool) :=
  ((impl_Span_meets aC.Years aD.Years).bind fun x1 => (bif (!x1) then some false else ((((impl_Claim_isWithout aC aD).bind fun x2 => (bif x2 then some true else ((impl_Claim_isWithout aD aC).bind fun x3 => some x3)))).bind fun (j4 : Bool) => (bif j4 then some true else (bif (!(aC.Place.toList == aD.Place.toList)) then some false else (bif (!((aC.Kind == 3) == (aD.Kind == 3))) then some true else some ((aC.Kind == aD.Kind) && (cond (aC.Kind == 0) (!(aC.Value.toList == aD.Value.toList)) ((aC.Kind == 1) && (!(aC.Value.toList == aD.Value.toList)))))))))))
set_option maxRecDepth 100000 in
set_option maxHeartbeats 4000000 in
theorem impl_Claim_contradicts_run (aC : Claim) (aD : Claim) (r : Bool) (h : impl_Claim_contradicts aC aD = some r) : SCall Tryd.prog 51 [.v (.agg [vs aC.Source, vi aC.Kind, vs aC.Place, vs aC.Value, vi aC.Years.From, vi aC.Years.To, vi aC.Weight]), .v (.agg [vs aD.Source, vi aD.Kind, vs aD.Place, vs aD.Value, vi aD.Years.From, vi aD.Years.To, vi aD.Weight])] ⟨[.v (vb r)], [], false⟩ := by
  refine scall_in Tryd.func51 rfl [(.tmp 4)] rfl (fun r => ⟨[.v (vb r)], [], false⟩) (r := r) ?_
  unfold impl_Claim_contradicts at h
  refine swp_seq ?_
  refine swp_reg ?_
  refine SRun.ck tbok 3 ⟨53, [(2, .ref 2 0), (3, .ref 3 0)], [(2, .box [vs aC.Source, vi aC.Kind, vs aC.Place, vs aC.Value, vi aC.Years.From, vi aC.Years.To, vi aC.Weight]), (3, .box [vs aD.Source, vi aD.Kind, vs aD.Place, vs aD.Value, vi aD.Years.From, vi aD.Years.To, vi aD.Weight])]⟩ ?_
  refine SRun.nil ?_
  refine nx_n ?_
  refine swp_seq ?_
  refine swp_seq ?_
  refine swp_reg ?_
  refine SRun.ck tbok 4 ⟨53, [(2, .ref 2 0), (3, .ref 3 0), (6, .agg [vi aC.Years.From, vi aC.Years.To]), (8, .agg [vi aD.Years.From, vi aD.Years.To])], [(2, .box [vs aC.Source, vi aC.Kind, vs aC.Place, vs aC.Value, vi aC.Years.From, vi aC.Years.To, vi aC.Weight]), (3, .box [vs aD.Source, vi aD.Kind, vs aD.Place, vs aD.Value, vi aD.Years.From, vi aD.Years.To, vi aD.Weight])]⟩ ?_
  obtain ⟨x1, hx1, h⟩ := bind_some h
  refine SRun.ls (x_lstep_call (f := 58) (caps := []) (xs := [.agg [vi aC.Years.From, vi aC.Years.To], .agg [vi aD.Years.From, vi aD.Years.To]]) (ys := [.agg [vi aC.Years.From, vi aC.Years.To], .agg [vi aD.Years.From, vi aD.Years.To]]) (res := ⟨[.v (vb x1)], [], false⟩) (x := vb x1) (y := none) rfl ents58 (impl_Span_meets_run aC.Years aD.Years _ hx1) rfl (by intro hc; cases hc)) ?_
  refine SRun.ck tbok 1 ⟨53, [(2, .ref 2 0), (3, .ref 3 0), (10, vb (!x1))], [(2, .box [vs aC.Source, vi aC.Kind, vs aC.Place, vs aC.Value, vi aC.Years.From, vi aC.Years.To, vi aC.Weight]), (3, .box [vs aD.Source, vi aD.Kind, vs aD.Place, vs aD.Value, vi aD.Years.From, vi aD.Years.To, vi aD.Weight])]⟩ ?_
  refine SRun.nil ?_
  refine nx_n ?_
  refine swp_cond (b := (!x1)) (by kernel_rfl) (fun hb => ?_) (fun hb => ?_)
  replace h := cond_t hb h
  refine swp_seq ?_
  refine swp_reg ?_
  refine SRun.ck tbok 1 ⟨53, [(4, vb false)], []⟩ ?_
  refine SRun.nil ?_
  refine nx_n ?_
  refine swp_ret ?_
  replace h := Option.some.inj h
  subst h
  exact nx_r (q_fr (fin1 (by kernel_rfl) (finV rfl SV.flat_of (holds_t (by kernel_rfl)))))
  replace h := cond_f hb h
  refine swp_skip ?_
  refine nx_n ?_
  refine swp_seq ?_
  refine swp_seq ?_
  refine swp_regJ h (fun j4 => ⟨53, [(2, .ref 2 0), (3, .ref 3 0), (18, vb j4)], [(2, .box [vs aC.Source, vi aC.Kind, vs aC.Place, vs aC.Value, vi aC.Years.From, vi aC.Years.To, vi aC.Weight]), (3, .box [vs aD.Source, vi aD.Kind, vs aD.Place, vs aD.Value, vi aD.Years.From, vi aD.Years.To, vi aD.Weight])]⟩) (fun v5 h => ?_) (fun j4 h => ?_)
  refine SRun.ck tbok 2 ⟨53, [(2, .ref 2 0), (3, .ref 3 0), (11, .agg [vs aC.Source, vi aC.Kind, vs aC.Place, vs aC.Value, vi aC.Years.From, vi aC.Years.To, vi aC.Weight]), (12, .agg [vs aD.Source, vi aD.Kind, vs aD.Place, vs aD.Value, vi aD.Years.From, vi aD.Years.To, vi aD.Weight])], [(2, .box [vs aC.Source, vi aC.Kind, vs aC.Place, vs aC.Value, vi aC.Years.From, vi aC.Years.To, vi aC.Weight]), (3, .box [vs aD.Source, vi aD.Kind, vs aD.Place, vs aD.Value, vi aD.Years.From, vi aD.Years.To, vi aD.Weight])]⟩ ?_
  obtain ⟨x2, hx2, h⟩ := bind_some h
  refine SRun.ls (x_lstep_call (f := 59) (caps := []) (xs := [.agg [vs aC.Source, vi aC.Kind, vs aC.Place, vs aC.Value, vi aC.Years.From, vi aC.Years.To, vi aC.Weight], .agg [vs aD.Source, vi aD.Kind, vs aD.Place, vs aD.Value, vi aD.Years.From, vi aD.Years.To, vi aD.Weight]]) (ys := [.agg [vs aC.Source, vi aC.Kind, vs aC.Place, vs aC.Value, vi aC.Years.From, vi aC.Years.To, vi aC.Weight], .agg [vs aD.Source, vi aD.Kind, vs aD.Place, vs aD.Value, vi aD.Years.From, vi aD.Years.To, vi aD.Weight]]) (res := ⟨[.v (vb x2)], [], false⟩) (x := vb x2) (y := none) rfl ents59 (impl_Claim_isWithout_run aC aD _ hx2) rfl (by intro hc; cases hc)) ?_
  refine SRun.ck tbok 1 ⟨53, [(2, .ref 2 0), (3, .ref 3 0), (14, vb x2)], [(2, .box [vs aC.Source, vi aC.Kind, vs aC.Place, vs aC.Value, vi aC.Years.From, vi aC.Years.To, vi aC.Weight]), (3, .box [vs aD.Source, vi aD.Kind, vs aD.Place, vs aD.Value, vi aD.Years.From, vi aD.Years.To, vi aD.Weight])]⟩ ?_
  refine SRun.cut [(14, fun b => b)] (b := x2) (by kernel_rfl) (fun hb => ?_) (fun hb => ?_)
  replace h := cond_t hb h
  refine SRun.ck tbok 4 ⟨53, [(2, .ref 2 0), (3, .ref 3 0), (18, vb true)], [(2, .box [vs aC.Source, vi aC.Kind, vs aC.Place, vs aC.Value, vi aC.Years.From, vi aC.Years.To, vi aC.Weight]), (3, .box [vs aD.Source, vi aD.Kind, vs aD.Place, vs aD.Value, vi aD.Years.From, vi aD.Years.To, vi aD.Weight])]⟩ ?_
  refine SRun.nil ?_
  replace h := Option.some.inj h
  subst h
  exact Le.sub0
  replace h := cond_f hb h
  refine SRun.ck tbok 2 ⟨53, [(2, .ref 2 0), (3, .ref 3 0), (14, vb false), (15, .agg [vs aD.Source, vi aD.Kind, vs aD.Place, vs aD.Value, vi aD.Years.From, vi aD.Years.To, vi aD.Weight]), (16, .agg [vs aC.Source, vi aC.Kind, vs aC.Place, vs aC.Value, vi aC.Years.From, vi aC.Years.To, vi aC.Weight])], [(2, .box [vs aC.Source, vi aC.Kind, vs aC.Place, vs aC.Value, vi aC.Years.From, vi aC.Years.To, vi aC.Weight]), (3, .box [vs aD.Source, vi aD.Kind, vs aD.Place, vs aD.Value, vi aD.Years.From, vi aD.Years.To, vi aD.Weight])]⟩ ?_
  obtain ⟨x3, hx3, h⟩ := bind_some h
  refine SRun.ls (x_lstep_call (f := 59) (caps := []) (xs := [.agg [vs aD.Source, vi aD.Kind, vs aD.Place, vs aD.Value, vi aD.Years.From, vi aD.Years.To, vi aD.Weight], .agg [vs aC.Source, vi aC.Kind, vs aC.Place, vs aC.Value, vi aC.Years.From, vi aC.Years.To, vi aC.Weight]]) (ys := [.agg [vs aD.Source, vi aD.Kind, vs aD.Place, vs aD.Value, vi aD.Years.From, vi aD.Years.To, vi aD.Weight], .agg [vs aC.Source, vi aC.Kind, vs aC.Place, vs aC.Value, vi aC.Years.From, vi aC.Years.To, vi aC.Weight]]) (res := ⟨[.v (vb x3)], [], false⟩) (x := vb x3) (y := none) rfl ents59 (impl_Claim_isWithout_run aD aC _ hx3) rfl (by intro hc; cases hc)) ?_
  refine SRun.ck tbok 1 ⟨53, [(2, .ref 2 0), (3, .ref 3 0), (18, vb x3)], [(2, .box [vs aC.Source, vi aC.Kind, vs aC.Place, vs aC.Value, vi aC.Years.From, vi aC.Years.To, vi aC.Weight]), (3, .box [vs aD.Source, vi aD.Kind, vs aD.Place, vs aD.Value, vi aD.Years.From, vi aD.Years.To, vi aD.Weight])]⟩ ?_
  refine SRun.nil ?_
  replace h := Option.some.inj h
  subst h
  exact Le.sub0
  refine swp_cond (b := j4) (by kernel_rfl) (fun hb => ?_) (fun hb => ?_)
  replace h := cond_t hb h
  refine swp_seq ?_
  refine swp_reg ?_
  refine SRun.ck tbok 1 ⟨53, [(4, vb true)], []⟩ ?_
  refine SRun.nil ?_
  refine nx_n ?_
  refine swp_ret ?_
  replace h := Option.some.inj h
  subst h
  exact nx_r (q_fr (fin1 (by kernel_rfl) (finV rfl SV.flat_of (holds_t (by kernel_rfl)))))
  replace h := cond_f hb h
  refine swp_skip ?_
  refine nx_n ?_
  refine swp_seq ?_
  refine swp_seq ?_
  refine swp_reg ?_
  refine SRun.ck tbok 5 ⟨53, [(2, .ref 2 0), (3, .ref 3 0), (23, vb (!(aC.Place.toList == aD.Place.toList)))], [(2, .box [vs aC.Source, vi aC.Kind, vs aC.Place, vs aC.Value, vi aC.Years.From, vi aC.Years.To, vi aC.Weight]), (3, .box [vs aD.Source, vi aD.Kind, vs aD.Place, vs aD.Value, vi aD.Years.From, vi aD.Years.To, vi aD.Weight])]⟩ ?_
  refine SRun.nil ?_
  refine nx_n ?_
  refine swp_cond (b := (!(aC.Place.toList == aD.Place.toList))) (by kernel_rfl) (fun hb => ?_) (fun hb => ?_)
  replace h := cond_t hb h
  refine swp_seq ?_
  refine swp_reg ?_
  refine SRun.ck tbok 1 ⟨53, [(4, vb false)], []⟩ ?_
  refine SRun.nil ?_
  refine nx_n ?_
  refine swp_ret ?_
  replace h := Option.some.inj h
  subst h
  exact nx_r (q_fr (fin1 (by kernel_rfl) (finV rfl SV.flat_of (holds_t (by kernel_rfl)))))
  replace h := cond_f hb h
  refine swp_skip ?_
  refine nx_n ?_
  refine swp_seq ?_
  refine swp_seq ?_
  refine swp_reg ?_
  refine SRun.ck tbok 6 ⟨53, [(2, .ref 2 0), (3, .ref 3 0), (26, vb (aC.Kind == 3)), (29, vb (aD.Kind == 3))], [(2, .box [vs aC.Source, vi aC.Kind, vs aC.Place, vs aC.Value, vi aC.Years.From, vi aC.Years.To, vi aC.Weight]), (3, .box [vs aD.Source, vi aD.Kind, vs aD.Place, vs aD.Value, vi aD.Years.From, vi aD.Years.To, vi aD.Weight])]⟩ ?_
  refine SRun.ls (x_lstep_eqb tbok (ti := ti4) (i := (aC.Kind == 3)) (j := (aD.Kind == 3)) true rfl) ?_
  refine SRun.nil ?_
  refine nx_n ?_
  refine swp_cond (b := (!((aC.Kind == 3) == (aD.Kind == 3)))) (by kernel_rfl) (fun hb => ?_) (fun hb => ?_)
  replace h := cond_t hb h
  refine swp_seq ?_
  refine swp_reg ?_
  refine SRun.ck tbok 1 ⟨53, [(4, vb true)], []⟩ ?_
  refine SRun.nil ?_
  refine nx_n ?_
  refine swp_ret ?_
  replace h := Option.some.inj h
  subst h
  exact nx_r (q_fr (fin1 (by kernel_rfl) (finV rfl SV.flat_of (holds_t (by kernel_rfl)))))
  replace h := cond_f hb h
  refine swp_skip ?_
  refine nx_n ?_
  refine swp_seq ?_
  refine swp_regP ⟨53, [(4, vb ((aC.Kind == aD.Kind) && (cond (aC.Kind == 0) (!(aC.Value.toList == aD.Value.toList)) ((aC.Kind == 1) && (!(aC.Value.toList == aD.Value.toList))))))], []⟩ ?_ ?_
  refine SRun.ck tbok 6 ⟨53, [(2, .ref 2 0), (3, .ref 3 0), (36, vb (aC.Kind == aD.Kind))], [(2, .box [vs aC.Source, vi aC.Kind, vs aC.Place, vs aC.Value, vi aC.Years.From, vi aC.Years.To, vi aC.Weight]), (3, .box [vs aD.Source, vi aD.Kind, vs aD.Place, vs aD.Value, vi aD.Years.From, vi aD.Years.To, vi aD.Weight])]⟩ ?_
  generalize (aC.Kind == aD.Kind) = bb
  cases bb
  refine SRun.ck tbok 17 ⟨53, [(4, vb false)], []⟩ ?_
  exact SRun.nil (Le.sub0)
  refine SRun.ck tbok 4 ⟨53, [(2, .ref 2 0), (3, .ref 3 0), (36, vb true), (40, vb (aC.Kind == 0))], [(2, .box [vs aC.Source, vi aC.Kind, vs aC.Place, vs aC.Value, vi aC.Years.From, vi aC.Years.To, vi aC.Weight]), (3, .box [vs aD.Source, vi aD.Kind, vs aD.Place, vs aD.Value, vi aD.Years.From, vi aD.Years.To, vi aD.Weight])]⟩ ?_
  generalize (aC.Kind == 0) = bb
  cases bb
  refine SRun.ck tbok 6 ⟨53, [(2, .ref 2 0), (3, .ref 3 0), (46, vb (aC.Kind == 1))], [(2, .box [vs aC.Source, vi aC.Kind, vs aC.Place, vs aC.Value, vi aC.Years.From, vi aC.Years.To, vi aC.Weight]), (3, .box [vs aD.Source, vi aD.Kind, vs aD.Place, vs aD.Value, vi aD.Years.From, vi aD.Years.To, vi aD.Weight])]⟩ ?_
  generalize (aC.Kind == 1) = bb
  cases bb
  refine SRun.ck tbok 7 ⟨53, [(4, vb false)], []⟩ ?_
  exact SRun.nil (Le.sub0)
  refine SRun.ck tbok 7 ⟨53, [(4, vb (!(aC.Value.toList == aD.Value.toList)))], []⟩ ?_
  exact SRun.nil (Le.sub0)
  refine SRun.ck tbok 13 ⟨53, [(4, vb (!(aC.Value.toList == aD.Value.toList)))], []⟩ ?_
  exact SRun.nil (Le.sub0)
  refine swp_ret ?_
  replace h := Option.some.inj h
  subst h
  exact q_fr (fin1 (by kernel_rfl) (finV rfl SV.flat_of (holds_t (by kernel_rfl))))
theorem ents51 : Ents Tryd.prog 51 := ents_of Tryd.func51 (by kernel_rfl) rfl
noncomputable def slices_IndexFunc_Claim_impl_Claim_contradicts (aS : (List Claim)) (aF0 : Claim) : Option (Int) :=
  (((forN (aS.length : Int) (fun (i3 : Int) (_ : Unit) => ((at' aS i3).bind fun x7 => ((impl_Claim_contradicts aF0 x7).bind fun x8 => (bif x8 then some (.inr (.inr i3)) else some (.inl ()))))) (fun (_ : Unit) => .inl ()) 0 ())).bind (Sum.elim (fun (_ : Unit) => some (-1)) some))
set_option maxRecDepth 100000 in
set_option maxHeartbeats 4000000 in
theorem slices_IndexFunc_Claim_impl_Claim_contradicts_run (aS : (List Claim)) (aF0 : Claim) (r : Int) (h : slices_IndexFunc_Claim_impl_Claim_contradicts aS aF0 = some r) : SCall Tryd.prog 33 [.v (vl eClaim aS), .v (.mth 51 [.agg [vs aF0.Source, vi aF0.Kind, vs aF0.Place, vs aF0.Value, vi aF0.Years.From, vi aF0.Years.To, vi aF0.Weight]])] ⟨[.v (vi r)], [], false⟩ := by
  refine scall_in Tryd.func33 rfl [(.tmp 4)] rfl (fun r => ⟨[.v (vi r)], [], false⟩) (r := r) ?_
  unfold slices_IndexFunc_Claim_impl_Claim_contradicts at h
  refine swp_seq ?_
  refine swp_reg ?_
  refine SRun.ck tbok 1 ⟨19, [(0, vl eClaim aS), (1, .mth 51 [.agg [vs aF0.Source, vi aF0.Kind, vs aF0.Place, vs aF0.Value, vi aF0.Years.From, vi aF0.Years.To, vi aF0.Weight]])], []⟩ ?_
  refine SRun.nil ?_
  refine nx_n ?_
  refine swp_seq ?_
  refine swp_seq ?_
  refine swp_reg ?_
  refine SRun.ck tbok 3 ⟨19, [(0, vl eClaim aS), (1, .mth 51 [.agg [vs aF0.Source, vi aF0.Kind, vs aF0.Place, vs aF0.Value, vi aF0.Years.From, vi aF0.Years.To, vi aF0.Weight]]), (7, vi (aS.length : Int)), (8, vi 0)], []⟩ ?_
  refine SRun.nil ?_
  refine nx_n ?_
  refine swp_seqE (r := r) h (fun j1 => ⟨19, [], []⟩) (fun v2 h => ?_) (fun j1 h => ?_)
  refine swp_blk (a := v2) ?_
  refine swp_lpL (r := v2) (s := (0, ())) _ (fun s3 => ⟨19, [(0, vl eClaim aS), (1, .mth 51 [.agg [vs aF0.Source, vi aF0.Kind, vs aF0.Place, vs aF0.Value, vi aF0.Years.From, vi aF0.Years.To, vi aF0.Weight]]), (7, vi (aS.length : Int)), (8, vi s3.1)], []⟩) _ (Le.sub0) h (fun s3 v4 h => ?_)
  refine swp_seq ?_
  refine swp_reg ?_
  refine SRun.ck tbok 1 ⟨19, [(0, vl eClaim aS), (1, .mth 51 [.agg [vs aF0.Source, vi aF0.Kind, vs aF0.Place, vs aF0.Value, vi aF0.Years.From, vi aF0.Years.To, vi aF0.Weight]]), (7, vi (aS.length : Int)), (8, vi s3.1), (9, vb (decide (s3.1 < (aS.length : Int))))], []⟩ ?_
  refine SRun.nil ?_
  refine nx_n ?_
  refine swp_seq ?_
  refine swp_cond (b := (decide (s3.1 < (aS.length : Int)))) (by kernel_rfl) (fun hb => ?_) (fun hb => ?_)
  replace h := cond_t hb h
  refine swp_skip ?_
  refine nx_n ?_
  refine swp_seq ?_
  refine swp_seqL (r := v4) h (fun j5 => ⟨19, [(0, vl eClaim aS), (1, .mth 51 [.agg [vs aF0.Source, vi aF0.Kind, vs aF0.Place, vs aF0.Value, vi aF0.Years.From, vi aF0.Years.To, vi aF0.Weight]]), (7, vi (aS.length : Int)), (8, vi s3.1)], []⟩) (fun v6 h => ?_) (fun j5 h => ?_)
  refine swp_blk (a := v6) ?_
  refine swp_seq ?_
  refine swp_reg ?_
  refine SRun.ck tbok 2 ⟨19, [(0, vl eClaim aS), (1, .mth 51 [.agg [vs aF0.Source, vi aF0.Kind, vs aF0.Place, vs aF0.Value, vi aF0.Years.From, vi aF0.Years.To, vi aF0.Weight]]), (5, vi s3.1), (7, vi (aS.length : Int)), (8, vi s3.1)], []⟩ ?_
  refine SRun.nil ?_
  refine nx_n ?_
  refine swp_seq ?_
  refine swp_reg ?_
  refine SRun.ck tbok 3 ⟨19, [(0, vl eClaim aS), (1, .mth 51 [.agg [vs aF0.Source, vi aF0.Kind, vs aF0.Place, vs aF0.Value, vi aF0.Years.From, vi aF0.Years.To, vi aF0.Weight]]), (5, vi s3.1), (7, vi (aS.length : Int)), (8, vi s3.1), (11, .mth 51 [.agg [vs aF0.Source, vi aF0.Kind, vs aF0.Place, vs aF0.Value, vi aF0.Years.From, vi aF0.Years.To, vi aF0.Weight]]), (12, vl eClaim aS), (13, vi s3.1)], []⟩ ?_
  obtain ⟨x7, hx7, h⟩ := bind_some h
  refine SRun.ls (x_index (L := aS) (f := eClaim) (ti := ti26) (tj := ti39) (e := 39) (k := .i64) tbok rfl hx7) ?_
  refine SRun.ck tbok 1 ⟨19, [(0, vl eClaim aS), (1, .mth 51 [.agg [vs aF0.Source, vi aF0.Kind, vs aF0.Place, vs aF0.Value, vi aF0.Years.From, vi aF0.Years.To, vi aF0.Weight]]), (5, vi s3.1), (7, vi (aS.length : Int)), (8, vi s3.1), (11, .mth 51 [.agg [vs aF0.Source, vi aF0.Kind, vs aF0.Place, vs aF0.Value, vi aF0.Years.From, vi aF0.Years.To, vi aF0.Weight]]), (15, .agg [vs x7.Source, vi x7.Kind, vs x7.Place, vs x7.Value, vi x7.Years.From, vi x7.Years.To, vi x7.Weight])], []⟩ ?_
  obtain ⟨x8, hx8, h⟩ := bind_some h
  refine SRun.ls (x_lstep_callM (f := 51) (caps := [.agg [vs aF0.Source, vi aF0.Kind, vs aF0.Place, vs aF0.Value, vi aF0.Years.From, vi aF0.Years.To, vi aF0.Weight]]) (xs := [.agg [vs x7.Source, vi x7.Kind, vs x7.Place, vs x7.Value, vi x7.Years.From, vi x7.Years.To, vi x7.Weight]]) (ys := [.agg [vs aF0.Source, vi aF0.Kind, vs aF0.Place, vs aF0.Value, vi aF0.Years.From, vi aF0.Years.To, vi aF0.Weight], .agg [vs x7.Source, vi x7.Kind, vs x7.Place, vs x7.Value, vi x7.Years.From, vi x7.Years.To, vi x7.Weight]]) (res := ⟨[.v (vb x8)], [], false⟩) (x := vb x8) (y := none) rfl ents51 (impl_Claim_contradicts_run aF0 x7 _ hx8) rfl (by intro hc; cases hc)) ?_
  refine SRun.nil ?_
  refine nx_n ?_
  refine swp_cond (b := x8) (by kernel_rfl) (fun hb => ?_) (fun hb => ?_)
  replace h := cond_t hb h
  refine swp_seq ?_
  refine swp_reg ?_
  refine SRun.ck tbok 2 ⟨19, [(4, vi s3.1)], []⟩ ?_
  refine SRun.nil ?_
  refine nx_n ?_
  refine swp_ret ?_
  replace h := Option.some.inj h
  subst h
  exact q_br (q_rr (q_rr (q_br (q_rr (q_fr (fin1 (by kernel_rfl) (finV rfl SV.flat_of (holds_t (by kernel_rfl)))))))))
  replace h := cond_f hb h
  refine swp_skip ?_
  replace h := Option.some.inj h
  subst h
  exact q_bn (q_l (Le.sub0))
  refine swp_reg ?_
  refine SRun.ck tbok 2 ⟨19, [(0, vl eClaim aS), (1, .mth 51 [.agg [vs aF0.Source, vi aF0.Kind, vs aF0.Place, vs aF0.Value, vi aF0.Years.From, vi aF0.Years.To, vi aF0.Weight]]), (7, vi (aS.length : Int)), (8, vi (w64 (s3.1 + 1)))], []⟩ ?_
  refine SRun.nil ?_
  replace h := Option.some.inj h
  subst h
  exact q_l (Le.sub0)
  replace h := cond_f hb h
  refine swp_exit ?_
  replace h := Option.some.inj h
  subst h
  exact nx_e (q_re (q_bh (q_l (Le.sub0))))
  refine swp_seq ?_
  refine swp_reg ?_
  refine SRun.ck tbok 1 ⟨19, [(4, vi (-1))], []⟩ ?_
  refine SRun.nil ?_
  refine nx_n ?_
  refine swp_ret ?_
  replace h := Option.some.inj h
  subst h
  exact q_fr (fin1 (by kernel_rfl) (finV rfl SV.flat_of (holds_t (by kernel_rfl))))
noncomputable def slices_ContainsFunc_Claim_impl_Claim_contradicts (aS : (List Claim)) (aF0 : Claim) : Option (Bool) :=
  ((slices_IndexFunc_Claim_impl_Claim_contradicts aS aF0).bind fun x1 => some (decide (x1 ≥ 0)))
set_option maxRecDepth 100000 in
set_option maxHeartbeats 4000000 in
theorem slices_ContainsFunc_Claim_impl_Claim_contradicts_run (aS : (List Claim)) (aF0 : Claim) (r : Bool) (h : slices_ContainsFunc_Claim_impl_Claim_contradicts aS aF0 = some r) : SCall Tryd.prog 47 [.v (vl eClaim aS), .v (.mth 51 [.agg [vs aF0.Source, vi aF0.Kind, vs aF0.Place, vs aF0.Value, vi aF0.Years.From, vi aF0.Years.To, vi aF0.Weight]])] ⟨[.v (vb r)], [], false⟩ := by
  refine scall_in Tryd.func47 rfl [(.tmp 4)] rfl (fun r => ⟨[.v (vb r)], [], false⟩) (r := r) ?_
  unfold slices_ContainsFunc_Claim_impl_Claim_contradicts at h
  refine swp_seq ?_
  refine swp_reg ?_
  refine SRun.ck tbok 1 ⟨9, [(0, vl eClaim aS), (1, .mth 51 [.agg [vs aF0.Source, vi aF0.Kind, vs aF0.Place, vs aF0.Value, vi aF0.Years.From, vi aF0.Years.To, vi aF0.Weight]])], []⟩ ?_
  refine SRun.nil ?_
  refine nx_n ?_
  refine swp_seq ?_
  refine swp_reg ?_
  refine SRun.ck tbok 2 ⟨9, [(5, vl eClaim aS), (6, .mth 51 [.agg [vs aF0.Source, vi aF0.Kind, vs aF0.Place, vs aF0.Value, vi aF0.Years.From, vi aF0.Years.To, vi aF0.Weight]])], []⟩ ?_
  obtain ⟨x1, hx1, h⟩ := bind_some h
  refine SRun.ls (x_lstep_call (f := 33) (caps := []) (xs := [vl eClaim aS, .mth 51 [.agg [vs aF0.Source, vi aF0.Kind, vs aF0.Place, vs aF0.Value, vi aF0.Years.From, vi aF0.Years.To, vi aF0.Weight]]]) (ys := [vl eClaim aS, .mth 51 [.agg [vs aF0.Source, vi aF0.Kind, vs aF0.Place, vs aF0.Value, vi aF0.Years.From, vi aF0.Years.To, vi aF0.Weight]]]) (res := ⟨[.v (vi x1)], [], false⟩) (x := vi x1) (y := none) rfl ents33 (slices_IndexFunc_Claim_impl_Claim_contradicts_run aS aF0 _ hx1) rfl (by intro hc; cases hc)) ?_
  refine SRun.ck tbok 2 ⟨9, [(4, vb (decide (x1 ≥ 0)))], []⟩ ?_
  refine SRun.nil ?_
  refine nx_n ?_
  refine swp_ret ?_
  replace h := Option.some.inj h
  subst h
  exact q_fr (fin1 (by kernel_rfl) (finV rfl SV.flat_of (holds_t (by kernel_rfl))))
noncomputable def impl_hasPair (aList : (List Claim)) : Option (Bool) :=
  (((forN (aList.length : Int) (fun (i3 : Int) (_ : Unit) => ((at' aList i3).bind fun x7 => ((part' aList 0 i3).bind fun x8 => ((slices_ContainsFunc_Claim_impl_Claim_contradicts x8 x7).bind fun x9 => (bif x9 then some (.inr (.inr true)) else some (.inl ())))))) (fun (_ : Unit) => .inl ()) 0 ())).bind (Sum.elim (fun (_ : Unit) => some false) some))
set_option maxRecDepth 100000 in
set_option maxHeartbeats 4000000 in
theorem impl_hasPair_run (aList : (List Claim)) (r : Bool) (h : impl_hasPair aList = some r) : SCall Tryd.prog 42 [.v (vl eClaim aList)] ⟨[.v (vb r)], [], false⟩ := by
  refine scall_in Tryd.func42 rfl [(.tmp 2)] rfl (fun r => ⟨[.v (vb r)], [], false⟩) (r := r) ?_
  unfold impl_hasPair at h
  refine swp_seq ?_
  refine swp_reg ?_
  refine SRun.ck tbok 1 ⟨19, [(0, vl eClaim aList)], []⟩ ?_
  refine SRun.nil ?_
  refine nx_n ?_
  refine swp_seq ?_
  refine swp_seq ?_
  refine swp_reg ?_
  refine SRun.ck tbok 3 ⟨19, [(0, vl eClaim aList), (5, vl eClaim aList), (6, vi (aList.length : Int)), (7, vi 0)], []⟩ ?_
  refine SRun.nil ?_
  refine nx_n ?_
  refine swp_seqE (r := r) h (fun j1 => ⟨19, [], []⟩) (fun v2 h => ?_) (fun j1 h => ?_)
  refine swp_blk (a := v2) ?_
  refine swp_lpL (r := v2) (s := (0, ())) _ (fun s3 => ⟨19, [(0, vl eClaim aList), (5, vl eClaim aList), (6, vi (aList.length : Int)), (7, vi s3.1)], []⟩) _ (Le.sub0) h (fun s3 v4 h => ?_)
  refine swp_seq ?_
  refine swp_reg ?_
  refine SRun.ck tbok 1 ⟨19, [(0, vl eClaim aList), (5, vl eClaim aList), (6, vi (aList.length : Int)), (7, vi s3.1), (8, vb (decide (s3.1 < (aList.length : Int))))], []⟩ ?_
  refine SRun.nil ?_
  refine nx_n ?_
  refine swp_seq ?_
  refine swp_cond (b := (decide (s3.1 < (aList.length : Int)))) (by kernel_rfl) (fun hb => ?_) (fun hb => ?_)
  replace h := cond_t hb h
  refine swp_skip ?_
  refine nx_n ?_
  refine swp_seq ?_
  refine swp_seqL (r := v4) h (fun j5 => ⟨19, [(0, vl eClaim aList), (5, vl eClaim aList), (6, vi (aList.length : Int)), (7, vi s3.1)], []⟩) (fun v6 h => ?_) (fun j5 h => ?_)
  refine swp_blk (a := v6) ?_
  refine swp_seq ?_
  refine swp_reg ?_
  refine SRun.ck tbok 1 ⟨19, [(0, vl eClaim aList), (5, vl eClaim aList), (6, vi (aList.length : Int)), (7, vi s3.1), (9, vi s3.1)], []⟩ ?_
  obtain ⟨x7, hx7, h⟩ := bind_some h
  refine SRun.ls (x_index (L := aList) (f := eClaim) (ti := ti26) (tj := ti39) (e := 39) (k := .i64) tbok rfl hx7) ?_
  refine SRun.ck tbok 3 ⟨19, [(0, vl eClaim aList), (3, vi s3.1), (4, .ref 4 0), (5, vl eClaim aList), (6, vi (aList.length : Int)), (7, vi s3.1), (11, .agg [vs x7.Source, vi x7.Kind, vs x7.Place, vs x7.Value, vi x7.Years.From, vi x7.Years.To, vi x7.Weight])], [(4, .box [vs (ByteArray.mk #[]), vi 0, vs (ByteArray.mk #[]), vs (ByteArray.mk #[]), vi 0, vi 0, vi 0])]⟩ ?_
  refine SRun.estep (x_estep_store (d := 4) (k := 0) (ti := ti39) (cs := [vs (ByteArray.mk #[]), vi 0, vs (ByteArray.mk #[]), vs (ByteArray.mk #[]), vi 0, vi 0, vi 0]) (vs := [vs x7.Source, vi x7.Kind, vs x7.Place, vs x7.Value, vi x7.Years.From, vi x7.Years.To, vi x7.Weight]) (v := .agg [vs x7.Source, vi x7.Kind, vs x7.Place, vs x7.Value, vi x7.Years.From, vi x7.Years.To, vi x7.Weight]) tbok rfl rfl) ?_
  refine SRun.nil ?_
  refine nx_n ?_
  refine swp_seq ?_
  refine swp_dr mixed ?_
  refine DGo.chunk' tbok 2 (σ' := ⟨19, [(13, vi s3.1), (12, vl eClaim aList), (0, vl eClaim aList), (3, vi s3.1), (4, .ref 4 0), (5, vl eClaim aList), (6, vi (aList.length : Int)), (7, vi s3.1), (11, .agg [vs x7.Source, vi x7.Kind, vs x7.Place, vs x7.Value, vi x7.Years.From, vi x7.Years.To, vi x7.Weight])], [(4, .box [vs x7.Source, vi x7.Kind, vs x7.Place, vs x7.Value, vi x7.Years.From, vi x7.Years.To, vi x7.Weight])]⟩) (by kernel_rfl) ?_
  obtain ⟨x8, hx8, h⟩ := bind_some h
  refine DGo.step (x_slice (m := 7) (f := eClaim) (ti := ti26) (tj := ti39) (e := 39) hx8 (fun _ => rfl) tbok rfl) ?_
  refine DGo.chunk' tbok 2 (σ' := ⟨19, [(16, .mth 51 [.agg [vs x7.Source, vi x7.Kind, vs x7.Place, vs x7.Value, vi x7.Years.From, vi x7.Years.To, vi x7.Weight]]), (15, .agg [vs x7.Source, vi x7.Kind, vs x7.Place, vs x7.Value, vi x7.Years.From, vi x7.Years.To, vi x7.Weight]), (14, vl eClaim x8), (13, vi s3.1), (12, vl eClaim aList), (0, vl eClaim aList), (3, vi s3.1), (4, .ref 4 0), (5, vl eClaim aList), (6, vi (aList.length : Int)), (7, vi s3.1), (11, .agg [vs x7.Source, vi x7.Kind, vs x7.Place, vs x7.Value, vi x7.Years.From, vi x7.Years.To, vi x7.Weight])], [(4, .box [vs x7.Source, vi x7.Kind, vs x7.Place, vs x7.Value, vi x7.Years.From, vi x7.Years.To, vi x7.Weight])]⟩) (by kernel_rfl) ?_
  obtain ⟨x9, hx9, h⟩ := bind_some h
  refine DGo.step (x_lstep_call (f := 47) (caps := []) (xs := [vl eClaim x8, .mth 51 [.agg [vs x7.Source, vi x7.Kind, vs x7.Place, vs x7.Value, vi x7.Years.From, vi x7.Years.To, vi x7.Weight]]]) (ys := [vl eClaim x8, .mth 51 [.agg [vs x7.Source, vi x7.Kind, vs x7.Place, vs x7.Value, vi x7.Years.From, vi x7.Years.To, vi x7.Weight]]]) (res := ⟨[.v (vb x9)], [], false⟩) (x := vb x9) (y := none) rfl ents47 (slices_ContainsFunc_Claim_impl_Claim_contradicts_run x8 x7 _ hx9) rfl (by intro hc; cases hc)) ?_
  refine DGo.nil (by kernel_rfl) ?_
  refine nx_n ?_
  refine swp_cond (b := x9) (by kernel_rfl) (fun hb => ?_) (fun hb => ?_)
  replace h := cond_t hb h
  refine swp_seq ?_
  refine swp_reg ?_
  refine SRun.ck tbok 1 ⟨19, [(2, vb true)], []⟩ ?_
  refine SRun.nil ?_
  refine nx_n ?_
  refine swp_ret ?_
  replace h := Option.some.inj h
  subst h
  exact q_br (q_rr (q_rr (q_br (q_rr (q_fr (fin1 (by kernel_rfl) (finV rfl SV.flat_of (holds_t (by kernel_rfl)))))))))
  replace h := cond_f hb h
  refine swp_skip ?_
  replace h := Option.some.inj h
  subst h
  exact q_bn (q_l (Le.sub0))
  refine swp_reg ?_
  refine SRun.ck tbok 2 ⟨19, [(0, vl eClaim aList), (5, vl eClaim aList), (6, vi (aList.length : Int)), (7, vi (w64 (s3.1 + 1)))], []⟩ ?_
  refine SRun.nil ?_
  replace h := Option.some.inj h
  subst h
  exact q_l (Le.sub0)
  replace h := cond_f hb h
  refine swp_exit ?_
  replace h := Option.some.inj h
  subst h
  exact nx_e (q_re (q_bh (q_l (Le.sub0))))
  refine swp_seq ?_
  refine swp_reg ?_
  refine SRun.ck tbok 1 ⟨19, [(2, vb false)], []⟩ ?_
  refine SRun.nil ?_
  refine nx_n ?_
  refine swp_ret ?_
  replace h := Option.some.inj h
  subst h
  exact q_fr (fin1 (by kernel_rfl) (finV rfl SV.flat_of (holds_t (by kernel_rfl))))
theorem ents42 : Ents Tryd.prog 42 := ents_of Tryd.func42 (by kernel_rfl) rfl
noncomputable def impl_Span_has (aS : Span) (aYear : Int) : Option (Bool) :=
  ((impl_within aYear aS.From aS.To).bind fun x1 => some x1)
set_option maxRecDepth 100000 in
set_option maxHeartbeats 4000000 in
theorem impl_Span_has_run (aS : Span) (aYear : Int) (r : Bool) (h : impl_Span_has aS aYear = some r) : SCall Tryd.prog 35 [.v (.agg [vi aS.From, vi aS.To]), .v (vi aYear)] ⟨[.v (vb r)], [], false⟩ := by
  refine scall_in Tryd.func35 rfl [(.tmp 4)] rfl (fun r => ⟨[.v (vb r)], [], false⟩) (r := r) ?_
  unfold impl_Span_has at h
  refine swp_seq ?_
  refine swp_reg ?_
  refine SRun.ck tbok 2 ⟨11, [(1, vi aYear), (2, .ref 2 0)], [(2, .box [vi aS.From, vi aS.To])]⟩ ?_
  refine SRun.nil ?_
  refine nx_n ?_
  refine swp_seq ?_
  refine swp_reg ?_
  refine SRun.ck tbok 5 ⟨11, [(5, vi aYear), (7, vi aS.From), (9, vi aS.To)], []⟩ ?_
  obtain ⟨x1, hx1, h⟩ := bind_some h
  refine SRun.ls (x_lstep_call (f := 44) (caps := []) (xs := [vi aYear, vi aS.From, vi aS.To]) (ys := [vi aYear, vi aS.From, vi aS.To]) (res := ⟨[.v (vb x1)], [], false⟩) (x := vb x1) (y := none) rfl ents44 (impl_within_run aYear aS.From aS.To _ hx1) rfl (by intro hc; cases hc)) ?_
  refine SRun.ck tbok 1 ⟨11, [(4, vb x1)], []⟩ ?_
  refine SRun.nil ?_
  refine nx_n ?_
  refine swp_ret ?_
  replace h := Option.some.inj h
  subst h
  exact q_fr (fin1 (by kernel_rfl) (finV rfl SV.flat_of (holds_t (by kernel_rfl))))
theorem ents35 : Ents Tryd.prog 35 := ents_of Tryd.func35 (by kernel_rfl) rfl
noncomputable def impl_parentClaim_1 (aC : Claim) (c0 : ByteArray) (c1 : Int) : Option (Bool) :=
  (((bif (aC.Kind == 1) then (bif (aC.Place.toList == c0.toList) then ((impl_Span_has aC.Years c1).bind fun x1 => some x1) else some false) else some false)).bind fun (j2 : Bool) => some j2)
set_option maxRecDepth 100000 in
set_option maxHeartbeats 4000000 in
theorem impl_parentClaim_1_run (aC : Claim) (c0 : ByteArray) (c1 : Int) (r : Bool) (h : impl_parentClaim_1 aC c0 c1 = some r) : SCall Tryd.prog 71 [.v (.agg [vs aC.Source, vi aC.Kind, vs aC.Place, vs aC.Value, vi aC.Years.From, vi aC.Years.To, vi aC.Weight]), .v (.ptr [vs c0] 0), .v (.ptr [vi c1] 0)] ⟨[.v (vb r)], [], false⟩ := by
  refine scall_in Tryd.func71 rfl [(.tmp 4)] rfl (fun r => ⟨[.v (vb r)], [], false⟩) (r := r) ?_
  unfold impl_parentClaim_1 at h
  refine swp_seq ?_
  refine swp_reg ?_
  refine SRun.ck tbok 2 ⟨20, [(1, .ptr [vs c0] 0), (2, .ptr [vi c1] 0), (3, .ref 3 0)], [(3, .box [vs aC.Source, vi aC.Kind, vs aC.Place, vs aC.Value, vi aC.Years.From, vi aC.Years.To, vi aC.Weight])]⟩ ?_
  refine SRun.nil ?_
  refine nx_n ?_
  refine swp_seq ?_
  refine swp_regJ h (fun j2 => ⟨20, [(4, vb j2)], []⟩) (fun v3 h => ?_) (fun j2 h => ?_)
  refine SRun.ck tbok 4 ⟨20, [(1, .ptr [vs c0] 0), (2, .ptr [vi c1] 0), (3, .ref 3 0), (8, vb (aC.Kind == 1))], [(3, .box [vs aC.Source, vi aC.Kind, vs aC.Place, vs aC.Value, vi aC.Years.From, vi aC.Years.To, vi aC.Weight])]⟩ ?_
  refine SRun.cut [(8, fun b => b)] (b := (aC.Kind == 1)) (by kernel_rfl) (fun hb => ?_) (fun hb => ?_)
  replace h := cond_t hb h
  refine SRun.ck tbok 6 ⟨20, [(2, .ptr [vi c1] 0), (3, .ref 3 0), (14, vb (aC.Place.toList == c0.toList))], [(3, .box [vs aC.Source, vi aC.Kind, vs aC.Place, vs aC.Value, vi aC.Years.From, vi aC.Years.To, vi aC.Weight])]⟩ ?_
  refine SRun.cut [(14, fun b => b)] (b := (aC.Place.toList == c0.toList)) (by kernel_rfl) (fun hb => ?_) (fun hb => ?_)
  replace h := cond_t hb h
  refine SRun.ck tbok 3 ⟨20, [(14, vb true), (16, .agg [vi aC.Years.From, vi aC.Years.To]), (17, vi c1)], []⟩ ?_
  obtain ⟨x1, hx1, h⟩ := bind_some h
  refine SRun.ls (x_lstep_call (f := 35) (caps := []) (xs := [.agg [vi aC.Years.From, vi aC.Years.To], vi c1]) (ys := [.agg [vi aC.Years.From, vi aC.Years.To], vi c1]) (res := ⟨[.v (vb x1)], [], false⟩) (x := vb x1) (y := none) rfl ents35 (impl_Span_has_run aC.Years c1 _ hx1) rfl (by intro hc; cases hc)) ?_
  refine SRun.ck tbok 2 ⟨20, [(4, vb x1)], []⟩ ?_
  refine SRun.nil ?_
  replace h := Option.some.inj h
  subst h
  exact Le.sub0
  replace h := cond_f hb h
  refine SRun.ck tbok 6 ⟨20, [(4, vb false)], []⟩ ?_
  refine SRun.nil ?_
  replace h := Option.some.inj h
  subst h
  exact Le.sub0
  replace h := cond_f hb h
  refine SRun.ck tbok 12 ⟨20, [(4, vb false)], []⟩ ?_
  refine SRun.nil ?_
  replace h := Option.some.inj h
  subst h
  exact Le.sub0
  refine swp_ret ?_
  replace h := Option.some.inj h
  subst h
  exact q_fr (fin1 (by kernel_rfl) (finV rfl SV.flat_of (holds_t (by kernel_rfl))))
theorem ents71 : Ents Tryd.prog 71 := ents_of Tryd.func71 (by kernel_rfl) rfl
noncomputable def slices_IndexFunc_Claim_impl_parentClaim_1 (aS : (List Claim)) (aF0 : ByteArray) (aF1 : Int) : Option (Int) :=
  (((forN (aS.length : Int) (fun (i3 : Int) (_ : Unit) => ((at' aS i3).bind fun x7 => ((impl_parentClaim_1 x7 aF0 aF1).bind fun x8 => (bif x8 then some (.inr (.inr i3)) else some (.inl ()))))) (fun (_ : Unit) => .inl ()) 0 ())).bind (Sum.elim (fun (_ : Unit) => some (-1)) some))
set_option maxRecDepth 100000 in
set_option maxHeartbeats 4000000 in
theorem slices_IndexFunc_Claim_impl_parentClaim_1_run (aS : (List Claim)) (aF0 : ByteArray) (aF1 : Int) (r : Int) (h : slices_IndexFunc_Claim_impl_parentClaim_1 aS aF0 aF1 = some r) : SCall Tryd.prog 33 [.v (vl eClaim aS), .v (.clo 71 [.ptr [vs aF0] 0, .ptr [vi aF1] 0])] ⟨[.v (vi r)], [], false⟩ := by
  refine scall_in Tryd.func33 rfl [(.tmp 4)] rfl (fun r => ⟨[.v (vi r)], [], false⟩) (r := r) ?_
  unfold slices_IndexFunc_Claim_impl_parentClaim_1 at h
  refine swp_seq ?_
  refine swp_reg ?_
  refine SRun.ck tbok 1 ⟨19, [(0, vl eClaim aS), (1, .clo 71 [.ptr [vs aF0] 0, .ptr [vi aF1] 0])], []⟩ ?_
  refine SRun.nil ?_
  refine nx_n ?_
  refine swp_seq ?_
  refine swp_seq ?_
  refine swp_reg ?_
  refine SRun.ck tbok 3 ⟨19, [(0, vl eClaim aS), (1, .clo 71 [.ptr [vs aF0] 0, .ptr [vi aF1] 0]), (7, vi (aS.length : Int)), (8, vi 0)], []⟩ ?_
  refine SRun.nil ?_
  refine nx_n ?_
  refine swp_seqE (r := r) h (fun j1 => ⟨19, [], []⟩) (fun v2 h => ?_) (fun j1 h => ?_)
  refine swp_blk (a := v2) ?_
  refine swp_lpL (r := v2) (s := (0, ())) _ (fun s3 => ⟨19, [(0, vl eClaim aS), (1, .clo 71 [.ptr [vs aF0] 0, .ptr [vi aF1] 0]), (7, vi (aS.length : Int)), (8, vi s3.1)], []⟩) _ (Le.sub0) h (fun s3 v4 h => ?_)
  refine swp_seq ?_
  refine swp_reg ?_
  refine SRun.ck tbok 1 ⟨19, [(0, vl eClaim aS), (1, .clo 71 [.ptr [vs aF0] 0, .ptr [vi aF1] 0]), (7, vi (aS.length : Int)), (8, vi s3.1), (9, vb (decide (s3.1 < (aS.length : Int))))], []⟩ ?_
  refine SRun.nil ?_
  refine nx_n ?_
  refine swp_seq ?_
  refine swp_cond (b := (decide (s3.1 < (aS.length : Int)))) (by kernel_rfl) (fun hb => ?_) (fun hb => ?_)
  replace h := cond_t hb h
  refine swp_skip ?_
  refine nx_n ?_
  refine swp_seq ?_
  refine swp_seqL (r := v4) h (fun j5 => ⟨19, [(0, vl eClaim aS), (1, .clo 71 [.ptr [vs aF0] 0, .ptr [vi aF1] 0]), (7, vi (aS.length : Int)), (8, vi s3.1)], []⟩) (fun v6 h => ?_) (fun j5 h => ?_)
  refine swp_blk (a := v6) ?_
  refine swp_seq ?_
  refine swp_reg ?_
  refine SRun.ck tbok 2 ⟨19, [(0, vl eClaim aS), (1, .clo 71 [.ptr [vs aF0] 0, .ptr [vi aF1] 0]), (5, vi s3.1), (7, vi (aS.length : Int)), (8, vi s3.1)], []⟩ ?_
  refine SRun.nil ?_
  refine nx_n ?_
  refine swp_seq ?_
  refine swp_reg ?_
  refine SRun.ck tbok 3 ⟨19, [(0, vl eClaim aS), (1, .clo 71 [.ptr [vs aF0] 0, .ptr [vi aF1] 0]), (5, vi s3.1), (7, vi (aS.length : Int)), (8, vi s3.1), (11, .clo 71 [.ptr [vs aF0] 0, .ptr [vi aF1] 0]), (12, vl eClaim aS), (13, vi s3.1)], []⟩ ?_
  obtain ⟨x7, hx7, h⟩ := bind_some h
  refine SRun.ls (x_index (L := aS) (f := eClaim) (ti := ti26) (tj := ti39) (e := 39) (k := .i64) tbok rfl hx7) ?_
  refine SRun.ck tbok 1 ⟨19, [(0, vl eClaim aS), (1, .clo 71 [.ptr [vs aF0] 0, .ptr [vi aF1] 0]), (5, vi s3.1), (7, vi (aS.length : Int)), (8, vi s3.1), (11, .clo 71 [.ptr [vs aF0] 0, .ptr [vi aF1] 0]), (15, .agg [vs x7.Source, vi x7.Kind, vs x7.Place, vs x7.Value, vi x7.Years.From, vi x7.Years.To, vi x7.Weight])], []⟩ ?_
  obtain ⟨x8, hx8, h⟩ := bind_some h
  refine SRun.ls (x_lstep_call (f := 71) (caps := [.ptr [vs aF0] 0, .ptr [vi aF1] 0]) (xs := [.agg [vs x7.Source, vi x7.Kind, vs x7.Place, vs x7.Value, vi x7.Years.From, vi x7.Years.To, vi x7.Weight]]) (ys := [.agg [vs x7.Source, vi x7.Kind, vs x7.Place, vs x7.Value, vi x7.Years.From, vi x7.Years.To, vi x7.Weight], .ptr [vs aF0] 0, .ptr [vi aF1] 0]) (res := ⟨[.v (vb x8)], [], false⟩) (x := vb x8) (y := none) rfl ents71 (impl_parentClaim_1_run x7 aF0 aF1 _ hx8) rfl (by intro hc; cases hc)) ?_
  refine SRun.nil ?_
  refine nx_n ?_
  refine swp_cond (b := x8) (by kernel_rfl) (fun hb => ?_) (fun hb => ?_)
  replace h := cond_t hb h
  refine swp_seq ?_
  refine swp_reg ?_
  refine SRun.ck tbok 2 ⟨19, [(4, vi s3.1)], []⟩ ?_
  refine SRun.nil ?_
  refine nx_n ?_
  refine swp_ret ?_
  replace h := Option.some.inj h
  subst h
  exact q_br (q_rr (q_rr (q_br (q_rr (q_fr (fin1 (by kernel_rfl) (finV rfl SV.flat_of (holds_t (by kernel_rfl)))))))))
  replace h := cond_f hb h
  refine swp_skip ?_
  replace h := Option.some.inj h
  subst h
  exact q_bn (q_l (Le.sub0))
  refine swp_reg ?_
  refine SRun.ck tbok 2 ⟨19, [(0, vl eClaim aS), (1, .clo 71 [.ptr [vs aF0] 0, .ptr [vi aF1] 0]), (7, vi (aS.length : Int)), (8, vi (w64 (s3.1 + 1)))], []⟩ ?_
  refine SRun.nil ?_
  replace h := Option.some.inj h
  subst h
  exact q_l (Le.sub0)
  replace h := cond_f hb h
  refine swp_exit ?_
  replace h := Option.some.inj h
  subst h
  exact nx_e (q_re (q_bh (q_l (Le.sub0))))
  refine swp_seq ?_
  refine swp_reg ?_
  refine SRun.ck tbok 1 ⟨19, [(4, vi (-1))], []⟩ ?_
  refine SRun.nil ?_
  refine nx_n ?_
  refine swp_ret ?_
  replace h := Option.some.inj h
  subst h
  exact q_fr (fin1 (by kernel_rfl) (finV rfl SV.flat_of (holds_t (by kernel_rfl))))
noncomputable def impl_parentClaim (aList : (List Claim)) (aPlace : ByteArray) (aYear : Int) : Option (ByteArray × Bool) :=
  ((slices_IndexFunc_Claim_impl_parentClaim_1 aList aPlace aYear).bind fun x1 => (bif (decide (x1 < 0)) then some ((ByteArray.mk #[]), false) else ((at' aList x1).bind fun x2 => some (x2.Value, true))))
set_option maxRecDepth 100000 in
set_option maxHeartbeats 4000000 in
theorem impl_parentClaim_run (aList : (List Claim)) (aPlace : ByteArray) (aYear : Int) (r : ByteArray × Bool) (h : impl_parentClaim aList aPlace aYear = some r) : SCall Tryd.prog 60 [.v (vl eClaim aList), .v (vs aPlace), .v (vi aYear)] ⟨[.v (vs r.1), .v (vb r.2)], [], false⟩ := by
  refine scall_in Tryd.func60 rfl [(.tmp 6), (.tmp 7)] rfl (fun r => ⟨[.v (vs r.1), .v (vb r.2)], [], false⟩) (r := r) ?_
  unfold impl_parentClaim at h
  refine swp_seq ?_
  refine swp_reg ?_
  refine SRun.ck tbok 4 ⟨19, [(0, vl eClaim aList), (4, .ref 4 0), (5, .ref 5 0)], [(4, .box [vs aPlace]), (5, .box [vi aYear])]⟩ ?_
  refine SRun.nil ?_
  refine nx_n ?_
  refine swp_seq ?_
  refine swp_reg ?_
  refine SRun.ck tbok 2 ⟨19, [(0, vl eClaim aList), (9, vl eClaim aList), (10, .clo 71 [.ref 4 0, .ref 5 0])], [(4, .box [vs aPlace]), (5, .box [vi aYear])]⟩ ?_
  obtain ⟨x1, hx1, h⟩ := bind_some h
  refine SRun.ls (x_lstep_call (f := 33) (caps := []) (xs := [vl eClaim aList, .clo 71 [.ref 4 0, .ref 5 0]]) (ys := [vl eClaim aList, .clo 71 [.ptr [vs aPlace] 0, .ptr [vi aYear] 0]]) (res := ⟨[.v (vi x1)], [], false⟩) (x := vi x1) (y := none) rfl ents33 (slices_IndexFunc_Claim_impl_parentClaim_1_run aList aPlace aYear _ hx1) rfl (by intro hc; cases hc)) ?_
  refine SRun.ck tbok 1 ⟨19, [(0, vl eClaim aList), (8, vi x1)], []⟩ ?_
  refine SRun.nil ?_
  refine nx_n ?_
  refine swp_seq ?_
  refine swp_seq ?_
  refine swp_reg ?_
  refine SRun.ck tbok 2 ⟨19, [(0, vl eClaim aList), (8, vi x1), (13, vb (decide (x1 < 0)))], []⟩ ?_
  refine SRun.nil ?_
  refine nx_n ?_
  refine swp_cond (b := (decide (x1 < 0))) (by kernel_rfl) (fun hb => ?_) (fun hb => ?_)
  replace h := cond_t hb h
  refine swp_seq ?_
  refine swp_reg ?_
  refine SRun.ck tbok 2 ⟨19, [(6, vs (ByteArray.mk #[])), (7, vb false)], []⟩ ?_
  refine SRun.nil ?_
  refine nx_n ?_
  refine swp_ret ?_
  replace h := Option.some.inj h
  subst h
  exact nx_r (q_fr (fin2 (by kernel_rfl) (finV rfl SV.flat_of (holds_t (by kernel_rfl))) (finV rfl SV.flat_of (holds_t (by kernel_rfl)))))
  replace h := cond_f hb h
  refine swp_skip ?_
  refine nx_n ?_
  refine swp_seq ?_
  refine swp_reg ?_
  refine SRun.ck tbok 2 ⟨19, [(14, vl eClaim aList), (15, vi x1)], []⟩ ?_
  obtain ⟨x2, hx2, h⟩ := bind_some h
  refine SRun.ls (x_index (L := aList) (f := eClaim) (ti := ti26) (tj := ti39) (e := 39) (k := .i64) tbok rfl hx2) ?_
  refine SRun.ck tbok 4 ⟨19, [(6, vs x2.Value), (7, vb true)], []⟩ ?_
  refine SRun.nil ?_
  refine nx_n ?_
  refine swp_ret ?_
  replace h := Option.some.inj h
  subst h
  exact q_fr (fin2 (by kernel_rfl) (finV rfl SV.flat_of (holds_t (by kernel_rfl))) (finV rfl SV.flat_of (holds_t (by kernel_rfl))))
theorem ents60 : Ents Tryd.prog 60 := ents_of Tryd.func60 (by kernel_rfl) rfl
noncomputable def slices_Index_string (aS : (List ByteArray)) (aV : ByteArray) : Option (Int) :=
  (((forN (aS.length : Int) (fun (i3 : Int) (_ : Unit) => ((at' aS i3).bind fun x7 => (bif (aV.toList == x7.toList) then some (.inr (.inr i3)) else some (.inl ())))) (fun (_ : Unit) => .inl ()) 0 ())).bind (Sum.elim (fun (_ : Unit) => some (-1)) some))
set_option maxRecDepth 100000 in
set_option maxHeartbeats 4000000 in
theorem slices_Index_string_run (aS : (List ByteArray)) (aV : ByteArray) (r : Int) (h : slices_Index_string aS aV = some r) : SCall Tryd.prog 72 [.v (vl eS aS), .v (vs aV)] ⟨[.v (vi r)], [], false⟩ := by
  refine scall_in Tryd.func72 rfl [(.tmp 4)] rfl (fun r => ⟨[.v (vi r)], [], false⟩) (r := r) ?_
  unfold slices_Index_string at h
  refine swp_seq ?_
  refine swp_reg ?_
  refine SRun.ck tbok 1 ⟨19, [(0, vl eS aS), (1, vs aV)], []⟩ ?_
  refine SRun.nil ?_
  refine nx_n ?_
  refine swp_seq ?_
  refine swp_seq ?_
  refine swp_reg ?_
  refine SRun.ck tbok 3 ⟨19, [(0, vl eS aS), (1, vs aV), (7, vi (aS.length : Int)), (8, vi 0)], []⟩ ?_
  refine SRun.nil ?_
  refine nx_n ?_
  refine swp_seqE (r := r) h (fun j1 => ⟨19, [], []⟩) (fun v2 h => ?_) (fun j1 h => ?_)
  refine swp_blk (a := v2) ?_
  refine swp_lpL (r := v2) (s := (0, ())) _ (fun s3 => ⟨19, [(0, vl eS aS), (1, vs aV), (7, vi (aS.length : Int)), (8, vi s3.1)], []⟩) _ (Le.sub0) h (fun s3 v4 h => ?_)
  refine swp_seq ?_
  refine swp_reg ?_
  refine SRun.ck tbok 1 ⟨19, [(0, vl eS aS), (1, vs aV), (7, vi (aS.length : Int)), (8, vi s3.1), (9, vb (decide (s3.1 < (aS.length : Int))))], []⟩ ?_
  refine SRun.nil ?_
  refine nx_n ?_
  refine swp_seq ?_
  refine swp_cond (b := (decide (s3.1 < (aS.length : Int)))) (by kernel_rfl) (fun hb => ?_) (fun hb => ?_)
  replace h := cond_t hb h
  refine swp_skip ?_
  refine nx_n ?_
  refine swp_seq ?_
  refine swp_seqL (r := v4) h (fun j5 => ⟨19, [(0, vl eS aS), (1, vs aV), (7, vi (aS.length : Int)), (8, vi s3.1)], []⟩) (fun v6 h => ?_) (fun j5 h => ?_)
  refine swp_blk (a := v6) ?_
  refine swp_seq ?_
  refine swp_reg ?_
  refine SRun.ck tbok 2 ⟨19, [(0, vl eS aS), (1, vs aV), (5, vi s3.1), (7, vi (aS.length : Int)), (8, vi s3.1)], []⟩ ?_
  refine SRun.nil ?_
  refine nx_n ?_
  refine swp_seq ?_
  refine swp_reg ?_
  refine SRun.ck tbok 3 ⟨19, [(0, vl eS aS), (1, vs aV), (5, vi s3.1), (7, vi (aS.length : Int)), (8, vi s3.1), (11, vs aV), (12, vl eS aS), (13, vi s3.1)], []⟩ ?_
  obtain ⟨x7, hx7, h⟩ := bind_some h
  refine SRun.ls (x_index (L := aS) (f := eS) (ti := ti51) (tj := ti9) (e := 9) (k := .i64) tbok rfl hx7) ?_
  refine SRun.ck tbok 2 ⟨19, [(0, vl eS aS), (1, vs aV), (5, vi s3.1), (7, vi (aS.length : Int)), (8, vi s3.1), (16, vb (aV.toList == x7.toList))], []⟩ ?_
  refine SRun.nil ?_
  refine nx_n ?_
  refine swp_cond (b := (aV.toList == x7.toList)) (by kernel_rfl) (fun hb => ?_) (fun hb => ?_)
  replace h := cond_t hb h
  refine swp_seq ?_
  refine swp_reg ?_
  refine SRun.ck tbok 2 ⟨19, [(4, vi s3.1)], []⟩ ?_
  refine SRun.nil ?_
  refine nx_n ?_
  refine swp_ret ?_
  replace h := Option.some.inj h
  subst h
  exact q_br (q_rr (q_rr (q_br (q_rr (q_fr (fin1 (by kernel_rfl) (finV rfl SV.flat_of (holds_t (by kernel_rfl)))))))))
  replace h := cond_f hb h
  refine swp_skip ?_
  replace h := Option.some.inj h
  subst h
  exact q_bn (q_l (Le.sub0))
  refine swp_reg ?_
  refine SRun.ck tbok 2 ⟨19, [(0, vl eS aS), (1, vs aV), (7, vi (aS.length : Int)), (8, vi (w64 (s3.1 + 1)))], []⟩ ?_
  refine SRun.nil ?_
  replace h := Option.some.inj h
  subst h
  exact q_l (Le.sub0)
  replace h := cond_f hb h
  refine swp_exit ?_
  replace h := Option.some.inj h
  subst h
  exact nx_e (q_re (q_bh (q_l (Le.sub0))))
  refine swp_seq ?_
  refine swp_reg ?_
  refine SRun.ck tbok 1 ⟨19, [(4, vi (-1))], []⟩ ?_
  refine SRun.nil ?_
  refine nx_n ?_
  refine swp_ret ?_
  replace h := Option.some.inj h
  subst h
  exact q_fr (fin1 (by kernel_rfl) (finV rfl SV.flat_of (holds_t (by kernel_rfl))))
theorem ents72 : Ents Tryd.prog 72 := ents_of Tryd.func72 (by kernel_rfl) rfl
noncomputable def slices_Contains_string (aS : (List ByteArray)) (aV : ByteArray) : Option (Bool) :=
  ((slices_Index_string aS aV).bind fun x1 => some (decide (x1 ≥ 0)))
set_option maxRecDepth 100000 in
set_option maxHeartbeats 4000000 in
theorem slices_Contains_string_run (aS : (List ByteArray)) (aV : ByteArray) (r : Bool) (h : slices_Contains_string aS aV = some r) : SCall Tryd.prog 61 [.v (vl eS aS), .v (vs aV)] ⟨[.v (vb r)], [], false⟩ := by
  refine scall_in Tryd.func61 rfl [(.tmp 4)] rfl (fun r => ⟨[.v (vb r)], [], false⟩) (r := r) ?_
  unfold slices_Contains_string at h
  refine swp_seq ?_
  refine swp_reg ?_
  refine SRun.ck tbok 1 ⟨9, [(0, vl eS aS), (1, vs aV)], []⟩ ?_
  refine SRun.nil ?_
  refine nx_n ?_
  refine swp_seq ?_
  refine swp_reg ?_
  refine SRun.ck tbok 2 ⟨9, [(5, vl eS aS), (6, vs aV)], []⟩ ?_
  obtain ⟨x1, hx1, h⟩ := bind_some h
  refine SRun.ls (x_lstep_call (f := 72) (caps := []) (xs := [vl eS aS, vs aV]) (ys := [vl eS aS, vs aV]) (res := ⟨[.v (vi x1)], [], false⟩) (x := vi x1) (y := none) rfl ents72 (slices_Index_string_run aS aV _ hx1) rfl (by intro hc; cases hc)) ?_
  refine SRun.ck tbok 2 ⟨9, [(4, vb (decide (x1 ≥ 0)))], []⟩ ?_
  refine SRun.nil ?_
  refine nx_n ?_
  refine swp_ret ?_
  replace h := Option.some.inj h
  subst h
  exact q_fr (fin1 (by kernel_rfl) (finV rfl SV.flat_of (holds_t (by kernel_rfl))))
theorem ents61 : Ents Tryd.prog 61 := ents_of Tryd.func61 (by kernel_rfl) rfl
noncomputable def impl_circleIn (aList : (List Claim)) (aPlace : ByteArray) (aYear : Int) : Option ((List ByteArray) × Bool) :=
  (loop (fun (s1 : (List ByteArray)) => ((at' s1 (w64 ((s1.length : Int) - 1))).bind fun x3 => ((impl_parentClaim aList x3 aYear).bind fun x4 => (((bif (x4.2 && (x4.1.toList == aPlace.toList)) then some (.inr (.inr (s1, true))) else (((bif (!x4.2) then some true else ((slices_Contains_string s1 x4.1).bind fun x7 => some x7))).bind fun (j8 : Bool) => (bif j8 then some (.inr (.inr (([] : List ByteArray), false))) else some (.inl ()))))).bind (Sum.elim (fun (_ : Unit) => ((app' s1 ([x4.1] : List ByteArray)).bind fun x10 => some (.inl x10))) some))))) ([aPlace] : List ByteArray))
set_option maxRecDepth 100000 in
set_option maxHeartbeats 4000000 in
theorem impl_circleIn_run (aList : (List Claim)) (aPlace : ByteArray) (aYear : Int) (r : (List ByteArray) × Bool) (h : impl_circleIn aList aPlace aYear = some r) : SCall Tryd.prog 52 [.v (vl eClaim aList), .v (vs aPlace), .v (vi aYear)] ⟨[.own 9 1 r.1.length (r.1.map eS), .v (vb r.2)], [], false⟩ := by
  refine scall_in Tryd.func52 rfl [(.tmp 6), (.tmp 7)] rfl (fun r => ⟨[.own 9 1 r.1.length (r.1.map eS), .v (vb r.2)], [], false⟩) (r := r) ?_
  unfold impl_circleIn at h
  refine swp_seq ?_
  refine swp_reg ?_
  refine SRun.ck tbok 2 ⟨45, [(0, vl eClaim aList), (1, vs aPlace), (2, vi aYear)], []⟩ ?_
  refine SRun.nil ?_
  refine nx_n ?_
  refine swp_seq ?_
  refine swp_reg ?_
  refine SRun.ck tbok 3 ⟨45, [(0, vl eClaim aList), (1, vs aPlace), (2, vi aYear), (8, .own 12)], [(12, .arr 9 1 ([aPlace] : List ByteArray).length (([aPlace] : List ByteArray).map eS))]⟩ ?_
  refine SRun.nil ?_
  refine nx_n ?_
  refine swp_blk (a := r) ?_
  refine swp_lpL (r := r) (s := ([aPlace] : List ByteArray)) _ (fun s1 => ⟨45, [(0, vl eClaim aList), (1, vs aPlace), (2, vi aYear), (8, .own 8)], [(8, .arr 9 1 s1.length (s1.map eS))]⟩) _ ((Le.sub' ([(0, vl eClaim aList), (1, vs aPlace), (2, vi aYear), (8, .own 12)] : List (Nat × SV)) ([(12, .arr 9 1 ([aPlace] : List ByteArray).length (([aPlace] : List ByteArray).map eS))] : List (Nat × SO)) (by kernel_rfl) (by kernel_rfl)).trans ((Le.ren' (d := 12) (e := 8) (by kernel_rfl) (by kernel_rfl) (by kernel_rfl)).trans (Le.sub0))) h (fun s1 v2 h => ?_)
  refine swp_blk (a := v2) ?_
  refine swp_seq ?_
  refine swp_reg ?_
  refine SRun.ck tbok 5 ⟨45, [(0, vl eClaim aList), (1, vs aPlace), (2, vi aYear), (8, .own 8), (14, vl eClaim aList), (15, .own 8), (18, vi (w64 ((s1.length : Int) - 1)))], [(8, .arr 9 1 s1.length (s1.map eS))]⟩ ?_
  obtain ⟨x3, hx3, h⟩ := bind_some h
  refine SRun.ls (x_index_own (d := 8) (L := s1) (f := eS) (ti := ti51) (tj := ti9) (e := 9) (e' := 9) (m := 1) (k := .i64) tbok rfl hx3) ?_
  refine SRun.ls (x_load_own (d := 8) (m := 1) (j := 0) (L := s1) (f := eS) (ti := ti9) (e := 9) (v := vs x3) tbok rfl hx3) ?_
  refine SRun.ck tbok 1 ⟨45, [(0, vl eClaim aList), (1, vs aPlace), (2, vi aYear), (8, .own 8), (14, vl eClaim aList), (20, vs x3), (21, vi aYear)], [(8, .arr 9 1 s1.length (s1.map eS))]⟩ ?_
  obtain ⟨x4, hx4, h⟩ := bind_some h
  refine SRun.ls (x_lstep_call (f := 60) (caps := []) (xs := [vl eClaim aList, vs x3, vi aYear]) (ys := [vl eClaim aList, vs x3, vi aYear]) (res := ⟨[.v (vs x4.1), .v (vb x4.2)], [], false⟩) (x := .tup [vs x4.1, vb x4.2]) (y := none) rfl ents60 (impl_parentClaim_run aList x3 aYear _ hx4) rfl (by intro hc; cases hc)) ?_
  refine SRun.ck tbok 5 ⟨45, [(0, vl eClaim aList), (1, vs aPlace), (2, vi aYear), (8, .own 8), (9, vs x4.1), (10, vb x4.2)], [(8, .arr 9 1 s1.length (s1.map eS))]⟩ ?_
  refine SRun.nil ?_
  refine nx_n ?_
  refine swp_seq ?_
  refine swp_seqE (r := v2) h (fun j5 => ⟨45, [(0, vl eClaim aList), (1, vs aPlace), (2, vi aYear), (8, .own 8), (9, vs x4.1)], [(8, .arr 9 1 s1.length (s1.map eS))]⟩) (fun v6 h => ?_) (fun j5 h => ?_)
  refine swp_blk (a := v6) ?_
  refine swp_seq ?_
  refine swp_regP ⟨45, [(0, vl eClaim aList), (1, vs aPlace), (2, vi aYear), (8, .own 8), (9, vs x4.1), (10, vb x4.2), (25, vb (x4.2 && (x4.1.toList == aPlace.toList)))], [(8, .arr 9 1 s1.length (s1.map eS))]⟩ ?_ ?_
  refine SRun.ck tbok 2 ⟨45, [(0, vl eClaim aList), (1, vs aPlace), (2, vi aYear), (8, .own 8), (9, vs x4.1), (10, vb x4.2), (27, vb x4.2)], [(8, .arr 9 1 s1.length (s1.map eS))]⟩ ?_
  generalize x4.2 = bb
  cases bb
  refine SRun.ck tbok 5 ⟨45, [(0, vl eClaim aList), (1, vs aPlace), (2, vi aYear), (8, .own 8), (9, vs x4.1), (10, vb false), (25, vb false)], [(8, .arr 9 1 s1.length (s1.map eS))]⟩ ?_
  exact SRun.nil (Le.sub0)
  refine SRun.ck tbok 5 ⟨45, [(0, vl eClaim aList), (1, vs aPlace), (2, vi aYear), (8, .own 8), (9, vs x4.1), (10, vb true), (25, vb (x4.1.toList == aPlace.toList))], [(8, .arr 9 1 s1.length (s1.map eS))]⟩ ?_
  exact SRun.nil (Le.sub0)
  refine swp_cond (b := (x4.2 && (x4.1.toList == aPlace.toList))) (by kernel_rfl) (fun hb => ?_) (fun hb => ?_)
  replace h := cond_t hb h
  refine swp_seq ?_
  refine swp_reg ?_
  refine SRun.ck tbok 3 ⟨45, [(6, .own 8), (7, vb true)], [(8, .arr 9 1 s1.length (s1.map eS))]⟩ ?_
  refine SRun.nil ?_
  refine nx_n ?_
  refine swp_ret ?_
  replace h := Option.some.inj h
  subst h
  exact q_br (q_rr (q_br (q_rr (q_br (q_fr (fin2 (by kernel_rfl) (finO (d := 8) (holds_t (by kernel_rfl)) (by kernel_rfl) (flat_map eS_flat _) (by kernel_rfl)) (finV rfl SV.flat_of (holds_t (by kernel_rfl)))))))))
  replace h := cond_f hb h
  refine swp_seq ?_
  refine swp_regJ h (fun j8 => ⟨45, [(0, vl eClaim aList), (1, vs aPlace), (2, vi aYear), (8, .own 8), (9, vs x4.1), (33, vb j8)], [(8, .arr 9 1 s1.length (s1.map eS))]⟩) (fun v9 h => ?_) (fun j8 h => ?_)
  refine SRun.ck tbok 3 ⟨45, [(0, vl eClaim aList), (1, vs aPlace), (2, vi aYear), (8, .own 8), (9, vs x4.1), (36, vb (!x4.2))], [(8, .arr 9 1 s1.length (s1.map eS))]⟩ ?_
  refine SRun.cut [(36, fun b => b)] (b := (!x4.2)) (by kernel_rfl) (fun hb => ?_) (fun hb => ?_)
  replace h := cond_t hb h
  refine SRun.ck tbok 5 ⟨45, [(0, vl eClaim aList), (1, vs aPlace), (2, vi aYear), (8, .own 8), (9, vs x4.1), (33, vb true)], [(8, .arr 9 1 s1.length (s1.map eS))]⟩ ?_
  refine SRun.nil ?_
  replace h := Option.some.inj h
  subst h
  exact Le.sub0
  replace h := cond_f hb h
  refine SRun.ck tbok 2 ⟨45, [(0, vl eClaim aList), (1, vs aPlace), (2, vi aYear), (8, .own 8), (9, vs x4.1), (36, vb false), (37, .own 8), (38, vs x4.1)], [(8, .arr 9 1 s1.length (s1.map eS))]⟩ ?_
  obtain ⟨x7, hx7, h⟩ := bind_some h
  refine SRun.ls (x_lstep_call (f := 61) (caps := []) (xs := [.own 8, vs x4.1]) (ys := [vl eS s1, vs x4.1]) (res := ⟨[.v (vb x7)], [], false⟩) (x := vb x7) (y := none) rfl ents61 (slices_Contains_string_run s1 x4.1 _ hx7) rfl (by intro hc; cases hc)) ?_
  refine SRun.ck tbok 2 ⟨45, [(0, vl eClaim aList), (1, vs aPlace), (2, vi aYear), (8, .own 8), (9, vs x4.1), (33, vb x7)], [(8, .arr 9 1 s1.length (s1.map eS))]⟩ ?_
  refine SRun.nil ?_
  replace h := Option.some.inj h
  subst h
  exact Le.sub0
  refine swp_cond (b := j8) (by kernel_rfl) (fun hb => ?_) (fun hb => ?_)
  replace h := cond_t hb h
  refine swp_seq ?_
  refine swp_reg ?_
  refine SRun.ck tbok 2 ⟨45, [(6, .own 6), (7, vb false)], [(6, .arr 9 1 ([] : List ByteArray).length (([] : List ByteArray).map eS))]⟩ ?_
  refine SRun.nil ?_
  refine nx_n ?_
  refine swp_ret ?_
  replace h := Option.some.inj h
  subst h
  exact q_br (q_rr (q_br (q_rr (q_br (q_fr (fin2 (by kernel_rfl) (finO (d := 6) (holds_t (by kernel_rfl)) (by kernel_rfl) (flat_map eS_flat _) (by kernel_rfl)) (finV rfl SV.flat_of (holds_t (by kernel_rfl)))))))))
  replace h := cond_f hb h
  refine swp_skip ?_
  replace h := Option.some.inj h
  subst h
  exact q_bn (q_l (Le.sub0))
  refine swp_reg ?_
  refine SRun.ck tbok 3 ⟨45, [(0, vl eClaim aList), (1, vs aPlace), (2, vi aYear), (41, .own 8), (43, .own 43)], [(8, .arr 9 1 s1.length (s1.map eS)), (43, .arr 9 1 ([x4.1] : List ByteArray).length (([x4.1] : List ByteArray).map eS))]⟩ ?_
  obtain ⟨x10, hx10, h⟩ := bind_some h
  refine SRun.estep (x_append (f := eS) (t := 51) (ti := ti51) (tj := ti9) (zs := [.string (ByteArray.mk #[])]) (e := 9) (m := 1) (d := 8) (xv := .own 43) hx10 tbok rfl rfl rfl rfl (x_src_o (e := 9))) ?_
  refine SRun.ck tbok 1 ⟨45, [(0, vl eClaim aList), (1, vs aPlace), (2, vi aYear), (8, .own 44)], [(44, .arr 9 1 x10.length (x10.map eS))]⟩ ?_
  refine SRun.nil ?_
  replace h := Option.some.inj h
  subst h
  exact q_bn (q_l ((Le.sub' ([(0, vl eClaim aList), (1, vs aPlace), (2, vi aYear), (8, .own 44)] : List (Nat × SV)) ([(44, .arr 9 1 x10.length (x10.map eS))] : List (Nat × SO)) (by kernel_rfl) (by kernel_rfl)).trans ((Le.ren' (d := 44) (e := 8) (by kernel_rfl) (by kernel_rfl) (by kernel_rfl)).trans (Le.sub0))))
theorem ents52 : Ents Tryd.prog 52 := ents_of Tryd.func52 (by kernel_rfl) rfl
noncomputable def impl_hasCircle (aList : (List Claim)) : Option (Bool) :=
  (((forN (aList.length : Int) (fun (i3 : Int) (_ : Unit) => ((at' aList i3).bind fun x7 => (forN (aList.length : Int) (fun (i8 : Int) (_ : Unit) => ((at' aList i8).bind fun x12 => (((bif (x7.Kind != 1) then some true else (bif (x12.Kind != 1) then some true else ((impl_Span_has x12.Years x7.Years.From).bind fun x13 => some (!x13))))).bind fun (j14 : Bool) => (bif j14 then some (.inl ()) else ((impl_circleIn aList x12.Place x7.Years.From).bind fun x16 => (bif x16.2 then some (.inr (.inr (.inr true))) else some (.inl ()))))))) (fun (_ : Unit) => .inl ()) 0 ()))) (fun (_ : Unit) => .inl ()) 0 ())).bind (Sum.elim (fun (_ : Unit) => some false) some))
set_option maxRecDepth 100000 in
set_option maxHeartbeats 4000000 in
theorem impl_hasCircle_run (aList : (List Claim)) (r : Bool) (h : impl_hasCircle aList = some r) : SCall Tryd.prog 43 [.v (vl eClaim aList)] ⟨[.v (vb r)], [], false⟩ := by
  refine scall_in Tryd.func43 rfl [(.tmp 2)] rfl (fun r => ⟨[.v (vb r)], [], false⟩) (r := r) ?_
  unfold impl_hasCircle at h
  refine swp_seq ?_
  refine swp_reg ?_
  refine SRun.ck tbok 1 ⟨51, [(0, vl eClaim aList)], []⟩ ?_
  refine SRun.nil ?_
  refine nx_n ?_
  refine swp_seq ?_
  refine swp_seq ?_
  refine swp_reg ?_
  refine SRun.ck tbok 3 ⟨51, [(0, vl eClaim aList), (9, vl eClaim aList), (10, vi (aList.length : Int)), (11, vi 0)], []⟩ ?_
  refine SRun.nil ?_
  refine nx_n ?_
  refine swp_seqE (r := r) h (fun j1 => ⟨51, [], []⟩) (fun v2 h => ?_) (fun j1 h => ?_)
  refine swp_blk (a := v2) ?_
  refine swp_lpL (r := v2) (s := (0, ())) _ (fun s3 => ⟨51, [(0, vl eClaim aList), (9, vl eClaim aList), (10, vi (aList.length : Int)), (11, vi s3.1)], []⟩) _ (Le.sub0) h (fun s3 v4 h => ?_)
  refine swp_seq ?_
  refine swp_reg ?_
  refine SRun.ck tbok 1 ⟨51, [(0, vl eClaim aList), (9, vl eClaim aList), (10, vi (aList.length : Int)), (11, vi s3.1), (12, vb (decide (s3.1 < (aList.length : Int))))], []⟩ ?_
  refine SRun.nil ?_
  refine nx_n ?_
  refine swp_seq ?_
  refine swp_cond (b := (decide (s3.1 < (aList.length : Int)))) (by kernel_rfl) (fun hb => ?_) (fun hb => ?_)
  replace h := cond_t hb h
  refine swp_skip ?_
  refine nx_n ?_
  refine swp_seq ?_
  refine swp_seqL (r := v4) h (fun j5 => ⟨51, [(0, vl eClaim aList), (9, vl eClaim aList), (10, vi (aList.length : Int)), (11, vi s3.1)], []⟩) (fun v6 h => ?_) (fun j5 h => ?_)
  refine swp_blk (a := v6) ?_
  refine swp_seq ?_
  refine swp_reg ?_
  obtain ⟨x7, hx7, h⟩ := bind_some h
  refine SRun.ls (x_index (L := aList) (f := eClaim) (ti := ti26) (tj := ti39) (e := 39) (k := .i64) tbok rfl hx7) ?_
  refine SRun.ck tbok 2 ⟨51, [(0, vl eClaim aList), (4, .ref 4 0), (9, vl eClaim aList), (10, vi (aList.length : Int)), (11, vi s3.1), (14, .agg [vs x7.Source, vi x7.Kind, vs x7.Place, vs x7.Value, vi x7.Years.From, vi x7.Years.To, vi x7.Weight])], [(4, .box [vs (ByteArray.mk #[]), vi 0, vs (ByteArray.mk #[]), vs (ByteArray.mk #[]), vi 0, vi 0, vi 0])]⟩ ?_
  refine SRun.estep (x_estep_store (d := 4) (k := 0) (ti := ti39) (cs := [vs (ByteArray.mk #[]), vi 0, vs (ByteArray.mk #[]), vs (ByteArray.mk #[]), vi 0, vi 0, vi 0]) (vs := [vs x7.Source, vi x7.Kind, vs x7.Place, vs x7.Value, vi x7.Years.From, vi x7.Years.To, vi x7.Weight]) (v := .agg [vs x7.Source, vi x7.Kind, vs x7.Place, vs x7.Value, vi x7.Years.From, vi x7.Years.To, vi x7.Weight]) tbok rfl rfl) ?_
  refine SRun.nil ?_
  refine nx_n ?_
  refine swp_seq ?_
  refine swp_reg ?_
  refine SRun.ck tbok 3 ⟨51, [(0, vl eClaim aList), (4, .ref 4 0), (9, vl eClaim aList), (10, vi (aList.length : Int)), (11, vi s3.1), (15, vl eClaim aList), (16, vi (aList.length : Int)), (17, vi 0)], [(4, .box [vs x7.Source, vi x7.Kind, vs x7.Place, vs x7.Value, vi x7.Years.From, vi x7.Years.To, vi x7.Weight])]⟩ ?_
  refine SRun.nil ?_
  refine nx_n ?_
  refine swp_blk (a := v6) ?_
  refine swp_lpL (r := v6) (s := (0, ())) _ (fun s8 => ⟨51, [(0, vl eClaim aList), (4, .ref 4 0), (9, vl eClaim aList), (10, vi (aList.length : Int)), (11, vi s3.1), (15, vl eClaim aList), (16, vi (aList.length : Int)), (17, vi s8.1)], [(4, .box [vs x7.Source, vi x7.Kind, vs x7.Place, vs x7.Value, vi x7.Years.From, vi x7.Years.To, vi x7.Weight])]⟩) _ (Le.sub0) h (fun s8 v9 h => ?_)
  refine swp_seq ?_
  refine swp_reg ?_
  refine SRun.ck tbok 1 ⟨51, [(0, vl eClaim aList), (4, .ref 4 0), (9, vl eClaim aList), (10, vi (aList.length : Int)), (11, vi s3.1), (15, vl eClaim aList), (16, vi (aList.length : Int)), (17, vi s8.1), (18, vb (decide (s8.1 < (aList.length : Int))))], [(4, .box [vs x7.Source, vi x7.Kind, vs x7.Place, vs x7.Value, vi x7.Years.From, vi x7.Years.To, vi x7.Weight])]⟩ ?_
  refine SRun.nil ?_
  refine nx_n ?_
  refine swp_seq ?_
  refine swp_cond (b := (decide (s8.1 < (aList.length : Int)))) (by kernel_rfl) (fun hb => ?_) (fun hb => ?_)
  replace h := cond_t hb h
  refine swp_skip ?_
  refine nx_n ?_
  refine swp_seq ?_
  refine swp_seqL (r := v9) h (fun j10 => ⟨51, [(0, vl eClaim aList), (4, .ref 4 0), (9, vl eClaim aList), (10, vi (aList.length : Int)), (11, vi s3.1), (15, vl eClaim aList), (16, vi (aList.length : Int)), (17, vi s8.1)], [(4, .box [vs x7.Source, vi x7.Kind, vs x7.Place, vs x7.Value, vi x7.Years.From, vi x7.Years.To, vi x7.Weight])]⟩) (fun v11 h => ?_) (fun j10 h => ?_)
  refine swp_blk (a := v11) ?_
  refine swp_seq ?_
  refine swp_reg ?_
  obtain ⟨x12, hx12, h⟩ := bind_some h
  refine SRun.ls (x_index (L := aList) (f := eClaim) (ti := ti26) (tj := ti39) (e := 39) (k := .i64) tbok rfl hx12) ?_
  refine SRun.ck tbok 2 ⟨51, [(0, vl eClaim aList), (4, .ref 4 0), (6, .ref 6 0), (9, vl eClaim aList), (10, vi (aList.length : Int)), (11, vi s3.1), (15, vl eClaim aList), (16, vi (aList.length : Int)), (17, vi s8.1), (20, .agg [vs x12.Source, vi x12.Kind, vs x12.Place, vs x12.Value, vi x12.Years.From, vi x12.Years.To, vi x12.Weight])], [(4, .box [vs x7.Source, vi x7.Kind, vs x7.Place, vs x7.Value, vi x7.Years.From, vi x7.Years.To, vi x7.Weight]), (6, .box [vs (ByteArray.mk #[]), vi 0, vs (ByteArray.mk #[]), vs (ByteArray.mk #[]), vi 0, vi 0, vi 0])]⟩ ?_
  refine SRun.estep (x_estep_store (d := 6) (k := 0) (ti := ti39) (cs := [vs (ByteArray.mk #[]), vi 0, vs (ByteArray.mk #[]), vs (ByteArray.mk #[]), vi 0, vi 0, vi 0]) (vs := [vs x12.Source, vi x12.Kind, vs x12.Place, vs x12.Value, vi x12.Years.From, vi x12.Years.To, vi x12.Weight]) (v := .agg [vs x12.Source, vi x12.Kind, vs x12.Place, vs x12.Value, vi x12.Years.From, vi x12.Years.To, vi x12.Weight]) tbok rfl rfl) ?_
  refine SRun.nil ?_
  refine nx_n ?_
  refine swp_seq ?_
  refine swp_seq ?_
  refine swp_regJ h (fun j14 => ⟨51, [(0, vl eClaim aList), (4, .ref 4 0), (6, .ref 6 0), (9, vl eClaim aList), (10, vi (aList.length : Int)), (11, vi s3.1), (15, vl eClaim aList), (16, vi (aList.length : Int)), (17, vi s8.1), (37, vb j14)], [(4, .box [vs x7.Source, vi x7.Kind, vs x7.Place, vs x7.Value, vi x7.Years.From, vi x7.Years.To, vi x7.Weight]), (6, .box [vs x12.Source, vi x12.Kind, vs x12.Place, vs x12.Value, vi x12.Years.From, vi x12.Years.To, vi x12.Weight])]⟩) (fun v15 h => ?_) (fun j14 h => ?_)
  refine SRun.ck tbok 4 ⟨51, [(0, vl eClaim aList), (4, .ref 4 0), (6, .ref 6 0), (9, vl eClaim aList), (10, vi (aList.length : Int)), (11, vi s3.1), (15, vl eClaim aList), (16, vi (aList.length : Int)), (17, vi s8.1), (24, vb (x7.Kind != 1))], [(4, .box [vs x7.Source, vi x7.Kind, vs x7.Place, vs x7.Value, vi x7.Years.From, vi x7.Years.To, vi x7.Weight]), (6, .box [vs x12.Source, vi x12.Kind, vs x12.Place, vs x12.Value, vi x12.Years.From, vi x12.Years.To, vi x12.Weight])]⟩ ?_
  refine SRun.cut [(24, fun b => b)] (b := (x7.Kind != 1)) (by kernel_rfl) (fun hb => ?_) (fun hb => ?_)
  replace h := cond_t hb h
  refine SRun.ck tbok 13 ⟨51, [(0, vl eClaim aList), (4, .ref 4 0), (6, .ref 6 0), (9, vl eClaim aList), (10, vi (aList.length : Int)), (11, vi s3.1), (15, vl eClaim aList), (16, vi (aList.length : Int)), (17, vi s8.1), (37, vb true)], [(4, .box [vs x7.Source, vi x7.Kind, vs x7.Place, vs x7.Value, vi x7.Years.From, vi x7.Years.To, vi x7.Weight]), (6, .box [vs x12.Source, vi x12.Kind, vs x12.Place, vs x12.Value, vi x12.Years.From, vi x12.Years.To, vi x12.Weight])]⟩ ?_
  refine SRun.nil ?_
  replace h := Option.some.inj h
  subst h
  exact Le.sub0
  replace h := cond_f hb h
  refine SRun.ck tbok 5 ⟨51, [(0, vl eClaim aList), (4, .ref 4 0), (6, .ref 6 0), (9, vl eClaim aList), (10, vi (aList.length : Int)), (11, vi s3.1), (15, vl eClaim aList), (16, vi (aList.length : Int)), (17, vi s8.1), (29, vb (x12.Kind != 1))], [(4, .box [vs x7.Source, vi x7.Kind, vs x7.Place, vs x7.Value, vi x7.Years.From, vi x7.Years.To, vi x7.Weight]), (6, .box [vs x12.Source, vi x12.Kind, vs x12.Place, vs x12.Value, vi x12.Years.From, vi x12.Years.To, vi x12.Weight])]⟩ ?_
  refine SRun.cut [(29, fun b => b)] (b := (x12.Kind != 1)) (by kernel_rfl) (fun hb => ?_) (fun hb => ?_)
  replace h := cond_t hb h
  refine SRun.ck tbok 8 ⟨51, [(0, vl eClaim aList), (4, .ref 4 0), (6, .ref 6 0), (9, vl eClaim aList), (10, vi (aList.length : Int)), (11, vi s3.1), (15, vl eClaim aList), (16, vi (aList.length : Int)), (17, vi s8.1), (37, vb true)], [(4, .box [vs x7.Source, vi x7.Kind, vs x7.Place, vs x7.Value, vi x7.Years.From, vi x7.Years.To, vi x7.Weight]), (6, .box [vs x12.Source, vi x12.Kind, vs x12.Place, vs x12.Value, vi x12.Years.From, vi x12.Years.To, vi x12.Weight])]⟩ ?_
  refine SRun.nil ?_
  replace h := Option.some.inj h
  subst h
  exact Le.sub0
  replace h := cond_f hb h
  refine SRun.ck tbok 5 ⟨51, [(0, vl eClaim aList), (4, .ref 4 0), (6, .ref 6 0), (9, vl eClaim aList), (10, vi (aList.length : Int)), (11, vi s3.1), (15, vl eClaim aList), (16, vi (aList.length : Int)), (17, vi s8.1), (29, vb false), (31, .agg [vi x12.Years.From, vi x12.Years.To]), (34, vi x7.Years.From)], [(4, .box [vs x7.Source, vi x7.Kind, vs x7.Place, vs x7.Value, vi x7.Years.From, vi x7.Years.To, vi x7.Weight]), (6, .box [vs x12.Source, vi x12.Kind, vs x12.Place, vs x12.Value, vi x12.Years.From, vi x12.Years.To, vi x12.Weight])]⟩ ?_
  obtain ⟨x13, hx13, h⟩ := bind_some h
  refine SRun.ls (x_lstep_call (f := 35) (caps := []) (xs := [.agg [vi x12.Years.From, vi x12.Years.To], vi x7.Years.From]) (ys := [.agg [vi x12.Years.From, vi x12.Years.To], vi x7.Years.From]) (res := ⟨[.v (vb x13)], [], false⟩) (x := vb x13) (y := none) rfl ents35 (impl_Span_has_run x12.Years x7.Years.From _ hx13) rfl (by intro hc; cases hc)) ?_
  refine SRun.ck tbok 2 ⟨51, [(0, vl eClaim aList), (4, .ref 4 0), (6, .ref 6 0), (9, vl eClaim aList), (10, vi (aList.length : Int)), (11, vi s3.1), (15, vl eClaim aList), (16, vi (aList.length : Int)), (17, vi s8.1), (37, vb (!x13))], [(4, .box [vs x7.Source, vi x7.Kind, vs x7.Place, vs x7.Value, vi x7.Years.From, vi x7.Years.To, vi x7.Weight]), (6, .box [vs x12.Source, vi x12.Kind, vs x12.Place, vs x12.Value, vi x12.Years.From, vi x12.Years.To, vi x12.Weight])]⟩ ?_
  refine SRun.nil ?_
  replace h := Option.some.inj h
  subst h
  exact Le.sub0
  refine swp_cond (b := j14) (by kernel_rfl) (fun hb => ?_) (fun hb => ?_)
  replace h := cond_t hb h
  refine swp_exit ?_
  replace h := Option.some.inj h
  subst h
  exact nx_e (q_bh (q_l (Le.sub0)))
  replace h := cond_f hb h
  refine swp_skip ?_
  refine nx_n ?_
  refine swp_seq ?_
  refine swp_reg ?_
  refine SRun.ck tbok 6 ⟨51, [(0, vl eClaim aList), (4, .ref 4 0), (9, vl eClaim aList), (10, vi (aList.length : Int)), (11, vi s3.1), (15, vl eClaim aList), (16, vi (aList.length : Int)), (17, vi s8.1), (39, vl eClaim aList), (41, vs x12.Place), (44, vi x7.Years.From)], [(4, .box [vs x7.Source, vi x7.Kind, vs x7.Place, vs x7.Value, vi x7.Years.From, vi x7.Years.To, vi x7.Weight])]⟩ ?_
  obtain ⟨x16, hx16, h⟩ := bind_some h
  refine SRun.ls (x_lstep_call (f := 52) (caps := []) (xs := [vl eClaim aList, vs x12.Place, vi x7.Years.From]) (ys := [vl eClaim aList, vs x12.Place, vi x7.Years.From]) (res := ⟨[.own 9 1 x16.1.length (x16.1.map eS), .v (vb x16.2)], [], false⟩) (x := .tup [.own 45, vb x16.2]) (y := some (.arr 9 1 x16.1.length (x16.1.map eS))) rfl ents52 (impl_circleIn_run aList x12.Place x7.Years.From _ hx16) rfl (by intro hc; cases hc)) ?_
  refine SRun.ck tbok 5 ⟨51, [(0, vl eClaim aList), (4, .ref 4 0), (8, vb x16.2), (9, vl eClaim aList), (10, vi (aList.length : Int)), (11, vi s3.1), (15, vl eClaim aList), (16, vi (aList.length : Int)), (17, vi s8.1)], [(4, .box [vs x7.Source, vi x7.Kind, vs x7.Place, vs x7.Value, vi x7.Years.From, vi x7.Years.To, vi x7.Weight])]⟩ ?_
  refine SRun.nil ?_
  refine nx_n ?_
  refine swp_seq ?_
  refine swp_reg ?_
  refine SRun.ck tbok 1 ⟨51, [(0, vl eClaim aList), (4, .ref 4 0), (9, vl eClaim aList), (10, vi (aList.length : Int)), (11, vi s3.1), (15, vl eClaim aList), (16, vi (aList.length : Int)), (17, vi s8.1), (48, vb x16.2)], [(4, .box [vs x7.Source, vi x7.Kind, vs x7.Place, vs x7.Value, vi x7.Years.From, vi x7.Years.To, vi x7.Weight])]⟩ ?_
  refine SRun.nil ?_
  refine nx_n ?_
  refine swp_cond (b := x16.2) (by kernel_rfl) (fun hb => ?_) (fun hb => ?_)
  replace h := cond_t hb h
  refine swp_seq ?_
  refine swp_reg ?_
  refine SRun.ck tbok 1 ⟨51, [(2, vb true)], []⟩ ?_
  refine SRun.nil ?_
  refine nx_n ?_
  refine swp_ret ?_
  replace h := Option.some.inj h
  subst h
  exact q_br (q_rr (q_rr (q_br (q_br (q_rr (q_rr (q_br (q_rr (q_fr (fin1 (by kernel_rfl) (finV rfl SV.flat_of (holds_t (by kernel_rfl)))))))))))))
  replace h := cond_f hb h
  refine swp_skip ?_
  replace h := Option.some.inj h
  subst h
  exact q_bn (q_l (Le.sub0))
  refine swp_reg ?_
  refine SRun.ck tbok 2 ⟨51, [(0, vl eClaim aList), (4, .ref 4 0), (9, vl eClaim aList), (10, vi (aList.length : Int)), (11, vi s3.1), (15, vl eClaim aList), (16, vi (aList.length : Int)), (17, vi (w64 (s8.1 + 1)))], [(4, .box [vs x7.Source, vi x7.Kind, vs x7.Place, vs x7.Value, vi x7.Years.From, vi x7.Years.To, vi x7.Weight])]⟩ ?_
  refine SRun.nil ?_
  replace h := Option.some.inj h
  subst h
  exact q_l (Le.sub0)
  replace h := cond_f hb h
  refine swp_exit ?_
  replace h := Option.some.inj h
  subst h
  exact nx_e (q_re (q_bh (q_bn (q_l (Le.sub0)))))
  refine swp_reg ?_
  refine SRun.ck tbok 2 ⟨51, [(0, vl eClaim aList), (9, vl eClaim aList), (10, vi (aList.length : Int)), (11, vi (w64 (s3.1 + 1)))], []⟩ ?_
  refine SRun.nil ?_
  replace h := Option.some.inj h
  subst h
  exact q_l (Le.sub0)
  replace h := cond_f hb h
  refine swp_exit ?_
  replace h := Option.some.inj h
  subst h
  exact nx_e (q_re (q_bh (q_l (Le.sub0))))
  refine swp_seq ?_
  refine swp_reg ?_
  refine SRun.ck tbok 1 ⟨51, [(2, vb false)], []⟩ ?_
  refine SRun.nil ?_
  refine nx_n ?_
  refine swp_ret ?_
  replace h := Option.some.inj h
  subst h
  exact q_fr (fin1 (by kernel_rfl) (finV rfl SV.flat_of (holds_t (by kernel_rfl))))
theorem ents43 : Ents Tryd.prog 43 := ents_of Tryd.func43 (by kernel_rfl) rfl
end Go.Proofs.YtjkibihkmgkmpaaDoor.Sh
