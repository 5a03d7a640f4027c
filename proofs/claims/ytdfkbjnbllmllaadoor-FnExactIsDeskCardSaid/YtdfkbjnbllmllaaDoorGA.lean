/- Typed functions and the calls that do what they say. -/
import Derived.Test.YtdfkbjnbllmllaaDoorSB
import Derived.Test.YtdfkbjnbllmllaaDoorKA
import Derived.Test.YtdfkbjnbllmllaaDoorKS
import Derived.Test.YtdfkbjnbllmllaaDoorSN
import Derived.Test.YtdfkbjnbllmllaaDoorH1
namespace Go.Proofs.YtdfkbjnbllmllaaDoor.Sh
open Go.RowKit
structure Span where
  From : Int
  To : Int
def eSpan (x : Span) : List Tr := [.int .i64 x.From, .int .i64 x.To]
theorem eSpan_flat (x : Span) : ∀ t ∈ eSpan x, t.flat = true := by simp [eSpan, Tr.flat]
structure Claim where
  Source : ByteArray
  Kind : Int
  Place : ByteArray
  Value : ByteArray
  Years : Span
  Weight : Int
def eClaim (x : Claim) : List Tr := [.str x.Source, .int .i64 x.Kind, .str x.Place, .str x.Value, .int .i64 x.Years.From, .int .i64 x.Years.To, .int .i64 x.Weight]
theorem eClaim_flat (x : Claim) : ∀ t ∈ eClaim x, t.flat = true := by simp [eClaim, Tr.flat]
structure Point where
  X : Int
  Y : Int
def ePoint (x : Point) : List Tr := [.int .i64 x.X, .int .i64 x.Y]
theorem ePoint_flat (x : Point) : ∀ t ∈ ePoint x, t.flat = true := by simp [ePoint, Tr.flat]
structure Site where
  Code : ByteArray
  At : Point
def eSite (x : Site) : List Tr := [.str x.Code, .int .i64 x.At.X, .int .i64 x.At.Y]
theorem eSite_flat (x : Site) : ∀ t ∈ eSite x, t.flat = true := by simp [eSite, Tr.flat]
structure Desk where
  Claims : (List Claim)
  Sites : (List Site)
def eDesk (x : Desk) : List Tr := [.sl x.Claims.length (x.Claims.map eClaim), .sl x.Sites.length (x.Sites.map eSite)]
def ti2 : TI := ⟨1, 8, .int .i64, [.int .i64 0]⟩
def ti3 : TI := ⟨1, 8, .int .i64, [.int .i64 0]⟩
def ti4 : TI := ⟨1, 1, .bool, [.bool false]⟩
def ti5 : TI := ⟨1, 1, .int .u8, [.int .u8 0]⟩
def ti9 : TI := ⟨1, 16, .str, [.str (ByteArray.mk #[])]⟩
def ti22 : TI := ⟨1, 24, .slice 47, [.sl ([] : List Claim).length (([] : List Claim).map eClaim)]⟩
def ti23 : TI := ⟨1, 24, .slice 52, [.sl ([] : List Site).length (([] : List Site).map eSite)]⟩
def ti25 : TI := ⟨2, 48, .struct [(0, 22), (1, 23)], [.sl ([] : List Claim).length (([] : List Claim).map eClaim), .sl ([] : List Site).length (([] : List Site).map eSite)]⟩
def ti28 : TI := ⟨1, 24, .slice 56, [.sl ([] : List Claim).length (([] : List Claim).map eClaim)]⟩
def ti29 : TI := ⟨1, 24, .slice 60, [.sl ([] : List Site).length (([] : List Site).map eSite)]⟩
def ti31 : TI := ⟨2, 48, .struct [(0, 28), (1, 29)], [.sl ([] : List Claim).length (([] : List Claim).map eClaim), .sl ([] : List Site).length (([] : List Site).map eSite)]⟩
def ti45 : TI := ⟨2, 16, .struct [(0, 2), (1, 2)], [.int .i64 0, .int .i64 0]⟩
def ti47 : TI := ⟨7, 80, .struct [(0, 9), (1, 2), (2, 9), (3, 9), (4, 45), (6, 2)], [.str (ByteArray.mk #[]), .int .i64 0, .str (ByteArray.mk #[]), .str (ByteArray.mk #[]), .int .i64 0, .int .i64 0, .int .i64 0]⟩
def ti50 : TI := ⟨2, 16, .struct [(0, 2), (1, 2)], [.int .i64 0, .int .i64 0]⟩
def ti52 : TI := ⟨3, 32, .struct [(0, 9), (1, 50)], [.str (ByteArray.mk #[]), .int .i64 0, .int .i64 0]⟩
def ti54 : TI := ⟨2, 16, .struct [(0, 2), (1, 2)], [.int .i64 0, .int .i64 0]⟩
def ti56 : TI := ⟨7, 80, .struct [(0, 9), (1, 2), (2, 9), (3, 9), (4, 54), (6, 2)], [.str (ByteArray.mk #[]), .int .i64 0, .str (ByteArray.mk #[]), .str (ByteArray.mk #[]), .int .i64 0, .int .i64 0, .int .i64 0]⟩
def ti58 : TI := ⟨2, 16, .struct [(0, 2), (1, 2)], [.int .i64 0, .int .i64 0]⟩
def ti60 : TI := ⟨3, 32, .struct [(0, 9), (1, 58)], [.str (ByteArray.mk #[]), .int .i64 0, .int .i64 0]⟩
def ti77 : TI := ⟨1, 24, .slice 9, [.sl ([] : List ByteArray).length (([] : List ByteArray).map eS)]⟩
def ti83 : TI := ⟨8, 128, .array 8 9, [.str (ByteArray.mk #[]), .str (ByteArray.mk #[]), .str (ByteArray.mk #[]), .str (ByteArray.mk #[]), .str (ByteArray.mk #[]), .str (ByteArray.mk #[]), .str (ByteArray.mk #[]), .str (ByteArray.mk #[])]⟩
def tbl : Tb := [(2, ti2), (3, ti3), (4, ti4), (5, ti5), (9, ti9), (22, ti22), (23, ti23), (25, ti25), (28, ti28), (29, ti29), (31, ti31), (45, ti45), (47, ti47), (50, ti50), (52, ti52), (54, ti54), (56, ti56), (58, ti58), (60, ti60), (77, ti77), (83, ti83)]
theorem tbok : TbOk Tryd.prog tbl := TbOk.cons ⟨by kernel_rfl, show Tryd.prog.underlying 2 = some (.int .i64) from by kernel_rfl⟩ (TbOk.cons ⟨by kernel_rfl, show Tryd.prog.underlying 3 = some (.int .i64) from by kernel_rfl⟩ (TbOk.cons ⟨by kernel_rfl, show Tryd.prog.underlying 4 = some (.bool) from by kernel_rfl⟩ (TbOk.cons ⟨by kernel_rfl, show Tryd.prog.underlying 5 = some (.int .u8) from by kernel_rfl⟩ (TbOk.cons ⟨by kernel_rfl, show Tryd.prog.underlying 9 = some (.string) from by kernel_rfl⟩ (TbOk.cons ⟨by kernel_rfl, show Tryd.prog.underlying 22 = some (.slice 47) from by kernel_rfl⟩ (TbOk.cons ⟨by kernel_rfl, show Tryd.prog.underlying 23 = some (.slice 52) from by kernel_rfl⟩ (TbOk.cons ⟨by kernel_rfl, show structOf Tryd.prog 25 = some [(0, 22), (1, 23)] from by kernel_rfl⟩ (TbOk.cons ⟨by kernel_rfl, show Tryd.prog.underlying 28 = some (.slice 56) from by kernel_rfl⟩ (TbOk.cons ⟨by kernel_rfl, show Tryd.prog.underlying 29 = some (.slice 60) from by kernel_rfl⟩ (TbOk.cons ⟨by kernel_rfl, show structOf Tryd.prog 31 = some [(0, 28), (1, 29)] from by kernel_rfl⟩ (TbOk.cons ⟨by kernel_rfl, show structOf Tryd.prog 45 = some [(0, 2), (1, 2)] from by kernel_rfl⟩ (TbOk.cons ⟨by kernel_rfl, show structOf Tryd.prog 47 = some [(0, 9), (1, 2), (2, 9), (3, 9), (4, 45), (6, 2)] from by kernel_rfl⟩ (TbOk.cons ⟨by kernel_rfl, show structOf Tryd.prog 50 = some [(0, 2), (1, 2)] from by kernel_rfl⟩ (TbOk.cons ⟨by kernel_rfl, show structOf Tryd.prog 52 = some [(0, 9), (1, 50)] from by kernel_rfl⟩ (TbOk.cons ⟨by kernel_rfl, show structOf Tryd.prog 54 = some [(0, 2), (1, 2)] from by kernel_rfl⟩ (TbOk.cons ⟨by kernel_rfl, show structOf Tryd.prog 56 = some [(0, 9), (1, 2), (2, 9), (3, 9), (4, 54), (6, 2)] from by kernel_rfl⟩ (TbOk.cons ⟨by kernel_rfl, show structOf Tryd.prog 58 = some [(0, 2), (1, 2)] from by kernel_rfl⟩ (TbOk.cons ⟨by kernel_rfl, show structOf Tryd.prog 60 = some [(0, 9), (1, 58)] from by kernel_rfl⟩ (TbOk.cons ⟨by kernel_rfl, show Tryd.prog.underlying 77 = some (.slice 9) from by kernel_rfl⟩ (TbOk.cons ⟨by kernel_rfl, show Tryd.prog.underlying 83 = some (.array 8 9) from by kernel_rfl⟩ (TbOk.nil _)))))))))))))))))))))
theorem mixed : Tryd.prog.follows .mixedOrders = true := by kernel_rfl
noncomputable def laws_szClaim (aA : Claim) (aLeft : Int) : Option (Int) :=
  (bif (decide ((w64 (aLeft - (aA.Source.size : Int))) < 0)) then some (-1) else (bif (decide ((w64 ((w64 (aLeft - (aA.Source.size : Int))) - (aA.Place.size : Int))) < 0)) then some (-1) else (bif (decide ((w64 ((w64 ((w64 (aLeft - (aA.Source.size : Int))) - (aA.Place.size : Int))) - (aA.Value.size : Int))) < 0)) then some (-1) else some (w64 ((w64 ((w64 (aLeft - (aA.Source.size : Int))) - (aA.Place.size : Int))) - (aA.Value.size : Int))))))
set_option maxRecDepth 100000 in
set_option maxHeartbeats 4000000 in
theorem laws_szClaim_run (aA : Claim) (aLeft : Int) (r : Int) (h : laws_szClaim aA aLeft = some r) : SCall Tryd.prog 19 [.v (.agg [vs aA.Source, vi aA.Kind, vs aA.Place, vs aA.Value, vi aA.Years.From, vi aA.Years.To, vi aA.Weight]), .v (vi aLeft)] ⟨[.v (vi r)], [], false⟩ := by
  refine scall_in Tryd.func19 rfl [(.tmp 4)] rfl (fun r => ⟨[.v (vi r)], [], false⟩) (r := r) ?_
  unfold laws_szClaim at h
  refine swp_seq ?_
  refine swp_reg ?_
  refine SRun.ck tbok 2 ⟨27, [(1, vi aLeft), (2, .ref 2 0)], [(2, .box [vs aA.Source, vi aA.Kind, vs aA.Place, vs aA.Value, vi aA.Years.From, vi aA.Years.To, vi aA.Weight])]⟩ ?_
  refine SRun.nil ?_
  refine nx_n ?_
  refine swp_seq ?_
  refine swp_reg ?_
  refine SRun.ck tbok 6 ⟨27, [(1, vi (w64 (aLeft - (aA.Source.size : Int)))), (2, .ref 2 0)], [(2, .box [vs aA.Source, vi aA.Kind, vs aA.Place, vs aA.Value, vi aA.Years.From, vi aA.Years.To, vi aA.Weight])]⟩ ?_
  refine SRun.nil ?_
  refine nx_n ?_
  refine swp_seq ?_
  refine swp_seq ?_
  refine swp_reg ?_
  refine SRun.ck tbok 2 ⟨27, [(1, vi (w64 (aLeft - (aA.Source.size : Int)))), (2, .ref 2 0), (11, vb (decide ((w64 (aLeft - (aA.Source.size : Int))) < 0)))], [(2, .box [vs aA.Source, vi aA.Kind, vs aA.Place, vs aA.Value, vi aA.Years.From, vi aA.Years.To, vi aA.Weight])]⟩ ?_
  refine SRun.nil ?_
  refine nx_n ?_
  refine swp_cond (b := (decide ((w64 (aLeft - (aA.Source.size : Int))) < 0))) (by kernel_rfl) (fun hb => ?_) (fun hb => ?_)
  replace h := cond_t hb h
  refine swp_seq ?_
  refine swp_reg ?_
  refine SRun.ck tbok 1 ⟨27, [(4, vi (-1))], []⟩ ?_
  refine SRun.nil ?_
  refine nx_n ?_
  refine swp_ret ?_
  replace h := Option.some.inj h
  subst h
  exact nx_r (q_fr (fin1 (by kernel_rfl) (finV rfl SV.flat_of (holds_t (by kernel_rfl)))))
  replace h := cond_f hb h
  refine swp_skip ?_
  refine nx_n ?_
  refine swp_seq ?_
  refine swp_reg ?_
  refine SRun.ck tbok 6 ⟨27, [(1, vi (w64 ((w64 (aLeft - (aA.Source.size : Int))) - (aA.Place.size : Int)))), (2, .ref 2 0)], [(2, .box [vs aA.Source, vi aA.Kind, vs aA.Place, vs aA.Value, vi aA.Years.From, vi aA.Years.To, vi aA.Weight])]⟩ ?_
  refine SRun.nil ?_
  refine nx_n ?_
  refine swp_seq ?_
  refine swp_seq ?_
  refine swp_reg ?_
  refine SRun.ck tbok 2 ⟨27, [(1, vi (w64 ((w64 (aLeft - (aA.Source.size : Int))) - (aA.Place.size : Int)))), (2, .ref 2 0), (18, vb (decide ((w64 ((w64 (aLeft - (aA.Source.size : Int))) - (aA.Place.size : Int))) < 0)))], [(2, .box [vs aA.Source, vi aA.Kind, vs aA.Place, vs aA.Value, vi aA.Years.From, vi aA.Years.To, vi aA.Weight])]⟩ ?_
  refine SRun.nil ?_
  refine nx_n ?_
  refine swp_cond (b := (decide ((w64 ((w64 (aLeft - (aA.Source.size : Int))) - (aA.Place.size : Int))) < 0))) (by kernel_rfl) (fun hb => ?_) (fun hb => ?_)
  replace h := cond_t hb h
  refine swp_seq ?_
  refine swp_reg ?_
  refine SRun.ck tbok 1 ⟨27, [(4, vi (-1))], []⟩ ?_
  refine SRun.nil ?_
  refine nx_n ?_
  refine swp_ret ?_
  replace h := Option.some.inj h
  subst h
  exact nx_r (q_fr (fin1 (by kernel_rfl) (finV rfl SV.flat_of (holds_t (by kernel_rfl)))))
  replace h := cond_f hb h
  refine swp_skip ?_
  refine nx_n ?_
  refine swp_seq ?_
  refine swp_reg ?_
  refine SRun.ck tbok 6 ⟨27, [(1, vi (w64 ((w64 ((w64 (aLeft - (aA.Source.size : Int))) - (aA.Place.size : Int))) - (aA.Value.size : Int))))], []⟩ ?_
  refine SRun.nil ?_
  refine nx_n ?_
  refine swp_seq ?_
  refine swp_seq ?_
  refine swp_reg ?_
  refine SRun.ck tbok 2 ⟨27, [(1, vi (w64 ((w64 ((w64 (aLeft - (aA.Source.size : Int))) - (aA.Place.size : Int))) - (aA.Value.size : Int)))), (25, vb (decide ((w64 ((w64 ((w64 (aLeft - (aA.Source.size : Int))) - (aA.Place.size : Int))) - (aA.Value.size : Int))) < 0)))], []⟩ ?_
  refine SRun.nil ?_
  refine nx_n ?_
  refine swp_cond (b := (decide ((w64 ((w64 ((w64 (aLeft - (aA.Source.size : Int))) - (aA.Place.size : Int))) - (aA.Value.size : Int))) < 0))) (by kernel_rfl) (fun hb => ?_) (fun hb => ?_)
  replace h := cond_t hb h
  refine swp_seq ?_
  refine swp_reg ?_
  refine SRun.ck tbok 1 ⟨27, [(4, vi (-1))], []⟩ ?_
  refine SRun.nil ?_
  refine nx_n ?_
  refine swp_ret ?_
  replace h := Option.some.inj h
  subst h
  exact nx_r (q_fr (fin1 (by kernel_rfl) (finV rfl SV.flat_of (holds_t (by kernel_rfl)))))
  replace h := cond_f hb h
  refine swp_skip ?_
  refine nx_n ?_
  refine swp_seq ?_
  refine swp_reg ?_
  refine SRun.ck tbok 2 ⟨27, [(4, vi (w64 ((w64 ((w64 (aLeft - (aA.Source.size : Int))) - (aA.Place.size : Int))) - (aA.Value.size : Int))))], []⟩ ?_
  refine SRun.nil ?_
  refine nx_n ?_
  refine swp_ret ?_
  replace h := Option.some.inj h
  subst h
  exact q_fr (fin1 (by kernel_rfl) (finV rfl SV.flat_of (holds_t (by kernel_rfl))))
theorem ents19 : Ents Tryd.prog 19 := ents_of Tryd.func19 (by kernel_rfl) rfl
noncomputable def laws_szClaimS (aA : (List Claim)) (aLeft : Int) : Option (Int) :=
  (bif (decide ((w64 (aLeft - (aA.length : Int))) < 0)) then some (-1) else (((forN (aA.length : Int) (fun (i3 : Int) (s3 : Int) => ((at' aA i3).bind fun x7 => ((laws_szClaim x7 s3).bind fun x8 => (bif (decide (x8 < 0)) then some (.inr (.inr (-1))) else some (.inl x8))))) (fun (s3 : Int) => .inl s3) 0 (w64 (aLeft - (aA.length : Int))))).bind (Sum.elim (fun (j1 : Int) => some j1) some)))
set_option maxRecDepth 100000 in
set_option maxHeartbeats 4000000 in
theorem laws_szClaimS_run (aA : (List Claim)) (aLeft : Int) (r : Int) (h : laws_szClaimS aA aLeft = some r) : SCall Tryd.prog 9 [.v (vl eClaim aA), .v (vi aLeft)] ⟨[.v (vi r)], [], false⟩ := by
  refine scall_in Tryd.func9 rfl [(.tmp 4)] rfl (fun r => ⟨[.v (vi r)], [], false⟩) (r := r) ?_
  unfold laws_szClaimS at h
  refine swp_seq ?_
  refine swp_reg ?_
  refine SRun.ck tbok 1 ⟨27, [(0, vl eClaim aA), (1, vi aLeft)], []⟩ ?_
  refine SRun.nil ?_
  refine nx_n ?_
  refine swp_seq ?_
  refine swp_reg ?_
  refine SRun.ck tbok 5 ⟨27, [(0, vl eClaim aA), (1, vi (w64 (aLeft - (aA.length : Int))))], []⟩ ?_
  refine SRun.nil ?_
  refine nx_n ?_
  refine swp_seq ?_
  refine swp_seq ?_
  refine swp_reg ?_
  refine SRun.ck tbok 2 ⟨27, [(0, vl eClaim aA), (1, vi (w64 (aLeft - (aA.length : Int)))), (11, vb (decide ((w64 (aLeft - (aA.length : Int))) < 0)))], []⟩ ?_
  refine SRun.nil ?_
  refine nx_n ?_
  refine swp_cond (b := (decide ((w64 (aLeft - (aA.length : Int))) < 0))) (by kernel_rfl) (fun hb => ?_) (fun hb => ?_)
  replace h := cond_t hb h
  refine swp_seq ?_
  refine swp_reg ?_
  refine SRun.ck tbok 1 ⟨27, [(4, vi (-1))], []⟩ ?_
  refine SRun.nil ?_
  refine nx_n ?_
  refine swp_ret ?_
  replace h := Option.some.inj h
  subst h
  exact nx_r (q_fr (fin1 (by kernel_rfl) (finV rfl SV.flat_of (holds_t (by kernel_rfl)))))
  replace h := cond_f hb h
  refine swp_skip ?_
  refine nx_n ?_
  refine swp_seq ?_
  refine swp_seq ?_
  refine swp_reg ?_
  refine SRun.ck tbok 1 ⟨27, [(0, vl eClaim aA), (1, vi (w64 (aLeft - (aA.length : Int)))), (5, vi 0)], []⟩ ?_
  refine SRun.nil ?_
  refine nx_n ?_
  refine swp_seqE (r := r) h (fun j1 => ⟨27, [(1, vi j1)], []⟩) (fun v2 h => ?_) (fun j1 h => ?_)
  refine swp_blk (a := v2) ?_
  refine swp_lpL (r := v2) (s := (0, (w64 (aLeft - (aA.length : Int))))) _ (fun s3 => ⟨27, [(0, vl eClaim aA), (1, vi s3.2), (5, vi s3.1)], []⟩) _ (Le.sub0) h (fun s3 v4 h => ?_)
  refine swp_seq ?_
  refine swp_seq ?_
  refine swp_reg ?_
  refine SRun.ck tbok 4 ⟨27, [(0, vl eClaim aA), (1, vi s3.2), (5, vi s3.1), (15, vb (decide (s3.1 < (aA.length : Int))))], []⟩ ?_
  refine SRun.nil ?_
  refine nx_n ?_
  refine swp_cond (b := (decide (s3.1 < (aA.length : Int)))) (by kernel_rfl) (fun hb => ?_) (fun hb => ?_)
  replace h := cond_t hb h
  refine swp_skip ?_
  refine nx_n ?_
  refine swp_seq ?_
  refine swp_seqL (r := v4) h (fun j5 => ⟨27, [(0, vl eClaim aA), (1, vi j5), (5, vi s3.1)], []⟩) (fun v6 h => ?_) (fun j5 h => ?_)
  refine swp_blk (a := v6) ?_
  refine swp_seq ?_
  refine swp_reg ?_
  refine SRun.ck tbok 2 ⟨27, [(0, vl eClaim aA), (1, vi s3.2), (5, vi s3.1), (18, vl eClaim aA), (19, vi s3.1)], []⟩ ?_
  obtain ⟨x7, hx7, h⟩ := bind_some h
  refine SRun.ls (x_index (L := aA) (f := eClaim) (ti := ti22) (tj := ti47) (e := 47) (k := .i64) tbok rfl hx7) ?_
  refine SRun.ck tbok 2 ⟨27, [(0, vl eClaim aA), (5, vi s3.1), (21, .agg [vs x7.Source, vi x7.Kind, vs x7.Place, vs x7.Value, vi x7.Years.From, vi x7.Years.To, vi x7.Weight]), (22, vi s3.2)], []⟩ ?_
  obtain ⟨x8, hx8, h⟩ := bind_some h
  refine SRun.ls (x_lstep_call (f := 19) (caps := []) (xs := [.agg [vs x7.Source, vi x7.Kind, vs x7.Place, vs x7.Value, vi x7.Years.From, vi x7.Years.To, vi x7.Weight], vi s3.2]) (ys := [.agg [vs x7.Source, vi x7.Kind, vs x7.Place, vs x7.Value, vi x7.Years.From, vi x7.Years.To, vi x7.Weight], vi s3.2]) (res := ⟨[.v (vi x8)], [], false⟩) (x := vi x8) (y := none) rfl ents19 (laws_szClaim_run x7 s3.2 _ hx8) rfl (by intro hc; cases hc)) ?_
  refine SRun.ck tbok 1 ⟨27, [(0, vl eClaim aA), (1, vi x8), (5, vi s3.1)], []⟩ ?_
  refine SRun.nil ?_
  refine nx_n ?_
  refine swp_seq ?_
  refine swp_reg ?_
  refine SRun.ck tbok 2 ⟨27, [(0, vl eClaim aA), (1, vi x8), (5, vi s3.1), (25, vb (decide (x8 < 0)))], []⟩ ?_
  refine SRun.nil ?_
  refine nx_n ?_
  refine swp_cond (b := (decide (x8 < 0))) (by kernel_rfl) (fun hb => ?_) (fun hb => ?_)
  replace h := cond_t hb h
  refine swp_seq ?_
  refine swp_reg ?_
  refine SRun.ck tbok 1 ⟨27, [(4, vi (-1))], []⟩ ?_
  refine SRun.nil ?_
  refine nx_n ?_
  refine swp_ret ?_
  replace h := Option.some.inj h
  subst h
  exact q_br (q_rr (q_rr (q_br (q_rr (q_fr (fin1 (by kernel_rfl) (finV rfl SV.flat_of (holds_t (by kernel_rfl)))))))))
  replace h := cond_f hb h
  refine swp_skip ?_
  replace h := Option.some.inj h
  subst h
  exact q_bn (q_l (Le.sub0))
  refine swp_reg ?_
  refine SRun.ck tbok 3 ⟨27, [(0, vl eClaim aA), (1, vi j5), (5, vi (w64 (s3.1 + 1)))], []⟩ ?_
  refine SRun.nil ?_
  replace h := Option.some.inj h
  subst h
  exact q_l (Le.sub0)
  replace h := cond_f hb h
  refine swp_exit ?_
  replace h := Option.some.inj h
  subst h
  exact nx_e (q_re (q_bh (q_l (Le.sub0))))
  refine swp_seq ?_
  refine swp_reg ?_
  refine SRun.ck tbok 2 ⟨27, [(4, vi j1)], []⟩ ?_
  refine SRun.nil ?_
  refine nx_n ?_
  refine swp_ret ?_
  replace h := Option.some.inj h
  subst h
  exact q_fr (fin1 (by kernel_rfl) (finV rfl SV.flat_of (holds_t (by kernel_rfl))))
theorem ents9 : Ents Tryd.prog 9 := ents_of Tryd.func9 (by kernel_rfl) rfl
noncomputable def laws_szSite (aA : Site) (aLeft : Int) : Option (Int) :=
  (bif (decide ((w64 (aLeft - (aA.Code.size : Int))) < 0)) then some (-1) else some (w64 (aLeft - (aA.Code.size : Int))))
set_option maxRecDepth 100000 in
set_option maxHeartbeats 4000000 in
theorem laws_szSite_run (aA : Site) (aLeft : Int) (r : Int) (h : laws_szSite aA aLeft = some r) : SCall Tryd.prog 20 [.v (.agg [vs aA.Code, vi aA.At.X, vi aA.At.Y]), .v (vi aLeft)] ⟨[.v (vi r)], [], false⟩ := by
  refine scall_in Tryd.func20 rfl [(.tmp 4)] rfl (fun r => ⟨[.v (vi r)], [], false⟩) (r := r) ?_
  unfold laws_szSite at h
  refine swp_seq ?_
  refine swp_reg ?_
  refine SRun.ck tbok 2 ⟨13, [(1, vi aLeft), (2, .ref 2 0)], [(2, .box [vs aA.Code, vi aA.At.X, vi aA.At.Y])]⟩ ?_
  refine SRun.nil ?_
  refine nx_n ?_
  refine swp_seq ?_
  refine swp_reg ?_
  refine SRun.ck tbok 6 ⟨13, [(1, vi (w64 (aLeft - (aA.Code.size : Int))))], []⟩ ?_
  refine SRun.nil ?_
  refine nx_n ?_
  refine swp_seq ?_
  refine swp_seq ?_
  refine swp_reg ?_
  refine SRun.ck tbok 2 ⟨13, [(1, vi (w64 (aLeft - (aA.Code.size : Int)))), (11, vb (decide ((w64 (aLeft - (aA.Code.size : Int))) < 0)))], []⟩ ?_
  refine SRun.nil ?_
  refine nx_n ?_
  refine swp_cond (b := (decide ((w64 (aLeft - (aA.Code.size : Int))) < 0))) (by kernel_rfl) (fun hb => ?_) (fun hb => ?_)
  replace h := cond_t hb h
  refine swp_seq ?_
  refine swp_reg ?_
  refine SRun.ck tbok 1 ⟨13, [(4, vi (-1))], []⟩ ?_
  refine SRun.nil ?_
  refine nx_n ?_
  refine swp_ret ?_
  replace h := Option.some.inj h
  subst h
  exact nx_r (q_fr (fin1 (by kernel_rfl) (finV rfl SV.flat_of (holds_t (by kernel_rfl)))))
  replace h := cond_f hb h
  refine swp_skip ?_
  refine nx_n ?_
  refine swp_seq ?_
  refine swp_reg ?_
  refine SRun.ck tbok 2 ⟨13, [(4, vi (w64 (aLeft - (aA.Code.size : Int))))], []⟩ ?_
  refine SRun.nil ?_
  refine nx_n ?_
  refine swp_ret ?_
  replace h := Option.some.inj h
  subst h
  exact q_fr (fin1 (by kernel_rfl) (finV rfl SV.flat_of (holds_t (by kernel_rfl))))
theorem ents20 : Ents Tryd.prog 20 := ents_of Tryd.func20 (by kernel_rfl) rfl
noncomputable def laws_szSiteS (aA : (List Site)) (aLeft : Int) : Option (Int) :=
  (bif (decide ((w64 (aLeft - (aA.length : Int))) < 0)) then some (-1) else (((forN (aA.length : Int) (fun (i3 : Int) (s3 : Int) => ((at' aA i3).bind fun x7 => ((laws_szSite x7 s3).bind fun x8 => (bif (decide (x8 < 0)) then some (.inr (.inr (-1))) else some (.inl x8))))) (fun (s3 : Int) => .inl s3) 0 (w64 (aLeft - (aA.length : Int))))).bind (Sum.elim (fun (j1 : Int) => some j1) some)))
set_option maxRecDepth 100000 in
set_option maxHeartbeats 4000000 in
theorem laws_szSiteS_run (aA : (List Site)) (aLeft : Int) (r : Int) (h : laws_szSiteS aA aLeft = some r) : SCall Tryd.prog 10 [.v (vl eSite aA), .v (vi aLeft)] ⟨[.v (vi r)], [], false⟩ := by
  refine scall_in Tryd.func10 rfl [(.tmp 4)] rfl (fun r => ⟨[.v (vi r)], [], false⟩) (r := r) ?_
  unfold laws_szSiteS at h
  refine swp_seq ?_
  refine swp_reg ?_
  refine SRun.ck tbok 1 ⟨27, [(0, vl eSite aA), (1, vi aLeft)], []⟩ ?_
  refine SRun.nil ?_
  refine nx_n ?_
  refine swp_seq ?_
  refine swp_reg ?_
  refine SRun.ck tbok 5 ⟨27, [(0, vl eSite aA), (1, vi (w64 (aLeft - (aA.length : Int))))], []⟩ ?_
  refine SRun.nil ?_
  refine nx_n ?_
  refine swp_seq ?_
  refine swp_seq ?_
  refine swp_reg ?_
  refine SRun.ck tbok 2 ⟨27, [(0, vl eSite aA), (1, vi (w64 (aLeft - (aA.length : Int)))), (11, vb (decide ((w64 (aLeft - (aA.length : Int))) < 0)))], []⟩ ?_
  refine SRun.nil ?_
  refine nx_n ?_
  refine swp_cond (b := (decide ((w64 (aLeft - (aA.length : Int))) < 0))) (by kernel_rfl) (fun hb => ?_) (fun hb => ?_)
  replace h := cond_t hb h
  refine swp_seq ?_
  refine swp_reg ?_
  refine SRun.ck tbok 1 ⟨27, [(4, vi (-1))], []⟩ ?_
  refine SRun.nil ?_
  refine nx_n ?_
  refine swp_ret ?_
  replace h := Option.some.inj h
  subst h
  exact nx_r (q_fr (fin1 (by kernel_rfl) (finV rfl SV.flat_of (holds_t (by kernel_rfl)))))
  replace h := cond_f hb h
  refine swp_skip ?_
  refine nx_n ?_
  refine swp_seq ?_
  refine swp_seq ?_
  refine swp_reg ?_
  refine SRun.ck tbok 1 ⟨27, [(0, vl eSite aA), (1, vi (w64 (aLeft - (aA.length : Int)))), (5, vi 0)], []⟩ ?_
  refine SRun.nil ?_
  refine nx_n ?_
  refine swp_seqE (r := r) h (fun j1 => ⟨27, [(1, vi j1)], []⟩) (fun v2 h => ?_) (fun j1 h => ?_)
  refine swp_blk (a := v2) ?_
  refine swp_lpL (r := v2) (s := (0, (w64 (aLeft - (aA.length : Int))))) _ (fun s3 => ⟨27, [(0, vl eSite aA), (1, vi s3.2), (5, vi s3.1)], []⟩) _ (Le.sub0) h (fun s3 v4 h => ?_)
  refine swp_seq ?_
  refine swp_seq ?_
  refine swp_reg ?_
  refine SRun.ck tbok 4 ⟨27, [(0, vl eSite aA), (1, vi s3.2), (5, vi s3.1), (15, vb (decide (s3.1 < (aA.length : Int))))], []⟩ ?_
  refine SRun.nil ?_
  refine nx_n ?_
  refine swp_cond (b := (decide (s3.1 < (aA.length : Int)))) (by kernel_rfl) (fun hb => ?_) (fun hb => ?_)
  replace h := cond_t hb h
  refine swp_skip ?_
  refine nx_n ?_
  refine swp_seq ?_
  refine swp_seqL (r := v4) h (fun j5 => ⟨27, [(0, vl eSite aA), (1, vi j5), (5, vi s3.1)], []⟩) (fun v6 h => ?_) (fun j5 h => ?_)
  refine swp_blk (a := v6) ?_
  refine swp_seq ?_
  refine swp_reg ?_
  refine SRun.ck tbok 2 ⟨27, [(0, vl eSite aA), (1, vi s3.2), (5, vi s3.1), (18, vl eSite aA), (19, vi s3.1)], []⟩ ?_
  obtain ⟨x7, hx7, h⟩ := bind_some h
  refine SRun.ls (x_index (L := aA) (f := eSite) (ti := ti23) (tj := ti52) (e := 52) (k := .i64) tbok rfl hx7) ?_
  refine SRun.ck tbok 2 ⟨27, [(0, vl eSite aA), (5, vi s3.1), (21, .agg [vs x7.Code, vi x7.At.X, vi x7.At.Y]), (22, vi s3.2)], []⟩ ?_
  obtain ⟨x8, hx8, h⟩ := bind_some h
  refine SRun.ls (x_lstep_call (f := 20) (caps := []) (xs := [.agg [vs x7.Code, vi x7.At.X, vi x7.At.Y], vi s3.2]) (ys := [.agg [vs x7.Code, vi x7.At.X, vi x7.At.Y], vi s3.2]) (res := ⟨[.v (vi x8)], [], false⟩) (x := vi x8) (y := none) rfl ents20 (laws_szSite_run x7 s3.2 _ hx8) rfl (by intro hc; cases hc)) ?_
  refine SRun.ck tbok 1 ⟨27, [(0, vl eSite aA), (1, vi x8), (5, vi s3.1)], []⟩ ?_
  refine SRun.nil ?_
  refine nx_n ?_
  refine swp_seq ?_
  refine swp_reg ?_
  refine SRun.ck tbok 2 ⟨27, [(0, vl eSite aA), (1, vi x8), (5, vi s3.1), (25, vb (decide (x8 < 0)))], []⟩ ?_
  refine SRun.nil ?_
  refine nx_n ?_
  refine swp_cond (b := (decide (x8 < 0))) (by kernel_rfl) (fun hb => ?_) (fun hb => ?_)
  replace h := cond_t hb h
  refine swp_seq ?_
  refine swp_reg ?_
  refine SRun.ck tbok 1 ⟨27, [(4, vi (-1))], []⟩ ?_
  refine SRun.nil ?_
  refine nx_n ?_
  refine swp_ret ?_
  replace h := Option.some.inj h
  subst h
  exact q_br (q_rr (q_rr (q_br (q_rr (q_fr (fin1 (by kernel_rfl) (finV rfl SV.flat_of (holds_t (by kernel_rfl)))))))))
  replace h := cond_f hb h
  refine swp_skip ?_
  replace h := Option.some.inj h
  subst h
  exact q_bn (q_l (Le.sub0))
  refine swp_reg ?_
  refine SRun.ck tbok 3 ⟨27, [(0, vl eSite aA), (1, vi j5), (5, vi (w64 (s3.1 + 1)))], []⟩ ?_
  refine SRun.nil ?_
  replace h := Option.some.inj h
  subst h
  exact q_l (Le.sub0)
  replace h := cond_f hb h
  refine swp_exit ?_
  replace h := Option.some.inj h
  subst h
  exact nx_e (q_re (q_bh (q_l (Le.sub0))))
  refine swp_seq ?_
  refine swp_reg ?_
  refine SRun.ck tbok 2 ⟨27, [(4, vi j1)], []⟩ ?_
  refine SRun.nil ?_
  refine nx_n ?_
  refine swp_ret ?_
  replace h := Option.some.inj h
  subst h
  exact q_fr (fin1 (by kernel_rfl) (finV rfl SV.flat_of (holds_t (by kernel_rfl))))
theorem ents10 : Ents Tryd.prog 10 := ents_of Tryd.func10 (by kernel_rfl) rfl
noncomputable def laws_szDesk (aA : Desk) (aLeft : Int) : Option (Int) :=
  ((laws_szClaimS aA.Claims aLeft).bind fun x1 => (bif (decide (x1 < 0)) then some (-1) else ((laws_szSiteS aA.Sites x1).bind fun x2 => (bif (decide (x2 < 0)) then some (-1) else some x2))))
set_option maxRecDepth 100000 in
set_option maxHeartbeats 4000000 in
theorem laws_szDesk_run (aA : Desk) (aLeft : Int) (r : Int) (h : laws_szDesk aA aLeft = some r) : SCall Tryd.prog 4 [.v (.agg [vl eClaim aA.Claims, vl eSite aA.Sites]), .v (vi aLeft)] ⟨[.v (vi r)], [], false⟩ := by
  refine scall_in Tryd.func4 rfl [(.tmp 4)] rfl (fun r => ⟨[.v (vi r)], [], false⟩) (r := r) ?_
  unfold laws_szDesk at h
  refine swp_seq ?_
  refine swp_reg ?_
  refine SRun.ck tbok 2 ⟨18, [(1, vi aLeft), (2, .ref 2 0)], [(2, .box [vl eClaim aA.Claims, vl eSite aA.Sites])]⟩ ?_
  refine SRun.nil ?_
  refine nx_n ?_
  refine swp_seq ?_
  refine swp_reg ?_
  refine SRun.ck tbok 3 ⟨18, [(2, .ref 2 0), (6, vl eClaim aA.Claims), (7, vi aLeft)], [(2, .box [vl eClaim aA.Claims, vl eSite aA.Sites])]⟩ ?_
  obtain ⟨x1, hx1, h⟩ := bind_some h
  refine SRun.ls (x_lstep_call (f := 9) (caps := []) (xs := [vl eClaim aA.Claims, vi aLeft]) (ys := [vl eClaim aA.Claims, vi aLeft]) (res := ⟨[.v (vi x1)], [], false⟩) (x := vi x1) (y := none) rfl ents9 (laws_szClaimS_run aA.Claims aLeft _ hx1) rfl (by intro hc; cases hc)) ?_
  refine SRun.ck tbok 1 ⟨18, [(1, vi x1), (2, .ref 2 0)], [(2, .box [vl eClaim aA.Claims, vl eSite aA.Sites])]⟩ ?_
  refine SRun.nil ?_
  refine nx_n ?_
  refine swp_seq ?_
  refine swp_seq ?_
  refine swp_reg ?_
  refine SRun.ck tbok 2 ⟨18, [(1, vi x1), (2, .ref 2 0), (10, vb (decide (x1 < 0)))], [(2, .box [vl eClaim aA.Claims, vl eSite aA.Sites])]⟩ ?_
  refine SRun.nil ?_
  refine nx_n ?_
  refine swp_cond (b := (decide (x1 < 0))) (by kernel_rfl) (fun hb => ?_) (fun hb => ?_)
  replace h := cond_t hb h
  refine swp_seq ?_
  refine swp_reg ?_
  refine SRun.ck tbok 1 ⟨18, [(4, vi (-1))], []⟩ ?_
  refine SRun.nil ?_
  refine nx_n ?_
  refine swp_ret ?_
  replace h := Option.some.inj h
  subst h
  exact nx_r (q_fr (fin1 (by kernel_rfl) (finV rfl SV.flat_of (holds_t (by kernel_rfl)))))
  replace h := cond_f hb h
  refine swp_skip ?_
  refine nx_n ?_
  refine swp_seq ?_
  refine swp_reg ?_
  refine SRun.ck tbok 3 ⟨18, [(12, vl eSite aA.Sites), (13, vi x1)], []⟩ ?_
  obtain ⟨x2, hx2, h⟩ := bind_some h
  refine SRun.ls (x_lstep_call (f := 10) (caps := []) (xs := [vl eSite aA.Sites, vi x1]) (ys := [vl eSite aA.Sites, vi x1]) (res := ⟨[.v (vi x2)], [], false⟩) (x := vi x2) (y := none) rfl ents10 (laws_szSiteS_run aA.Sites x1 _ hx2) rfl (by intro hc; cases hc)) ?_
  refine SRun.ck tbok 1 ⟨18, [(1, vi x2)], []⟩ ?_
  refine SRun.nil ?_
  refine nx_n ?_
  refine swp_seq ?_
  refine swp_seq ?_
  refine swp_reg ?_
  refine SRun.ck tbok 2 ⟨18, [(1, vi x2), (16, vb (decide (x2 < 0)))], []⟩ ?_
  refine SRun.nil ?_
  refine nx_n ?_
  refine swp_cond (b := (decide (x2 < 0))) (by kernel_rfl) (fun hb => ?_) (fun hb => ?_)
  replace h := cond_t hb h
  refine swp_seq ?_
  refine swp_reg ?_
  refine SRun.ck tbok 1 ⟨18, [(4, vi (-1))], []⟩ ?_
  refine SRun.nil ?_
  refine nx_n ?_
  refine swp_ret ?_
  replace h := Option.some.inj h
  subst h
  exact nx_r (q_fr (fin1 (by kernel_rfl) (finV rfl SV.flat_of (holds_t (by kernel_rfl)))))
  replace h := cond_f hb h
  refine swp_skip ?_
  refine nx_n ?_
  refine swp_seq ?_
  refine swp_reg ?_
  refine SRun.ck tbok 2 ⟨18, [(4, vi x2)], []⟩ ?_
  refine SRun.nil ?_
  refine nx_n ?_
  refine swp_ret ?_
  replace h := Option.some.inj h
  subst h
  exact q_fr (fin1 (by kernel_rfl) (finV rfl SV.flat_of (holds_t (by kernel_rfl))))
theorem ents4 : Ents Tryd.prog 4 := ents_of Tryd.func4 (by kernel_rfl) rfl
noncomputable def laws_toSpan (aA : Span) : Option (Span) :=
  some aA
set_option maxRecDepth 100000 in
set_option maxHeartbeats 4000000 in
theorem laws_toSpan_run (aA : Span) (r : Span) (h : laws_toSpan aA = some r) : SCall Tryd.prog 38 [.v (.agg [vi aA.From, vi aA.To])] ⟨[.v (.agg [vi r.From, vi r.To])], [], false⟩ := by
  refine scall_in Tryd.func38 rfl [(.cell 2 54)] rfl (fun r => ⟨[.v (.agg [vi r.From, vi r.To])], [], false⟩) (r := r) ?_
  unfold laws_toSpan at h
  refine swp_seq ?_
  refine swp_reg ?_
  refine SRun.ck tbok 2 ⟨11, [(1, .ref 1 0), (2, .ref 2 0)], [(1, .box [vi aA.From, vi aA.To]), (2, .box [vi 0, vi 0])]⟩ ?_
  refine SRun.nil ?_
  refine nx_n ?_
  refine swp_seq ?_
  refine swp_reg ?_
  refine SRun.ck tbok 1 ⟨11, [(1, .ref 1 0), (2, .ref 2 0), (3, .ref 3 0)], [(1, .box [vi aA.From, vi aA.To]), (2, .box [vi 0, vi 0]), (3, .box [vi 0, vi 0])]⟩ ?_
  refine SRun.nil ?_
  refine nx_n ?_
  refine swp_seq ?_
  refine swp_reg ?_
  refine SRun.ck tbok 3 ⟨11, [(1, .ref 1 0), (2, .ref 2 0), (3, .ref 3 0), (5, vi aA.From), (6, .ref 3 0)], [(1, .box [vi aA.From, vi aA.To]), (2, .box [vi 0, vi 0]), (3, .box [vi 0, vi 0])]⟩ ?_
  refine SRun.estep (x_estep_store (d := 3) (k := 0) (ti := ti2) (cs := [vi 0, vi 0]) (vs := [vi aA.From]) (v := vi aA.From) tbok rfl rfl) ?_
  refine SRun.nil ?_
  refine nx_n ?_
  refine swp_seq ?_
  refine swp_reg ?_
  refine SRun.ck tbok 3 ⟨11, [(2, .ref 2 0), (3, .ref 3 0), (8, vi aA.To), (9, .ref 3 1)], [(2, .box [vi 0, vi 0]), (3, .box [vi aA.From, vi 0])]⟩ ?_
  refine SRun.estep (x_estep_store (d := 3) (k := 1) (ti := ti2) (cs := [vi aA.From, vi 0]) (vs := [vi aA.To]) (v := vi aA.To) tbok rfl rfl) ?_
  refine SRun.nil ?_
  refine nx_n ?_
  refine swp_seq ?_
  refine swp_reg ?_
  refine SRun.ck tbok 1 ⟨11, [(2, .ref 2 0), (10, .agg [vi aA.From, vi aA.To])], [(2, .box [vi 0, vi 0])]⟩ ?_
  refine SRun.estep (x_estep_store (d := 2) (k := 0) (ti := ti54) (cs := [vi 0, vi 0]) (vs := [vi aA.From, vi aA.To]) (v := .agg [vi aA.From, vi aA.To]) tbok rfl rfl) ?_
  refine SRun.nil ?_
  refine nx_n ?_
  refine swp_ret ?_
  replace h := Option.some.inj h
  subst h
  exact q_fr (fin1 (by kernel_rfl) (finV rfl SV.flat_of (holds_c tbok (d := 2) (cs := [vi aA.From, vi aA.To]) (ti := ti54) (by kernel_rfl) (by kernel_rfl) (by kernel_rfl) (by kernel_rfl))))
theorem ents38 : Ents Tryd.prog 38 := ents_of Tryd.func38 (by kernel_rfl) rfl
noncomputable def laws_toClaim (aA : Claim) : Option (Claim) :=
  ((laws_toSpan aA.Years).bind fun x1 => some (Claim.mk aA.Source aA.Kind aA.Place aA.Value x1 aA.Weight))
set_option maxRecDepth 100000 in
set_option maxHeartbeats 4000000 in
theorem laws_toClaim_run (aA : Claim) (r : Claim) (h : laws_toClaim aA = some r) : SCall Tryd.prog 24 [.v (.agg [vs aA.Source, vi aA.Kind, vs aA.Place, vs aA.Value, vi aA.Years.From, vi aA.Years.To, vi aA.Weight])] ⟨[.v (.agg [vs r.Source, vi r.Kind, vs r.Place, vs r.Value, vi r.Years.From, vi r.Years.To, vi r.Weight])], [], false⟩ := by
  refine scall_in Tryd.func24 rfl [(.cell 2 56)] rfl (fun r => ⟨[.v (.agg [vs r.Source, vi r.Kind, vs r.Place, vs r.Value, vi r.Years.From, vi r.Years.To, vi r.Weight])], [], false⟩) (r := r) ?_
  unfold laws_toClaim at h
  refine swp_seq ?_
  refine swp_reg ?_
  refine SRun.ck tbok 2 ⟨24, [(1, .ref 1 0), (2, .ref 2 0)], [(1, .box [vs aA.Source, vi aA.Kind, vs aA.Place, vs aA.Value, vi aA.Years.From, vi aA.Years.To, vi aA.Weight]), (2, .box [vs (ByteArray.mk #[]), vi 0, vs (ByteArray.mk #[]), vs (ByteArray.mk #[]), vi 0, vi 0, vi 0])]⟩ ?_
  refine SRun.nil ?_
  refine nx_n ?_
  refine swp_seq ?_
  refine swp_reg ?_
  refine SRun.ck tbok 1 ⟨24, [(1, .ref 1 0), (2, .ref 2 0), (3, .ref 3 0)], [(1, .box [vs aA.Source, vi aA.Kind, vs aA.Place, vs aA.Value, vi aA.Years.From, vi aA.Years.To, vi aA.Weight]), (2, .box [vs (ByteArray.mk #[]), vi 0, vs (ByteArray.mk #[]), vs (ByteArray.mk #[]), vi 0, vi 0, vi 0]), (3, .box [vs (ByteArray.mk #[]), vi 0, vs (ByteArray.mk #[]), vs (ByteArray.mk #[]), vi 0, vi 0, vi 0])]⟩ ?_
  refine SRun.nil ?_
  refine nx_n ?_
  refine swp_seq ?_
  refine swp_reg ?_
  refine SRun.ck tbok 3 ⟨24, [(1, .ref 1 0), (2, .ref 2 0), (3, .ref 3 0), (5, vs aA.Source), (6, .ref 3 0)], [(1, .box [vs aA.Source, vi aA.Kind, vs aA.Place, vs aA.Value, vi aA.Years.From, vi aA.Years.To, vi aA.Weight]), (2, .box [vs (ByteArray.mk #[]), vi 0, vs (ByteArray.mk #[]), vs (ByteArray.mk #[]), vi 0, vi 0, vi 0]), (3, .box [vs (ByteArray.mk #[]), vi 0, vs (ByteArray.mk #[]), vs (ByteArray.mk #[]), vi 0, vi 0, vi 0])]⟩ ?_
  refine SRun.estep (x_estep_store (d := 3) (k := 0) (ti := ti9) (cs := [vs (ByteArray.mk #[]), vi 0, vs (ByteArray.mk #[]), vs (ByteArray.mk #[]), vi 0, vi 0, vi 0]) (vs := [vs aA.Source]) (v := vs aA.Source) tbok rfl rfl) ?_
  refine SRun.nil ?_
  refine nx_n ?_
  refine swp_seq ?_
  refine swp_reg ?_
  refine SRun.ck tbok 3 ⟨24, [(1, .ref 1 0), (2, .ref 2 0), (3, .ref 3 0), (8, vi aA.Kind), (9, .ref 3 1)], [(1, .box [vs aA.Source, vi aA.Kind, vs aA.Place, vs aA.Value, vi aA.Years.From, vi aA.Years.To, vi aA.Weight]), (2, .box [vs (ByteArray.mk #[]), vi 0, vs (ByteArray.mk #[]), vs (ByteArray.mk #[]), vi 0, vi 0, vi 0]), (3, .box [vs aA.Source, vi 0, vs (ByteArray.mk #[]), vs (ByteArray.mk #[]), vi 0, vi 0, vi 0])]⟩ ?_
  refine SRun.estep (x_estep_store (d := 3) (k := 1) (ti := ti2) (cs := [vs aA.Source, vi 0, vs (ByteArray.mk #[]), vs (ByteArray.mk #[]), vi 0, vi 0, vi 0]) (vs := [vi aA.Kind]) (v := vi aA.Kind) tbok rfl rfl) ?_
  refine SRun.nil ?_
  refine nx_n ?_
  refine swp_seq ?_
  refine swp_reg ?_
  refine SRun.ck tbok 3 ⟨24, [(1, .ref 1 0), (2, .ref 2 0), (3, .ref 3 0), (11, vs aA.Place), (12, .ref 3 2)], [(1, .box [vs aA.Source, vi aA.Kind, vs aA.Place, vs aA.Value, vi aA.Years.From, vi aA.Years.To, vi aA.Weight]), (2, .box [vs (ByteArray.mk #[]), vi 0, vs (ByteArray.mk #[]), vs (ByteArray.mk #[]), vi 0, vi 0, vi 0]), (3, .box [vs aA.Source, vi aA.Kind, vs (ByteArray.mk #[]), vs (ByteArray.mk #[]), vi 0, vi 0, vi 0])]⟩ ?_
  refine SRun.estep (x_estep_store (d := 3) (k := 2) (ti := ti9) (cs := [vs aA.Source, vi aA.Kind, vs (ByteArray.mk #[]), vs (ByteArray.mk #[]), vi 0, vi 0, vi 0]) (vs := [vs aA.Place]) (v := vs aA.Place) tbok rfl rfl) ?_
  refine SRun.nil ?_
  refine nx_n ?_
  refine swp_seq ?_
  refine swp_reg ?_
  refine SRun.ck tbok 3 ⟨24, [(1, .ref 1 0), (2, .ref 2 0), (3, .ref 3 0), (14, vs aA.Value), (15, .ref 3 3)], [(1, .box [vs aA.Source, vi aA.Kind, vs aA.Place, vs aA.Value, vi aA.Years.From, vi aA.Years.To, vi aA.Weight]), (2, .box [vs (ByteArray.mk #[]), vi 0, vs (ByteArray.mk #[]), vs (ByteArray.mk #[]), vi 0, vi 0, vi 0]), (3, .box [vs aA.Source, vi aA.Kind, vs aA.Place, vs (ByteArray.mk #[]), vi 0, vi 0, vi 0])]⟩ ?_
  refine SRun.estep (x_estep_store (d := 3) (k := 3) (ti := ti9) (cs := [vs aA.Source, vi aA.Kind, vs aA.Place, vs (ByteArray.mk #[]), vi 0, vi 0, vi 0]) (vs := [vs aA.Value]) (v := vs aA.Value) tbok rfl rfl) ?_
  refine SRun.nil ?_
  refine nx_n ?_
  refine swp_seq ?_
  refine swp_reg ?_
  refine SRun.ck tbok 2 ⟨24, [(1, .ref 1 0), (2, .ref 2 0), (3, .ref 3 0), (17, .agg [vi aA.Years.From, vi aA.Years.To])], [(1, .box [vs aA.Source, vi aA.Kind, vs aA.Place, vs aA.Value, vi aA.Years.From, vi aA.Years.To, vi aA.Weight]), (2, .box [vs (ByteArray.mk #[]), vi 0, vs (ByteArray.mk #[]), vs (ByteArray.mk #[]), vi 0, vi 0, vi 0]), (3, .box [vs aA.Source, vi aA.Kind, vs aA.Place, vs aA.Value, vi 0, vi 0, vi 0])]⟩ ?_
  obtain ⟨x1, hx1, h⟩ := bind_some h
  refine SRun.ls (x_lstep_call (f := 38) (caps := []) (xs := [.agg [vi aA.Years.From, vi aA.Years.To]]) (ys := [.agg [vi aA.Years.From, vi aA.Years.To]]) (res := ⟨[.v (.agg [vi x1.From, vi x1.To])], [], false⟩) (x := .agg [vi x1.From, vi x1.To]) (y := none) rfl ents38 (laws_toSpan_run aA.Years _ hx1) rfl (by intro hc; cases hc)) ?_
  refine SRun.ck tbok 1 ⟨24, [(1, .ref 1 0), (2, .ref 2 0), (3, .ref 3 0), (18, .agg [vi x1.From, vi x1.To]), (19, .ref 3 4)], [(1, .box [vs aA.Source, vi aA.Kind, vs aA.Place, vs aA.Value, vi aA.Years.From, vi aA.Years.To, vi aA.Weight]), (2, .box [vs (ByteArray.mk #[]), vi 0, vs (ByteArray.mk #[]), vs (ByteArray.mk #[]), vi 0, vi 0, vi 0]), (3, .box [vs aA.Source, vi aA.Kind, vs aA.Place, vs aA.Value, vi 0, vi 0, vi 0])]⟩ ?_
  refine SRun.estep (x_estep_store (d := 3) (k := 4) (ti := ti54) (cs := [vs aA.Source, vi aA.Kind, vs aA.Place, vs aA.Value, vi 0, vi 0, vi 0]) (vs := [vi x1.From, vi x1.To]) (v := .agg [vi x1.From, vi x1.To]) tbok rfl rfl) ?_
  refine SRun.nil ?_
  refine nx_n ?_
  refine swp_seq ?_
  refine swp_reg ?_
  refine SRun.ck tbok 3 ⟨24, [(2, .ref 2 0), (3, .ref 3 0), (21, vi aA.Weight), (22, .ref 3 6)], [(2, .box [vs (ByteArray.mk #[]), vi 0, vs (ByteArray.mk #[]), vs (ByteArray.mk #[]), vi 0, vi 0, vi 0]), (3, .box [vs aA.Source, vi aA.Kind, vs aA.Place, vs aA.Value, vi x1.From, vi x1.To, vi 0])]⟩ ?_
  refine SRun.estep (x_estep_store (d := 3) (k := 6) (ti := ti2) (cs := [vs aA.Source, vi aA.Kind, vs aA.Place, vs aA.Value, vi x1.From, vi x1.To, vi 0]) (vs := [vi aA.Weight]) (v := vi aA.Weight) tbok rfl rfl) ?_
  refine SRun.nil ?_
  refine nx_n ?_
  refine swp_seq ?_
  refine swp_reg ?_
  refine SRun.ck tbok 1 ⟨24, [(2, .ref 2 0), (23, .agg [vs aA.Source, vi aA.Kind, vs aA.Place, vs aA.Value, vi x1.From, vi x1.To, vi aA.Weight])], [(2, .box [vs (ByteArray.mk #[]), vi 0, vs (ByteArray.mk #[]), vs (ByteArray.mk #[]), vi 0, vi 0, vi 0])]⟩ ?_
  refine SRun.estep (x_estep_store (d := 2) (k := 0) (ti := ti56) (cs := [vs (ByteArray.mk #[]), vi 0, vs (ByteArray.mk #[]), vs (ByteArray.mk #[]), vi 0, vi 0, vi 0]) (vs := [vs aA.Source, vi aA.Kind, vs aA.Place, vs aA.Value, vi x1.From, vi x1.To, vi aA.Weight]) (v := .agg [vs aA.Source, vi aA.Kind, vs aA.Place, vs aA.Value, vi x1.From, vi x1.To, vi aA.Weight]) tbok rfl rfl) ?_
  refine SRun.nil ?_
  refine nx_n ?_
  refine swp_ret ?_
  replace h := Option.some.inj h
  subst h
  exact q_fr (fin1 (by kernel_rfl) (finV rfl SV.flat_of (holds_c tbok (d := 2) (cs := [vs aA.Source, vi aA.Kind, vs aA.Place, vs aA.Value, vi x1.From, vi x1.To, vi aA.Weight]) (ti := ti56) (by kernel_rfl) (by kernel_rfl) (by kernel_rfl) (by kernel_rfl))))
theorem ents24 : Ents Tryd.prog 24 := ents_of Tryd.func24 (by kernel_rfl) rfl
noncomputable def laws_toClaimS (aA : (List Claim)) : Option ((List Claim)) :=
  ((make' (Claim.mk (ByteArray.mk #[]) 0 (ByteArray.mk #[]) (ByteArray.mk #[]) (Span.mk 0 0) 0) (aA.length : Int)).bind fun x1 => (((forS (aA.length : Int) (fun (i4 : Int) (s4 : (List Claim)) => ((at' aA i4).bind fun x8 => ((laws_toClaim x8).bind fun x9 => ((at' s4 i4).bind fun _ => some (List.set s4 (Int.toNat i4) x9))))) (fun (s4 : (List Claim)) => s4) 0 x1)).bind fun (j2 : (List Claim)) => some j2))
set_option maxRecDepth 100000 in
set_option maxHeartbeats 4000000 in
theorem laws_toClaimS_run (aA : (List Claim)) (r : (List Claim)) (h : laws_toClaimS aA = some r) : SCall Tryd.prog 13 [.v (vl eClaim aA)] ⟨[.own 56 7 r.length (r.map eClaim)], [], false⟩ := by
  refine scall_in Tryd.func13 rfl [(.tmp 2)] rfl (fun r => ⟨[.own 56 7 r.length (r.map eClaim)], [], false⟩) (r := r) ?_
  unfold laws_toClaimS at h
  refine swp_seq ?_
  refine swp_reg ?_
  refine SRun.ck tbok 1 ⟨23, [(0, vl eClaim aA)], []⟩ ?_
  refine SRun.nil ?_
  refine nx_n ?_
  refine swp_seq ?_
  refine swp_reg ?_
  refine SRun.ck tbok 2 ⟨23, [(0, vl eClaim aA), (6, vi (aA.length : Int))], []⟩ ?_
  obtain ⟨x1, hx1, h⟩ := bind_some h
  refine SRun.ls (x_make (z := (Claim.mk (ByteArray.mk #[]) 0 (ByteArray.mk #[]) (ByteArray.mk #[]) (Span.mk 0 0) 0)) (f := eClaim) (ti := ti28) (tj := ti56) (e := 56) (m := 7) (k := .i64) (k' := .i64) hx1 tbok rfl rfl (zs := [.string (ByteArray.mk #[]), .int .i64 0, .string (ByteArray.mk #[]), .string (ByteArray.mk #[]), .int .i64 0, .int .i64 0, .int .i64 0])) ?_
  refine SRun.ck tbok 1 ⟨23, [(0, vl eClaim aA), (3, .own 7)], [(7, .arr 56 7 x1.length (x1.map eClaim))]⟩ ?_
  refine SRun.nil ?_
  refine nx_n ?_
  refine swp_seq ?_
  refine swp_seq ?_
  refine swp_reg ?_
  refine SRun.ck tbok 1 ⟨23, [(0, vl eClaim aA), (3, .own 7), (4, vi 0)], [(7, .arr 56 7 x1.length (x1.map eClaim))]⟩ ?_
  refine SRun.nil ?_
  refine nx_n ?_
  refine swp_seqJ h (fun j2 => ⟨23, [(3, .own 3)], [(3, .arr 56 7 j2.length (j2.map eClaim))]⟩) (fun v3 h => ?_) (fun j2 h => ?_)
  refine swp_blk (a := v3) ?_
  refine swp_lpL (r := v3) (s := (0, x1)) _ (fun s4 => ⟨23, [(0, vl eClaim aA), (3, .own 3), (4, vi s4.1)], [(3, .arr 56 7 s4.2.length (s4.2.map eClaim))]⟩) _ ((Le.sub' ([(0, vl eClaim aA), (3, .own 7), (4, vi 0)] : List (Nat × SV)) ([(7, .arr 56 7 x1.length (x1.map eClaim))] : List (Nat × SO)) (by kernel_rfl) (by kernel_rfl)).trans ((Le.ren' (d := 7) (e := 3) (by kernel_rfl) (by kernel_rfl) (by kernel_rfl)).trans (Le.sub0))) h (fun s4 v5 h => ?_)
  refine swp_seq ?_
  refine swp_seq ?_
  refine swp_reg ?_
  refine SRun.ck tbok 4 ⟨23, [(0, vl eClaim aA), (3, .own 3), (4, vi s4.1), (11, vb (decide (s4.1 < (aA.length : Int))))], [(3, .arr 56 7 s4.2.length (s4.2.map eClaim))]⟩ ?_
  refine SRun.nil ?_
  refine nx_n ?_
  refine swp_cond (b := (decide (s4.1 < (aA.length : Int)))) (by kernel_rfl) (fun hb => ?_) (fun hb => ?_)
  replace h := cond_t hb h
  refine swp_skip ?_
  refine nx_n ?_
  refine swp_seq ?_
  refine swp_seqJ h (fun j6 => ⟨23, [(0, vl eClaim aA), (3, .own 3), (4, vi s4.1)], [(3, .arr 56 7 j6.length (j6.map eClaim))]⟩) (fun v7 h => ?_) (fun j6 h => ?_)
  refine swp_blk (a := v7) ?_
  refine swp_reg ?_
  refine SRun.ck tbok 4 ⟨23, [(0, vl eClaim aA), (3, .own 3), (4, vi s4.1), (14, .own 3), (15, vi s4.1), (16, vl eClaim aA), (17, vi s4.1)], [(3, .arr 56 7 s4.2.length (s4.2.map eClaim))]⟩ ?_
  obtain ⟨x8, hx8, h⟩ := bind_some h
  refine SRun.ls (x_index (L := aA) (f := eClaim) (ti := ti22) (tj := ti47) (e := 47) (k := .i64) tbok rfl hx8) ?_
  refine SRun.ck tbok 1 ⟨23, [(0, vl eClaim aA), (3, .own 3), (4, vi s4.1), (14, .own 3), (15, vi s4.1), (19, .agg [vs x8.Source, vi x8.Kind, vs x8.Place, vs x8.Value, vi x8.Years.From, vi x8.Years.To, vi x8.Weight])], [(3, .arr 56 7 s4.2.length (s4.2.map eClaim))]⟩ ?_
  obtain ⟨x9, hx9, h⟩ := bind_some h
  refine SRun.ls (x_lstep_call (f := 24) (caps := []) (xs := [.agg [vs x8.Source, vi x8.Kind, vs x8.Place, vs x8.Value, vi x8.Years.From, vi x8.Years.To, vi x8.Weight]]) (ys := [.agg [vs x8.Source, vi x8.Kind, vs x8.Place, vs x8.Value, vi x8.Years.From, vi x8.Years.To, vi x8.Weight]]) (res := ⟨[.v (.agg [vs x9.Source, vi x9.Kind, vs x9.Place, vs x9.Value, vi x9.Years.From, vi x9.Years.To, vi x9.Weight])], [], false⟩) (x := .agg [vs x9.Source, vi x9.Kind, vs x9.Place, vs x9.Value, vi x9.Years.From, vi x9.Years.To, vi x9.Weight]) (y := none) rfl ents24 (laws_toClaim_run x8 _ hx9) rfl (by intro hc; cases hc)) ?_
  obtain ⟨x10, hx10, h⟩ := bind_some h
  refine SRun.ls (x_index_own (d := 3) (L := s4.2) (f := eClaim) (ti := ti28) (tj := ti56) (e := 56) (e' := 56) (m := 7) (k := .i64) tbok rfl hx10) ?_
  refine SRun.estep (x_store_own (d := 3) (m := 7) (j := 0) (L := s4.2) (f := eClaim) (x := x9) (z := x10) (ti := ti56) (e := 56) (ts := [.str x9.Source, .int .i64 x9.Kind, .str x9.Place, .str x9.Value, .int .i64 x9.Years.From, .int .i64 x9.Years.To, .int .i64 x9.Weight]) (vs := [vs x9.Source, vi x9.Kind, vs x9.Place, vs x9.Value, vi x9.Years.From, vi x9.Years.To, vi x9.Weight]) (v := .agg [vs x9.Source, vi x9.Kind, vs x9.Place, vs x9.Value, vi x9.Years.From, vi x9.Years.To, vi x9.Weight]) tbok rfl rfl hx10) ?_
  refine SRun.nil ?_
  replace h := Option.some.inj h
  subst h
  exact q_bn (q_j (Le.sub0))
  refine swp_reg ?_
  refine SRun.ck tbok 3 ⟨23, [(0, vl eClaim aA), (3, .own 3), (4, vi (w64 (s4.1 + 1)))], [(3, .arr 56 7 j6.length (j6.map eClaim))]⟩ ?_
  refine SRun.nil ?_
  replace h := Option.some.inj h
  subst h
  exact q_l (Le.sub0)
  replace h := cond_f hb h
  refine swp_exit ?_
  replace h := Option.some.inj h
  subst h
  exact nx_e (q_re (q_bh (q_j (Le.sub0))))
  refine swp_seq ?_
  refine swp_reg ?_
  refine SRun.ck tbok 2 ⟨23, [(2, .own 3)], [(3, .arr 56 7 j2.length (j2.map eClaim))]⟩ ?_
  refine SRun.nil ?_
  refine nx_n ?_
  refine swp_ret ?_
  replace h := Option.some.inj h
  subst h
  exact q_fr (fin1 (by kernel_rfl) (finO (d := 3) (holds_t (by kernel_rfl)) (by kernel_rfl) (flat_map eClaim_flat _) (by kernel_rfl)))
theorem ents13 : Ents Tryd.prog 13 := ents_of Tryd.func13 (by kernel_rfl) rfl
noncomputable def laws_toPoint (aA : Point) : Option (Point) :=
  some aA
set_option maxRecDepth 100000 in
set_option maxHeartbeats 4000000 in
theorem laws_toPoint_run (aA : Point) (r : Point) (h : laws_toPoint aA = some r) : SCall Tryd.prog 39 [.v (.agg [vi aA.X, vi aA.Y])] ⟨[.v (.agg [vi r.X, vi r.Y])], [], false⟩ := by
  refine scall_in Tryd.func39 rfl [(.cell 2 58)] rfl (fun r => ⟨[.v (.agg [vi r.X, vi r.Y])], [], false⟩) (r := r) ?_
  unfold laws_toPoint at h
  refine swp_seq ?_
  refine swp_reg ?_
  refine SRun.ck tbok 2 ⟨11, [(1, .ref 1 0), (2, .ref 2 0)], [(1, .box [vi aA.X, vi aA.Y]), (2, .box [vi 0, vi 0])]⟩ ?_
  refine SRun.nil ?_
  refine nx_n ?_
  refine swp_seq ?_
  refine swp_reg ?_
  refine SRun.ck tbok 1 ⟨11, [(1, .ref 1 0), (2, .ref 2 0), (3, .ref 3 0)], [(1, .box [vi aA.X, vi aA.Y]), (2, .box [vi 0, vi 0]), (3, .box [vi 0, vi 0])]⟩ ?_
  refine SRun.nil ?_
  refine nx_n ?_
  refine swp_seq ?_
  refine swp_reg ?_
  refine SRun.ck tbok 3 ⟨11, [(1, .ref 1 0), (2, .ref 2 0), (3, .ref 3 0), (5, vi aA.X), (6, .ref 3 0)], [(1, .box [vi aA.X, vi aA.Y]), (2, .box [vi 0, vi 0]), (3, .box [vi 0, vi 0])]⟩ ?_
  refine SRun.estep (x_estep_store (d := 3) (k := 0) (ti := ti2) (cs := [vi 0, vi 0]) (vs := [vi aA.X]) (v := vi aA.X) tbok rfl rfl) ?_
  refine SRun.nil ?_
  refine nx_n ?_
  refine swp_seq ?_
  refine swp_reg ?_
  refine SRun.ck tbok 3 ⟨11, [(2, .ref 2 0), (3, .ref 3 0), (8, vi aA.Y), (9, .ref 3 1)], [(2, .box [vi 0, vi 0]), (3, .box [vi aA.X, vi 0])]⟩ ?_
  refine SRun.estep (x_estep_store (d := 3) (k := 1) (ti := ti2) (cs := [vi aA.X, vi 0]) (vs := [vi aA.Y]) (v := vi aA.Y) tbok rfl rfl) ?_
  refine SRun.nil ?_
  refine nx_n ?_
  refine swp_seq ?_
  refine swp_reg ?_
  refine SRun.ck tbok 1 ⟨11, [(2, .ref 2 0), (10, .agg [vi aA.X, vi aA.Y])], [(2, .box [vi 0, vi 0])]⟩ ?_
  refine SRun.estep (x_estep_store (d := 2) (k := 0) (ti := ti58) (cs := [vi 0, vi 0]) (vs := [vi aA.X, vi aA.Y]) (v := .agg [vi aA.X, vi aA.Y]) tbok rfl rfl) ?_
  refine SRun.nil ?_
  refine nx_n ?_
  refine swp_ret ?_
  replace h := Option.some.inj h
  subst h
  exact q_fr (fin1 (by kernel_rfl) (finV rfl SV.flat_of (holds_c tbok (d := 2) (cs := [vi aA.X, vi aA.Y]) (ti := ti58) (by kernel_rfl) (by kernel_rfl) (by kernel_rfl) (by kernel_rfl))))
theorem ents39 : Ents Tryd.prog 39 := ents_of Tryd.func39 (by kernel_rfl) rfl
noncomputable def laws_toSite (aA : Site) : Option (Site) :=
  ((laws_toPoint aA.At).bind fun x1 => some (Site.mk aA.Code x1))
set_option maxRecDepth 100000 in
set_option maxHeartbeats 4000000 in
theorem laws_toSite_run (aA : Site) (r : Site) (h : laws_toSite aA = some r) : SCall Tryd.prog 25 [.v (.agg [vs aA.Code, vi aA.At.X, vi aA.At.Y])] ⟨[.v (.agg [vs r.Code, vi r.At.X, vi r.At.Y])], [], false⟩ := by
  refine scall_in Tryd.func25 rfl [(.cell 2 60)] rfl (fun r => ⟨[.v (.agg [vs r.Code, vi r.At.X, vi r.At.Y])], [], false⟩) (r := r) ?_
  unfold laws_toSite at h
  refine swp_seq ?_
  refine swp_reg ?_
  refine SRun.ck tbok 2 ⟨12, [(1, .ref 1 0), (2, .ref 2 0)], [(1, .box [vs aA.Code, vi aA.At.X, vi aA.At.Y]), (2, .box [vs (ByteArray.mk #[]), vi 0, vi 0])]⟩ ?_
  refine SRun.nil ?_
  refine nx_n ?_
  refine swp_seq ?_
  refine swp_reg ?_
  refine SRun.ck tbok 1 ⟨12, [(1, .ref 1 0), (2, .ref 2 0), (3, .ref 3 0)], [(1, .box [vs aA.Code, vi aA.At.X, vi aA.At.Y]), (2, .box [vs (ByteArray.mk #[]), vi 0, vi 0]), (3, .box [vs (ByteArray.mk #[]), vi 0, vi 0])]⟩ ?_
  refine SRun.nil ?_
  refine nx_n ?_
  refine swp_seq ?_
  refine swp_reg ?_
  refine SRun.ck tbok 3 ⟨12, [(1, .ref 1 0), (2, .ref 2 0), (3, .ref 3 0), (5, vs aA.Code), (6, .ref 3 0)], [(1, .box [vs aA.Code, vi aA.At.X, vi aA.At.Y]), (2, .box [vs (ByteArray.mk #[]), vi 0, vi 0]), (3, .box [vs (ByteArray.mk #[]), vi 0, vi 0])]⟩ ?_
  refine SRun.estep (x_estep_store (d := 3) (k := 0) (ti := ti9) (cs := [vs (ByteArray.mk #[]), vi 0, vi 0]) (vs := [vs aA.Code]) (v := vs aA.Code) tbok rfl rfl) ?_
  refine SRun.nil ?_
  refine nx_n ?_
  refine swp_seq ?_
  refine swp_reg ?_
  refine SRun.ck tbok 2 ⟨12, [(2, .ref 2 0), (3, .ref 3 0), (8, .agg [vi aA.At.X, vi aA.At.Y])], [(2, .box [vs (ByteArray.mk #[]), vi 0, vi 0]), (3, .box [vs aA.Code, vi 0, vi 0])]⟩ ?_
  obtain ⟨x1, hx1, h⟩ := bind_some h
  refine SRun.ls (x_lstep_call (f := 39) (caps := []) (xs := [.agg [vi aA.At.X, vi aA.At.Y]]) (ys := [.agg [vi aA.At.X, vi aA.At.Y]]) (res := ⟨[.v (.agg [vi x1.X, vi x1.Y])], [], false⟩) (x := .agg [vi x1.X, vi x1.Y]) (y := none) rfl ents39 (laws_toPoint_run aA.At _ hx1) rfl (by intro hc; cases hc)) ?_
  refine SRun.ck tbok 1 ⟨12, [(2, .ref 2 0), (3, .ref 3 0), (9, .agg [vi x1.X, vi x1.Y]), (10, .ref 3 1)], [(2, .box [vs (ByteArray.mk #[]), vi 0, vi 0]), (3, .box [vs aA.Code, vi 0, vi 0])]⟩ ?_
  refine SRun.estep (x_estep_store (d := 3) (k := 1) (ti := ti58) (cs := [vs aA.Code, vi 0, vi 0]) (vs := [vi x1.X, vi x1.Y]) (v := .agg [vi x1.X, vi x1.Y]) tbok rfl rfl) ?_
  refine SRun.nil ?_
  refine nx_n ?_
  refine swp_seq ?_
  refine swp_reg ?_
  refine SRun.ck tbok 1 ⟨12, [(2, .ref 2 0), (11, .agg [vs aA.Code, vi x1.X, vi x1.Y])], [(2, .box [vs (ByteArray.mk #[]), vi 0, vi 0])]⟩ ?_
  refine SRun.estep (x_estep_store (d := 2) (k := 0) (ti := ti60) (cs := [vs (ByteArray.mk #[]), vi 0, vi 0]) (vs := [vs aA.Code, vi x1.X, vi x1.Y]) (v := .agg [vs aA.Code, vi x1.X, vi x1.Y]) tbok rfl rfl) ?_
  refine SRun.nil ?_
  refine nx_n ?_
  refine swp_ret ?_
  replace h := Option.some.inj h
  subst h
  exact q_fr (fin1 (by kernel_rfl) (finV rfl SV.flat_of (holds_c tbok (d := 2) (cs := [vs aA.Code, vi x1.X, vi x1.Y]) (ti := ti60) (by kernel_rfl) (by kernel_rfl) (by kernel_rfl) (by kernel_rfl))))
theorem ents25 : Ents Tryd.prog 25 := ents_of Tryd.func25 (by kernel_rfl) rfl
noncomputable def laws_toSiteS (aA : (List Site)) : Option ((List Site)) :=
  ((make' (Site.mk (ByteArray.mk #[]) (Point.mk 0 0)) (aA.length : Int)).bind fun x1 => (((forS (aA.length : Int) (fun (i4 : Int) (s4 : (List Site)) => ((at' aA i4).bind fun x8 => ((laws_toSite x8).bind fun x9 => ((at' s4 i4).bind fun _ => some (List.set s4 (Int.toNat i4) x9))))) (fun (s4 : (List Site)) => s4) 0 x1)).bind fun (j2 : (List Site)) => some j2))
set_option maxRecDepth 100000 in
set_option maxHeartbeats 4000000 in
theorem laws_toSiteS_run (aA : (List Site)) (r : (List Site)) (h : laws_toSiteS aA = some r) : SCall Tryd.prog 14 [.v (vl eSite aA)] ⟨[.own 60 3 r.length (r.map eSite)], [], false⟩ := by
  refine scall_in Tryd.func14 rfl [(.tmp 2)] rfl (fun r => ⟨[.own 60 3 r.length (r.map eSite)], [], false⟩) (r := r) ?_
  unfold laws_toSiteS at h
  refine swp_seq ?_
  refine swp_reg ?_
  refine SRun.ck tbok 1 ⟨23, [(0, vl eSite aA)], []⟩ ?_
  refine SRun.nil ?_
  refine nx_n ?_
  refine swp_seq ?_
  refine swp_reg ?_
  refine SRun.ck tbok 2 ⟨23, [(0, vl eSite aA), (6, vi (aA.length : Int))], []⟩ ?_
  obtain ⟨x1, hx1, h⟩ := bind_some h
  refine SRun.ls (x_make (z := (Site.mk (ByteArray.mk #[]) (Point.mk 0 0))) (f := eSite) (ti := ti29) (tj := ti60) (e := 60) (m := 3) (k := .i64) (k' := .i64) hx1 tbok rfl rfl (zs := [.string (ByteArray.mk #[]), .int .i64 0, .int .i64 0])) ?_
  refine SRun.ck tbok 1 ⟨23, [(0, vl eSite aA), (3, .own 7)], [(7, .arr 60 3 x1.length (x1.map eSite))]⟩ ?_
  refine SRun.nil ?_
  refine nx_n ?_
  refine swp_seq ?_
  refine swp_seq ?_
  refine swp_reg ?_
  refine SRun.ck tbok 1 ⟨23, [(0, vl eSite aA), (3, .own 7), (4, vi 0)], [(7, .arr 60 3 x1.length (x1.map eSite))]⟩ ?_
  refine SRun.nil ?_
  refine nx_n ?_
  refine swp_seqJ h (fun j2 => ⟨23, [(3, .own 3)], [(3, .arr 60 3 j2.length (j2.map eSite))]⟩) (fun v3 h => ?_) (fun j2 h => ?_)
  refine swp_blk (a := v3) ?_
  refine swp_lpL (r := v3) (s := (0, x1)) _ (fun s4 => ⟨23, [(0, vl eSite aA), (3, .own 3), (4, vi s4.1)], [(3, .arr 60 3 s4.2.length (s4.2.map eSite))]⟩) _ ((Le.sub' ([(0, vl eSite aA), (3, .own 7), (4, vi 0)] : List (Nat × SV)) ([(7, .arr 60 3 x1.length (x1.map eSite))] : List (Nat × SO)) (by kernel_rfl) (by kernel_rfl)).trans ((Le.ren' (d := 7) (e := 3) (by kernel_rfl) (by kernel_rfl) (by kernel_rfl)).trans (Le.sub0))) h (fun s4 v5 h => ?_)
  refine swp_seq ?_
  refine swp_seq ?_
  refine swp_reg ?_
  refine SRun.ck tbok 4 ⟨23, [(0, vl eSite aA), (3, .own 3), (4, vi s4.1), (11, vb (decide (s4.1 < (aA.length : Int))))], [(3, .arr 60 3 s4.2.length (s4.2.map eSite))]⟩ ?_
  refine SRun.nil ?_
  refine nx_n ?_
  refine swp_cond (b := (decide (s4.1 < (aA.length : Int)))) (by kernel_rfl) (fun hb => ?_) (fun hb => ?_)
  replace h := cond_t hb h
  refine swp_skip ?_
  refine nx_n ?_
  refine swp_seq ?_
  refine swp_seqJ h (fun j6 => ⟨23, [(0, vl eSite aA), (3, .own 3), (4, vi s4.1)], [(3, .arr 60 3 j6.length (j6.map eSite))]⟩) (fun v7 h => ?_) (fun j6 h => ?_)
  refine swp_blk (a := v7) ?_
  refine swp_reg ?_
  refine SRun.ck tbok 4 ⟨23, [(0, vl eSite aA), (3, .own 3), (4, vi s4.1), (14, .own 3), (15, vi s4.1), (16, vl eSite aA), (17, vi s4.1)], [(3, .arr 60 3 s4.2.length (s4.2.map eSite))]⟩ ?_
  obtain ⟨x8, hx8, h⟩ := bind_some h
  refine SRun.ls (x_index (L := aA) (f := eSite) (ti := ti23) (tj := ti52) (e := 52) (k := .i64) tbok rfl hx8) ?_
  refine SRun.ck tbok 1 ⟨23, [(0, vl eSite aA), (3, .own 3), (4, vi s4.1), (14, .own 3), (15, vi s4.1), (19, .agg [vs x8.Code, vi x8.At.X, vi x8.At.Y])], [(3, .arr 60 3 s4.2.length (s4.2.map eSite))]⟩ ?_
  obtain ⟨x9, hx9, h⟩ := bind_some h
  refine SRun.ls (x_lstep_call (f := 25) (caps := []) (xs := [.agg [vs x8.Code, vi x8.At.X, vi x8.At.Y]]) (ys := [.agg [vs x8.Code, vi x8.At.X, vi x8.At.Y]]) (res := ⟨[.v (.agg [vs x9.Code, vi x9.At.X, vi x9.At.Y])], [], false⟩) (x := .agg [vs x9.Code, vi x9.At.X, vi x9.At.Y]) (y := none) rfl ents25 (laws_toSite_run x8 _ hx9) rfl (by intro hc; cases hc)) ?_
  obtain ⟨x10, hx10, h⟩ := bind_some h
  refine SRun.ls (x_index_own (d := 3) (L := s4.2) (f := eSite) (ti := ti29) (tj := ti60) (e := 60) (e' := 60) (m := 3) (k := .i64) tbok rfl hx10) ?_
  refine SRun.estep (x_store_own (d := 3) (m := 3) (j := 0) (L := s4.2) (f := eSite) (x := x9) (z := x10) (ti := ti60) (e := 60) (ts := [.str x9.Code, .int .i64 x9.At.X, .int .i64 x9.At.Y]) (vs := [vs x9.Code, vi x9.At.X, vi x9.At.Y]) (v := .agg [vs x9.Code, vi x9.At.X, vi x9.At.Y]) tbok rfl rfl hx10) ?_
  refine SRun.nil ?_
  replace h := Option.some.inj h
  subst h
  exact q_bn (q_j (Le.sub0))
  refine swp_reg ?_
  refine SRun.ck tbok 3 ⟨23, [(0, vl eSite aA), (3, .own 3), (4, vi (w64 (s4.1 + 1)))], [(3, .arr 60 3 j6.length (j6.map eSite))]⟩ ?_
  refine SRun.nil ?_
  replace h := Option.some.inj h
  subst h
  exact q_l (Le.sub0)
  replace h := cond_f hb h
  refine swp_exit ?_
  replace h := Option.some.inj h
  subst h
  exact nx_e (q_re (q_bh (q_j (Le.sub0))))
  refine swp_seq ?_
  refine swp_reg ?_
  refine SRun.ck tbok 2 ⟨23, [(2, .own 3)], [(3, .arr 60 3 j2.length (j2.map eSite))]⟩ ?_
  refine SRun.nil ?_
  refine nx_n ?_
  refine swp_ret ?_
  replace h := Option.some.inj h
  subst h
  exact q_fr (fin1 (by kernel_rfl) (finO (d := 3) (holds_t (by kernel_rfl)) (by kernel_rfl) (flat_map eSite_flat _) (by kernel_rfl)))
theorem ents14 : Ents Tryd.prog 14 := ents_of Tryd.func14 (by kernel_rfl) rfl
noncomputable def laws_toDesk (aA : Desk) : Option (Desk) :=
  ((laws_toClaimS aA.Claims).bind fun x1 => ((laws_toSiteS aA.Sites).bind fun x2 => some (Desk.mk x1 x2)))
set_option maxRecDepth 100000 in
set_option maxHeartbeats 4000000 in
theorem laws_toDesk_run (aA : Desk) (r : Desk) (h : laws_toDesk aA = some r) : SCall Tryd.prog 6 [.v (.agg [vl eClaim aA.Claims, vl eSite aA.Sites])] ⟨[.v (.agg [vl eClaim r.Claims, vl eSite r.Sites])], [], true⟩ := by
  refine scall_in Tryd.func6 rfl [(.cell 2 31)] rfl (fun r => ⟨[.v (.agg [vl eClaim r.Claims, vl eSite r.Sites])], [], true⟩) (r := r) ?_
  unfold laws_toDesk at h
  refine swp_seq ?_
  refine swp_reg ?_
  refine SRun.ck tbok 2 ⟨13, [(1, .ref 1 0), (2, .ref 2 0)], [(1, .box [vl eClaim aA.Claims, vl eSite aA.Sites]), (2, .box [vl eClaim ([] : List Claim), vl eSite ([] : List Site)])]⟩ ?_
  refine SRun.nil ?_
  refine nx_n ?_
  refine swp_seq ?_
  refine swp_reg ?_
  refine SRun.ck tbok 1 ⟨13, [(1, .ref 1 0), (2, .ref 2 0), (3, .ref 3 0)], [(1, .box [vl eClaim aA.Claims, vl eSite aA.Sites]), (2, .box [vl eClaim ([] : List Claim), vl eSite ([] : List Site)]), (3, .box [vl eClaim ([] : List Claim), vl eSite ([] : List Site)])]⟩ ?_
  refine SRun.nil ?_
  refine nx_n ?_
  refine swp_seq ?_
  refine swp_reg ?_
  refine SRun.ck tbok 2 ⟨13, [(1, .ref 1 0), (2, .ref 2 0), (3, .ref 3 0), (5, vl eClaim aA.Claims)], [(1, .box [vl eClaim aA.Claims, vl eSite aA.Sites]), (2, .box [vl eClaim ([] : List Claim), vl eSite ([] : List Site)]), (3, .box [vl eClaim ([] : List Claim), vl eSite ([] : List Site)])]⟩ ?_
  obtain ⟨x1, hx1, h⟩ := bind_some h
  refine SRun.ls (x_lstep_call (f := 13) (caps := []) (xs := [vl eClaim aA.Claims]) (ys := [vl eClaim aA.Claims]) (res := ⟨[.own 56 7 x1.length (x1.map eClaim)], [], false⟩) (x := .own 6) (y := some (.arr 56 7 x1.length (x1.map eClaim))) rfl ents13 (laws_toClaimS_run aA.Claims _ hx1) rfl (by intro hc; cases hc)) ?_
  refine SRun.ck tbok 1 ⟨13, [(1, .ref 1 0), (2, .ref 2 0), (3, .ref 3 0), (6, .own 6), (7, .ref 3 0)], [(1, .box [vl eClaim aA.Claims, vl eSite aA.Sites]), (2, .box [vl eClaim ([] : List Claim), vl eSite ([] : List Site)]), (3, .box [vl eClaim ([] : List Claim), vl eSite ([] : List Site)]), (6, .arr 56 7 x1.length (x1.map eClaim))]⟩ ?_
  refine SRun.estep (x_estep_store (d := 3) (k := 0) (ti := ti28) (cs := [vl eClaim ([] : List Claim), vl eSite ([] : List Site)]) (vs := [.own 6]) (v := .own 6) tbok rfl rfl) ?_
  refine SRun.nil ?_
  refine nx_n ?_
  refine swp_seq ?_
  refine swp_reg ?_
  refine SRun.ck tbok 2 ⟨13, [(2, .ref 2 0), (3, .ref 3 0), (9, vl eSite aA.Sites)], [(2, .box [vl eClaim ([] : List Claim), vl eSite ([] : List Site)]), (3, .box [.own 6, vl eSite ([] : List Site)]), (6, .arr 56 7 x1.length (x1.map eClaim))]⟩ ?_
  obtain ⟨x2, hx2, h⟩ := bind_some h
  refine SRun.ls (x_lstep_call (f := 14) (caps := []) (xs := [vl eSite aA.Sites]) (ys := [vl eSite aA.Sites]) (res := ⟨[.own 60 3 x2.length (x2.map eSite)], [], false⟩) (x := .own 10) (y := some (.arr 60 3 x2.length (x2.map eSite))) rfl ents14 (laws_toSiteS_run aA.Sites _ hx2) rfl (by intro hc; cases hc)) ?_
  refine SRun.ck tbok 1 ⟨13, [(2, .ref 2 0), (3, .ref 3 0), (10, .own 10), (11, .ref 3 1)], [(2, .box [vl eClaim ([] : List Claim), vl eSite ([] : List Site)]), (3, .box [.own 6, vl eSite ([] : List Site)]), (6, .arr 56 7 x1.length (x1.map eClaim)), (10, .arr 60 3 x2.length (x2.map eSite))]⟩ ?_
  refine SRun.estep (x_estep_store (d := 3) (k := 1) (ti := ti29) (cs := [.own 6, vl eSite ([] : List Site)]) (vs := [.own 10]) (v := .own 10) tbok rfl rfl) ?_
  refine SRun.nil ?_
  refine nx_n ?_
  refine swp_seq ?_
  refine swp_reg ?_
  refine SRun.ck tbok 1 ⟨13, [(2, .ref 2 0), (12, .agg [.own 6, .own 10])], [(2, .box [vl eClaim ([] : List Claim), vl eSite ([] : List Site)]), (6, .arr 56 7 x1.length (x1.map eClaim)), (10, .arr 60 3 x2.length (x2.map eSite))]⟩ ?_
  refine SRun.estep (x_estep_store (d := 2) (k := 0) (ti := ti31) (cs := [vl eClaim ([] : List Claim), vl eSite ([] : List Site)]) (vs := [.own 6, .own 10]) (v := .agg [.own 6, .own 10]) tbok rfl rfl) ?_
  refine SRun.nil ?_
  refine nx_n ?_
  refine swp_le (Le.frz' (d := 6) (e := 56) (m := 7) (n := x1.length) (es := x1.map eClaim) (by kernel_rfl) (by kernel_rfl)) ?_
  refine swp_le (Le.frz' (d := 10) (e := 60) (m := 3) (n := x2.length) (es := x2.map eSite) (by kernel_rfl) (by kernel_rfl)) ?_
  refine swp_ret ?_
  replace h := Option.some.inj h
  subst h
  exact q_fr (fin1 (by kernel_rfl) (finT rfl (holds_c tbok (d := 2) (cs := [vl eClaim x1, vl eSite x2]) (ti := ti31) (by kernel_rfl) (by kernel_rfl) (by kernel_rfl) (by kernel_rfl))))
theorem ents6 : Ents Tryd.prog 6 := ents_of Tryd.func6 (by kernel_rfl) rfl
noncomputable def spec_l01In (aN : Int) (aLow : Int) (aHigh : Int) : Option (Bool) :=
  some ((decide (aN ≥ aLow)) && (decide (aN ≤ aHigh)))
set_option maxRecDepth 100000 in
set_option maxHeartbeats 4000000 in
theorem spec_l01In_run (aN : Int) (aLow : Int) (aHigh : Int) (r : Bool) (h : spec_l01In aN aLow aHigh = some r) : SCall Tryd.prog 35 [.v (vi aN), .v (vi aLow), .v (vi aHigh)] ⟨[.v (vb r)], [], false⟩ := by
  refine scall_in Tryd.func35 rfl [(.tmp 6)] rfl (fun r => ⟨[.v (vb r)], [], false⟩) (r := r) ?_
  unfold spec_l01In at h
  refine swp_seq ?_
  refine swp_reg ?_
  refine SRun.ck tbok 1 ⟨15, [(0, vi aN), (1, vi aLow), (2, vi aHigh)], []⟩ ?_
  refine SRun.nil ?_
  refine nx_n ?_
  refine swp_seq ?_
  refine swp_regP ⟨15, [(6, vb ((decide (aN ≥ aLow)) && (decide (aN ≤ aHigh))))], []⟩ ?_ ?_
  refine SRun.ck tbok 4 ⟨15, [(0, vi aN), (2, vi aHigh), (10, vb (decide (aN ≥ aLow)))], []⟩ ?_
  generalize (decide (aN ≥ aLow)) = bb
  cases bb
  refine SRun.ck tbok 5 ⟨15, [(6, vb false)], []⟩ ?_
  exact SRun.nil (Le.sub0)
  refine SRun.ck tbok 5 ⟨15, [(6, vb (decide (aN ≤ aHigh)))], []⟩ ?_
  exact SRun.nil (Le.sub0)
  refine swp_ret ?_
  replace h := Option.some.inj h
  subst h
  exact q_fr (fin1 (by kernel_rfl) (finV rfl SV.flat_of (holds_t (by kernel_rfl))))
theorem ents35 : Ents Tryd.prog 35 := ents_of Tryd.func35 (by kernel_rfl) rfl
noncomputable def spec_IsWord (aS : ByteArray) : Option (Bool) :=
  (((forN (aS.size : Int) (fun (i3 : Int) (_ : Unit) => ((((byte' aS i3).bind fun x7 => (bif (decide (x7 < 97)) then some true else ((byte' aS i3).bind fun x8 => some (decide (x8 > 122)))))).bind fun (j9 : Bool) => (bif j9 then some (.inr (.inr false)) else some (.inl ())))) (fun (_ : Unit) => .inl ()) 0 ())).bind (Sum.elim (fun (_ : Unit) => ((spec_l01In (aS.size : Int) 1 16).bind fun x11 => some x11)) some))
set_option maxRecDepth 100000 in
set_option maxHeartbeats 4000000 in
theorem spec_IsWord_run (aS : ByteArray) (r : Bool) (h : spec_IsWord aS = some r) : SCall Tryd.prog 33 [.v (vs aS)] ⟨[.v (vb r)], [], false⟩ := by
  refine scall_in Tryd.func33 rfl [(.tmp 2)] rfl (fun r => ⟨[.v (vb r)], [], false⟩) (r := r) ?_
  unfold spec_IsWord at h
  refine swp_seq ?_
  refine swp_reg ?_
  refine SRun.ck tbok 1 ⟨23, [(0, vs aS)], []⟩ ?_
  refine SRun.nil ?_
  refine nx_n ?_
  refine swp_seq ?_
  refine swp_seq ?_
  refine swp_reg ?_
  refine SRun.ck tbok 1 ⟨23, [(0, vs aS), (3, vi 0)], []⟩ ?_
  refine SRun.nil ?_
  refine nx_n ?_
  refine swp_seqE (r := r) h (fun j1 => ⟨23, [(0, vs aS)], []⟩) (fun v2 h => ?_) (fun j1 h => ?_)
  refine swp_blk (a := v2) ?_
  refine swp_lpL (r := v2) (s := (0, ())) _ (fun s3 => ⟨23, [(0, vs aS), (3, vi s3.1)], []⟩) _ (Le.sub0) h (fun s3 v4 h => ?_)
  refine swp_seq ?_
  refine swp_seq ?_
  refine swp_reg ?_
  refine SRun.ck tbok 4 ⟨23, [(0, vs aS), (3, vi s3.1), (7, vb (decide (s3.1 < (aS.size : Int))))], []⟩ ?_
  refine SRun.nil ?_
  refine nx_n ?_
  refine swp_cond (b := (decide (s3.1 < (aS.size : Int)))) (by kernel_rfl) (fun hb => ?_) (fun hb => ?_)
  replace h := cond_t hb h
  refine swp_skip ?_
  refine nx_n ?_
  refine swp_seq ?_
  refine swp_seqL (r := v4) h (fun j5 => ⟨23, [(0, vs aS), (3, vi s3.1)], []⟩) (fun v6 h => ?_) (fun j5 h => ?_)
  refine swp_blk (a := v6) ?_
  refine swp_seq ?_
  refine swp_regJ h (fun j9 => ⟨23, [(0, vs aS), (3, vi s3.1), (19, vb j9)], []⟩) (fun v10 h => ?_) (fun j9 h => ?_)
  refine SRun.ck tbok 2 ⟨23, [(0, vs aS), (3, vi s3.1), (10, vs aS), (11, vi s3.1)], []⟩ ?_
  obtain ⟨x7, hx7, h⟩ := bind_some h
  refine SRun.ls (x_byte (ti := ti9) (k := .i64) hx7 tbok rfl) ?_
  refine SRun.ck tbok 2 ⟨23, [(0, vs aS), (3, vi s3.1), (14, vb (decide (x7 < 97)))], []⟩ ?_
  refine SRun.cut [(14, fun b => b)] (b := (decide (x7 < 97))) (by kernel_rfl) (fun hb => ?_) (fun hb => ?_)
  replace h := cond_t hb h
  refine SRun.ck tbok 5 ⟨23, [(0, vs aS), (3, vi s3.1), (19, vb true)], []⟩ ?_
  refine SRun.nil ?_
  replace h := Option.some.inj h
  subst h
  exact Le.sub0
  replace h := cond_f hb h
  refine SRun.ck tbok 2 ⟨23, [(0, vs aS), (3, vi s3.1), (14, vb false), (15, vs aS), (16, vi s3.1)], []⟩ ?_
  obtain ⟨x8, hx8, h⟩ := bind_some h
  refine SRun.ls (x_byte (ti := ti9) (k := .i64) hx8 tbok rfl) ?_
  refine SRun.ck tbok 2 ⟨23, [(0, vs aS), (3, vi s3.1), (19, vb (decide (x8 > 122)))], []⟩ ?_
  refine SRun.nil ?_
  replace h := Option.some.inj h
  subst h
  exact Le.sub0
  refine swp_cond (b := j9) (by kernel_rfl) (fun hb => ?_) (fun hb => ?_)
  replace h := cond_t hb h
  refine swp_seq ?_
  refine swp_reg ?_
  refine SRun.ck tbok 1 ⟨23, [(2, vb false)], []⟩ ?_
  refine SRun.nil ?_
  refine nx_n ?_
  refine swp_ret ?_
  replace h := Option.some.inj h
  subst h
  exact q_br (q_rr (q_rr (q_br (q_rr (q_fr (fin1 (by kernel_rfl) (finV rfl SV.flat_of (holds_t (by kernel_rfl)))))))))
  replace h := cond_f hb h
  refine swp_skip ?_
  replace h := Option.some.inj h
  subst h
  exact q_bn (q_l (Le.sub0))
  refine swp_reg ?_
  refine SRun.ck tbok 3 ⟨23, [(0, vs aS), (3, vi (w64 (s3.1 + 1)))], []⟩ ?_
  refine SRun.nil ?_
  replace h := Option.some.inj h
  subst h
  exact q_l (Le.sub0)
  replace h := cond_f hb h
  refine swp_exit ?_
  replace h := Option.some.inj h
  subst h
  exact nx_e (q_re (q_bh (q_l (Le.sub0))))
  refine swp_seq ?_
  refine swp_reg ?_
  refine SRun.ck tbok 2 ⟨23, [(21, vi (aS.size : Int))], []⟩ ?_
  obtain ⟨x11, hx11, h⟩ := bind_some h
  refine SRun.ls (x_lstep_call (f := 35) (caps := []) (xs := [vi (aS.size : Int), vi 1, vi 16]) (ys := [vi (aS.size : Int), vi 1, vi 16]) (res := ⟨[.v (vb x11)], [], false⟩) (x := vb x11) (y := none) rfl ents35 (spec_l01In_run (aS.size : Int) 1 16 _ hx11) rfl (by intro hc; cases hc)) ?_
  refine SRun.ck tbok 1 ⟨23, [(2, vb x11)], []⟩ ?_
  refine SRun.nil ?_
  refine nx_n ?_
  refine swp_ret ?_
  replace h := Option.some.inj h
  subst h
  exact q_fr (fin1 (by kernel_rfl) (finV rfl SV.flat_of (holds_t (by kernel_rfl))))
theorem ents33 : Ents Tryd.prog 33 := ents_of Tryd.func33 (by kernel_rfl) rfl
noncomputable def spec_l02Year (aN : Int) : Option (Bool) :=
  ((spec_l01In aN (-3000) 3000).bind fun x1 => some x1)
set_option maxRecDepth 100000 in
set_option maxHeartbeats 4000000 in
theorem spec_l02Year_run (aN : Int) (r : Bool) (h : spec_l02Year aN = some r) : SCall Tryd.prog 49 [.v (vi aN)] ⟨[.v (vb r)], [], false⟩ := by
  refine scall_in Tryd.func49 rfl [(.tmp 2)] rfl (fun r => ⟨[.v (vb r)], [], false⟩) (r := r) ?_
  unfold spec_l02Year at h
  refine swp_seq ?_
  refine swp_reg ?_
  refine SRun.ck tbok 1 ⟨5, [(0, vi aN)], []⟩ ?_
  refine SRun.nil ?_
  refine nx_n ?_
  refine swp_seq ?_
  refine swp_reg ?_
  refine SRun.ck tbok 1 ⟨5, [(3, vi aN)], []⟩ ?_
  obtain ⟨x1, hx1, h⟩ := bind_some h
  refine SRun.ls (x_lstep_call (f := 35) (caps := []) (xs := [vi aN, vi (-3000), vi 3000]) (ys := [vi aN, vi (-3000), vi 3000]) (res := ⟨[.v (vb x1)], [], false⟩) (x := vb x1) (y := none) rfl ents35 (spec_l01In_run aN (-3000) 3000 _ hx1) rfl (by intro hc; cases hc)) ?_
  refine SRun.ck tbok 1 ⟨5, [(2, vb x1)], []⟩ ?_
  refine SRun.nil ?_
  refine nx_n ?_
  refine swp_ret ?_
  replace h := Option.some.inj h
  subst h
  exact q_fr (fin1 (by kernel_rfl) (finV rfl SV.flat_of (holds_t (by kernel_rfl))))
theorem ents49 : Ents Tryd.prog 49 := ents_of Tryd.func49 (by kernel_rfl) rfl
noncomputable def spec_IsSpan (aS : Span) : Option (Bool) :=
  ((((spec_l02Year aS.From).bind fun x1 => (bif x1 then ((spec_l02Year aS.To).bind fun x2 => (bif x2 then some (decide (aS.From ≤ aS.To)) else some false)) else some false))).bind fun (j3 : Bool) => some j3)
set_option maxRecDepth 100000 in
set_option maxHeartbeats 4000000 in
theorem spec_IsSpan_run (aS : Span) (r : Bool) (h : spec_IsSpan aS = some r) : SCall Tryd.prog 34 [.v (.agg [vi aS.From, vi aS.To])] ⟨[.v (vb r)], [], false⟩ := by
  refine scall_in Tryd.func34 rfl [(.tmp 2)] rfl (fun r => ⟨[.v (vb r)], [], false⟩) (r := r) ?_
  unfold spec_IsSpan at h
  refine swp_seq ?_
  refine swp_reg ?_
  refine SRun.ck tbok 2 ⟨18, [(1, .ref 1 0)], [(1, .box [vi aS.From, vi aS.To])]⟩ ?_
  refine SRun.nil ?_
  refine nx_n ?_
  refine swp_seq ?_
  refine swp_regJ h (fun j3 => ⟨18, [(2, vb j3)], []⟩) (fun v4 h => ?_) (fun j3 h => ?_)
  refine SRun.ck tbok 2 ⟨18, [(1, .ref 1 0), (4, vi aS.From)], [(1, .box [vi aS.From, vi aS.To])]⟩ ?_
  obtain ⟨x1, hx1, h⟩ := bind_some h
  refine SRun.ls (x_lstep_call (f := 49) (caps := []) (xs := [vi aS.From]) (ys := [vi aS.From]) (res := ⟨[.v (vb x1)], [], false⟩) (x := vb x1) (y := none) rfl ents49 (spec_l02Year_run aS.From _ hx1) rfl (by intro hc; cases hc)) ?_
  refine SRun.ck tbok 1 ⟨18, [(1, .ref 1 0), (6, vb x1)], [(1, .box [vi aS.From, vi aS.To])]⟩ ?_
  refine SRun.cut [(6, fun b => b)] (b := x1) (by kernel_rfl) (fun hb => ?_) (fun hb => ?_)
  replace h := cond_t hb h
  refine SRun.ck tbok 2 ⟨18, [(1, .ref 1 0), (6, vb true), (8, vi aS.To)], [(1, .box [vi aS.From, vi aS.To])]⟩ ?_
  obtain ⟨x2, hx2, h⟩ := bind_some h
  refine SRun.ls (x_lstep_call (f := 49) (caps := []) (xs := [vi aS.To]) (ys := [vi aS.To]) (res := ⟨[.v (vb x2)], [], false⟩) (x := vb x2) (y := none) rfl ents49 (spec_l02Year_run aS.To _ hx2) rfl (by intro hc; cases hc)) ?_
  refine SRun.ck tbok 2 ⟨18, [(1, .ref 1 0), (11, vb x2)], [(1, .box [vi aS.From, vi aS.To])]⟩ ?_
  refine SRun.cut [(11, fun b => b)] (b := x2) (by kernel_rfl) (fun hb => ?_) (fun hb => ?_)
  replace h := cond_t hb h
  refine SRun.ck tbok 7 ⟨18, [(2, vb (decide (aS.From ≤ aS.To)))], []⟩ ?_
  refine SRun.nil ?_
  replace h := Option.some.inj h
  subst h
  exact Le.sub0
  replace h := cond_f hb h
  refine SRun.ck tbok 7 ⟨18, [(2, vb false)], []⟩ ?_
  refine SRun.nil ?_
  replace h := Option.some.inj h
  subst h
  exact Le.sub0
  replace h := cond_f hb h
  refine SRun.ck tbok 12 ⟨18, [(2, vb false)], []⟩ ?_
  refine SRun.nil ?_
  replace h := Option.some.inj h
  subst h
  exact Le.sub0
  refine swp_ret ?_
  replace h := Option.some.inj h
  subst h
  exact q_fr (fin1 (by kernel_rfl) (finV rfl SV.flat_of (holds_t (by kernel_rfl))))
theorem ents34 : Ents Tryd.prog 34 := ents_of Tryd.func34 (by kernel_rfl) rfl
noncomputable def spec_l01Split (aS : ByteArray) (aBy : Int) : Option ((List ByteArray)) :=
  (((forH (fun (i3 : Int) (_ : Int × (List ByteArray)) => (decide (i3 ≤ (aS.size : Int)))) (fun (i3 : Int) (s3 : Int × (List ByteArray)) => (((bif (i3 == (aS.size : Int)) then some true else ((byte' aS i3).bind fun x7 => some (x7 == aBy)))).bind fun (j8 : Bool) => (bif j8 then ((sub' aS s3.1 i3).bind fun x10 => ((app' s3.2 ([x10] : List ByteArray)).bind fun x11 => some ((w64 (i3 + 1)), x11))) else some (s3.1, s3.2)))) (fun (s3 : Int × (List ByteArray)) => s3.2) 0 (0, ([] : List ByteArray)))).bind fun (j1 : (List ByteArray)) => some j1)
set_option maxRecDepth 100000 in
set_option maxHeartbeats 4000000 in
theorem spec_l01Split_run (aS : ByteArray) (aBy : Int) (r : (List ByteArray)) (h : spec_l01Split aS aBy = some r) : SCall Tryd.prog 56 [.v (vs aS), .v (.tr (.int .u8 aBy))] ⟨[.own 9 1 r.length (r.map eS)], [], false⟩ := by
  refine scall_in Tryd.func56 rfl [(.tmp 4)] rfl (fun r => ⟨[.own 9 1 r.length (r.map eS)], [], false⟩) (r := r) ?_
  unfold spec_l01Split at h
  refine swp_seq ?_
  refine swp_reg ?_
  refine SRun.ck tbok 1 ⟨36, [(0, vs aS), (1, .tr (.int .u8 aBy))], []⟩ ?_
  refine SRun.nil ?_
  refine nx_n ?_
  refine swp_seq ?_
  refine swp_reg ?_
  refine SRun.ck tbok 2 ⟨36, [(0, vs aS), (1, .tr (.int .u8 aBy)), (5, .own 8)], [(8, .arr 9 1 ([] : List ByteArray).length (([] : List ByteArray).map eS))]⟩ ?_
  refine SRun.nil ?_
  refine nx_n ?_
  refine swp_seq ?_
  refine swp_reg ?_
  refine SRun.ck tbok 1 ⟨36, [(0, vs aS), (1, .tr (.int .u8 aBy)), (5, .own 8), (6, vi 0)], [(8, .arr 9 1 ([] : List ByteArray).length (([] : List ByteArray).map eS))]⟩ ?_
  refine SRun.nil ?_
  refine nx_n ?_
  refine swp_seq ?_
  refine swp_seq ?_
  refine swp_reg ?_
  refine SRun.ck tbok 1 ⟨36, [(0, vs aS), (1, .tr (.int .u8 aBy)), (5, .own 8), (6, vi 0), (7, vi 0)], [(8, .arr 9 1 ([] : List ByteArray).length (([] : List ByteArray).map eS))]⟩ ?_
  refine SRun.nil ?_
  refine nx_n ?_
  refine swp_seqJ h (fun j1 => ⟨36, [(5, .own 5)], [(5, .arr 9 1 j1.length (j1.map eS))]⟩) (fun v2 h => ?_) (fun j1 h => ?_)
  refine swp_blk (a := v2) ?_
  refine swp_lpL (r := v2) (s := (0, 0, ([] : List ByteArray))) _ (fun s3 => ⟨36, [(0, vs aS), (1, .tr (.int .u8 aBy)), (5, .own 5), (6, vi s3.2.1), (7, vi s3.1)], [(5, .arr 9 1 s3.2.2.length (s3.2.2.map eS))]⟩) _ ((Le.sub' ([(0, vs aS), (1, .tr (.int .u8 aBy)), (5, .own 8), (6, vi 0), (7, vi 0)] : List (Nat × SV)) ([(8, .arr 9 1 ([] : List ByteArray).length (([] : List ByteArray).map eS))] : List (Nat × SO)) (by kernel_rfl) (by kernel_rfl)).trans ((Le.ren' (d := 8) (e := 5) (by kernel_rfl) (by kernel_rfl) (by kernel_rfl)).trans (Le.sub0))) h (fun s3 v4 h => ?_)
  refine swp_seq ?_
  refine swp_seq ?_
  refine swp_reg ?_
  refine SRun.ck tbok 4 ⟨36, [(0, vs aS), (1, .tr (.int .u8 aBy)), (5, .own 5), (6, vi s3.2.1), (7, vi s3.1), (12, vb (decide (s3.1 ≤ (aS.size : Int))))], [(5, .arr 9 1 s3.2.2.length (s3.2.2.map eS))]⟩ ?_
  refine SRun.nil ?_
  refine nx_n ?_
  refine swp_cond (b := (decide (s3.1 ≤ (aS.size : Int)))) (by kernel_rfl) (fun hb => ?_) (fun hb => ?_)
  replace h := cond_t hb h
  refine swp_skip ?_
  refine nx_n ?_
  refine swp_seq ?_
  refine swp_seqJ h (fun j5 => ⟨36, [(0, vs aS), (1, .tr (.int .u8 aBy)), (5, .own 5), (6, vi j5.1), (7, vi s3.1)], [(5, .arr 9 1 j5.2.length (j5.2.map eS))]⟩) (fun v6 h => ?_) (fun j5 h => ?_)
  refine swp_blk (a := v6) ?_
  refine swp_seq ?_
  refine swp_regJ h (fun j8 => ⟨36, [(0, vs aS), (1, .tr (.int .u8 aBy)), (5, .own 5), (6, vi s3.2.1), (7, vi s3.1), (25, vb j8)], [(5, .arr 9 1 s3.2.2.length (s3.2.2.map eS))]⟩) (fun v9 h => ?_) (fun j8 h => ?_)
  refine SRun.ck tbok 5 ⟨36, [(0, vs aS), (1, .tr (.int .u8 aBy)), (5, .own 5), (6, vi s3.2.1), (7, vi s3.1), (19, vb (s3.1 == (aS.size : Int)))], [(5, .arr 9 1 s3.2.2.length (s3.2.2.map eS))]⟩ ?_
  refine SRun.cut [(19, fun b => b)] (b := (s3.1 == (aS.size : Int))) (by kernel_rfl) (fun hb => ?_) (fun hb => ?_)
  replace h := cond_t hb h
  refine SRun.ck tbok 6 ⟨36, [(0, vs aS), (1, .tr (.int .u8 aBy)), (5, .own 5), (6, vi s3.2.1), (7, vi s3.1), (25, vb true)], [(5, .arr 9 1 s3.2.2.length (s3.2.2.map eS))]⟩ ?_
  refine SRun.nil ?_
  replace h := Option.some.inj h
  subst h
  exact Le.sub0
  replace h := cond_f hb h
  refine SRun.ck tbok 2 ⟨36, [(0, vs aS), (1, .tr (.int .u8 aBy)), (5, .own 5), (6, vi s3.2.1), (7, vi s3.1), (19, vb false), (20, vs aS), (21, vi s3.1)], [(5, .arr 9 1 s3.2.2.length (s3.2.2.map eS))]⟩ ?_
  obtain ⟨x7, hx7, h⟩ := bind_some h
  refine SRun.ls (x_byte (ti := ti9) (k := .i64) hx7 tbok rfl) ?_
  refine SRun.ck tbok 3 ⟨36, [(0, vs aS), (1, .tr (.int .u8 aBy)), (5, .own 5), (6, vi s3.2.1), (7, vi s3.1), (25, vb (x7 == aBy))], [(5, .arr 9 1 s3.2.2.length (s3.2.2.map eS))]⟩ ?_
  refine SRun.nil ?_
  replace h := Option.some.inj h
  subst h
  exact Le.sub0
  refine swp_cond (b := j8) (by kernel_rfl) (fun hb => ?_) (fun hb => ?_)
  replace h := cond_t hb h
  refine swp_seq ?_
  refine swp_reg ?_
  refine SRun.ck tbok 4 ⟨36, [(0, vs aS), (1, .tr (.int .u8 aBy)), (7, vi s3.1), (26, .own 5), (27, vs aS), (28, vi s3.2.1), (29, vi s3.1)], [(5, .arr 9 1 s3.2.2.length (s3.2.2.map eS))]⟩ ?_
  obtain ⟨x10, hx10, h⟩ := bind_some h
  refine SRun.ls (x_sub (ti := ti9) hx10 tbok rfl) ?_
  refine SRun.ck tbok 1 ⟨36, [(0, vs aS), (1, .tr (.int .u8 aBy)), (7, vi s3.1), (26, .own 5), (31, .own 31)], [(5, .arr 9 1 s3.2.2.length (s3.2.2.map eS)), (31, .arr 9 1 ([x10] : List ByteArray).length (([x10] : List ByteArray).map eS))]⟩ ?_
  obtain ⟨x11, hx11, h⟩ := bind_some h
  refine SRun.estep (x_append (f := eS) (t := 77) (ti := ti77) (tj := ti9) (zs := [.string (ByteArray.mk #[])]) (e := 9) (m := 1) (d := 5) (xv := .own 31) hx11 tbok rfl rfl rfl rfl (x_src_o (e := 9))) ?_
  refine SRun.ck tbok 1 ⟨36, [(0, vs aS), (1, .tr (.int .u8 aBy)), (5, .own 32), (7, vi s3.1)], [(32, .arr 9 1 x11.length (x11.map eS))]⟩ ?_
  refine SRun.nil ?_
  refine nx_n ?_
  refine swp_reg ?_
  refine SRun.ck tbok 3 ⟨36, [(0, vs aS), (1, .tr (.int .u8 aBy)), (5, .own 32), (6, vi (w64 (s3.1 + 1))), (7, vi s3.1)], [(32, .arr 9 1 x11.length (x11.map eS))]⟩ ?_
  refine SRun.nil ?_
  replace h := Option.some.inj h
  subst h
  exact q_bn (q_j ((Le.sub' ([(0, vs aS), (1, .tr (.int .u8 aBy)), (5, .own 32), (6, vi (w64 (s3.1 + 1))), (7, vi s3.1)] : List (Nat × SV)) ([(32, .arr 9 1 x11.length (x11.map eS))] : List (Nat × SO)) (by kernel_rfl) (by kernel_rfl)).trans ((Le.ren' (d := 32) (e := 5) (by kernel_rfl) (by kernel_rfl) (by kernel_rfl)).trans (Le.sub0))))
  replace h := cond_f hb h
  refine swp_skip ?_
  replace h := Option.some.inj h
  subst h
  exact q_bn (q_j (Le.sub0))
  refine swp_reg ?_
  refine SRun.ck tbok 3 ⟨36, [(0, vs aS), (1, .tr (.int .u8 aBy)), (5, .own 5), (6, vi j5.1), (7, vi (w64 (s3.1 + 1)))], [(5, .arr 9 1 j5.2.length (j5.2.map eS))]⟩ ?_
  refine SRun.nil ?_
  replace h := Option.some.inj h
  subst h
  exact q_l (Le.sub0)
  replace h := cond_f hb h
  refine swp_exit ?_
  replace h := Option.some.inj h
  subst h
  exact nx_e (q_re (q_bh (q_j (Le.sub0))))
  refine swp_seq ?_
  refine swp_reg ?_
  refine SRun.ck tbok 2 ⟨36, [(4, .own 5)], [(5, .arr 9 1 j1.length (j1.map eS))]⟩ ?_
  refine SRun.nil ?_
  refine nx_n ?_
  refine swp_ret ?_
  replace h := Option.some.inj h
  subst h
  exact q_fr (fin1 (by kernel_rfl) (finO (d := 5) (holds_t (by kernel_rfl)) (by kernel_rfl) (flat_map eS_flat _) (by kernel_rfl)))
theorem ents56 : Ents Tryd.prog 56 := ents_of Tryd.func56 (by kernel_rfl) rfl
noncomputable def spec_l01Phrase (aS : ByteArray) : Option ((List ByteArray) × Bool) :=
  ((spec_l01Split aS 32).bind fun x1 => (((forN (x1.length : Int) (fun (i4 : Int) (_ : Unit) => ((at' x1 i4).bind fun x8 => ((spec_IsWord x8).bind fun x9 => (bif (!x9) then some (.inr (.inr (([] : List ByteArray), false))) else some (.inl ()))))) (fun (_ : Unit) => .inl ()) 0 ())).bind (Sum.elim (fun (_ : Unit) => some (x1, (decide ((x1.length : Int) ≤ 8)))) some)))
set_option maxRecDepth 100000 in
set_option maxHeartbeats 4000000 in
theorem spec_l01Phrase_run (aS : ByteArray) (r : (List ByteArray) × Bool) (h : spec_l01Phrase aS = some r) : SCall Tryd.prog 50 [.v (vs aS)] ⟨[.own 9 1 r.1.length (r.1.map eS), .v (vb r.2)], [], false⟩ := by
  refine scall_in Tryd.func50 rfl [(.tmp 2), (.tmp 3)] rfl (fun r => ⟨[.own 9 1 r.1.length (r.1.map eS), .v (vb r.2)], [], false⟩) (r := r) ?_
  unfold spec_l01Phrase at h
  refine swp_seq ?_
  refine swp_reg ?_
  refine SRun.ck tbok 2 ⟨24, [(0, vs aS)], []⟩ ?_
  refine SRun.nil ?_
  refine nx_n ?_
  refine swp_seq ?_
  refine swp_reg ?_
  refine SRun.ck tbok 1 ⟨24, [(6, vs aS)], []⟩ ?_
  obtain ⟨x1, hx1, h⟩ := bind_some h
  refine SRun.ls (x_lstep_call (f := 56) (caps := []) (xs := [vs aS, .tr (.int .u8 32)]) (ys := [vs aS, .tr (.int .u8 32)]) (res := ⟨[.own 9 1 x1.length (x1.map eS)], [], false⟩) (x := .own 7) (y := some (.arr 9 1 x1.length (x1.map eS))) rfl ents56 (spec_l01Split_run aS 32 _ hx1) rfl (by intro hc; cases hc)) ?_
  refine SRun.ck tbok 1 ⟨24, [(4, .own 7)], [(7, .arr 9 1 x1.length (x1.map eS))]⟩ ?_
  refine SRun.nil ?_
  refine nx_n ?_
  refine swp_seq ?_
  refine swp_seq ?_
  refine swp_reg ?_
  refine SRun.ck tbok 1 ⟨24, [(4, .own 7), (5, vi 0)], [(7, .arr 9 1 x1.length (x1.map eS))]⟩ ?_
  refine SRun.nil ?_
  refine nx_n ?_
  refine swp_seqE (r := r) h (fun j2 => ⟨24, [(4, .own 4)], [(4, .arr 9 1 x1.length (x1.map eS))]⟩) (fun v3 h => ?_) (fun j2 h => ?_)
  refine swp_blk (a := v3) ?_
  refine swp_lpL (r := v3) (s := (0, ())) _ (fun s4 => ⟨24, [(4, .own 4), (5, vi s4.1)], [(4, .arr 9 1 x1.length (x1.map eS))]⟩) _ ((Le.sub' ([(4, .own 7), (5, vi 0)] : List (Nat × SV)) ([(7, .arr 9 1 x1.length (x1.map eS))] : List (Nat × SO)) (by kernel_rfl) (by kernel_rfl)).trans ((Le.ren' (d := 7) (e := 4) (by kernel_rfl) (by kernel_rfl) (by kernel_rfl)).trans (Le.sub0))) h (fun s4 v5 h => ?_)
  refine swp_seq ?_
  refine swp_seq ?_
  refine swp_reg ?_
  refine SRun.ck tbok 4 ⟨24, [(4, .own 4), (5, vi s4.1), (11, vb (decide (s4.1 < (x1.length : Int))))], [(4, .arr 9 1 x1.length (x1.map eS))]⟩ ?_
  refine SRun.nil ?_
  refine nx_n ?_
  refine swp_cond (b := (decide (s4.1 < (x1.length : Int)))) (by kernel_rfl) (fun hb => ?_) (fun hb => ?_)
  replace h := cond_t hb h
  refine swp_skip ?_
  refine nx_n ?_
  refine swp_seq ?_
  refine swp_seqL (r := v5) h (fun j6 => ⟨24, [(4, .own 4), (5, vi s4.1)], [(4, .arr 9 1 x1.length (x1.map eS))]⟩) (fun v7 h => ?_) (fun j6 h => ?_)
  refine swp_blk (a := v7) ?_
  refine swp_seq ?_
  refine swp_reg ?_
  refine SRun.ck tbok 2 ⟨24, [(4, .own 4), (5, vi s4.1), (14, .own 4), (15, vi s4.1)], [(4, .arr 9 1 x1.length (x1.map eS))]⟩ ?_
  obtain ⟨x8, hx8, h⟩ := bind_some h
  refine SRun.ls (x_index_own (d := 4) (L := x1) (f := eS) (ti := ti77) (tj := ti9) (e := 9) (e' := 9) (m := 1) (k := .i64) tbok rfl hx8) ?_
  refine SRun.ls (x_load_own (d := 4) (m := 1) (j := 0) (L := x1) (f := eS) (ti := ti9) (e := 9) (v := vs x8) tbok rfl hx8) ?_
  obtain ⟨x9, hx9, h⟩ := bind_some h
  refine SRun.ls (x_lstep_call (f := 33) (caps := []) (xs := [vs x8]) (ys := [vs x8]) (res := ⟨[.v (vb x9)], [], false⟩) (x := vb x9) (y := none) rfl ents33 (spec_IsWord_run x8 _ hx9) rfl (by intro hc; cases hc)) ?_
  refine SRun.ck tbok 1 ⟨24, [(4, .own 4), (5, vi s4.1), (19, vb (!x9))], [(4, .arr 9 1 x1.length (x1.map eS))]⟩ ?_
  refine SRun.nil ?_
  refine nx_n ?_
  refine swp_cond (b := (!x9)) (by kernel_rfl) (fun hb => ?_) (fun hb => ?_)
  replace h := cond_t hb h
  refine swp_seq ?_
  refine swp_reg ?_
  refine SRun.ck tbok 2 ⟨24, [(2, .own 2), (3, vb false)], [(2, .arr 9 1 ([] : List ByteArray).length (([] : List ByteArray).map eS))]⟩ ?_
  refine SRun.nil ?_
  refine nx_n ?_
  refine swp_ret ?_
  replace h := Option.some.inj h
  subst h
  exact q_br (q_rr (q_rr (q_br (q_rr (q_fr (fin2 (by kernel_rfl) (finO (d := 2) (holds_t (by kernel_rfl)) (by kernel_rfl) (flat_map eS_flat _) (by kernel_rfl)) (finV rfl SV.flat_of (holds_t (by kernel_rfl)))))))))
  replace h := cond_f hb h
  refine swp_skip ?_
  replace h := Option.some.inj h
  subst h
  exact q_bn (q_l (Le.sub0))
  refine swp_reg ?_
  refine SRun.ck tbok 3 ⟨24, [(4, .own 4), (5, vi (w64 (s4.1 + 1)))], [(4, .arr 9 1 x1.length (x1.map eS))]⟩ ?_
  refine SRun.nil ?_
  replace h := Option.some.inj h
  subst h
  exact q_l (Le.sub0)
  replace h := cond_f hb h
  refine swp_exit ?_
  replace h := Option.some.inj h
  subst h
  exact nx_e (q_re (q_bh (q_l (Le.sub0))))
  refine swp_seq ?_
  refine swp_reg ?_
  refine SRun.ck tbok 6 ⟨24, [(2, .own 4), (3, vb (decide ((x1.length : Int) ≤ 8)))], [(4, .arr 9 1 x1.length (x1.map eS))]⟩ ?_
  refine SRun.nil ?_
  refine nx_n ?_
  refine swp_ret ?_
  replace h := Option.some.inj h
  subst h
  exact q_fr (fin2 (by kernel_rfl) (finO (d := 4) (holds_t (by kernel_rfl)) (by kernel_rfl) (flat_map eS_flat _) (by kernel_rfl)) (finV rfl SV.flat_of (holds_t (by kernel_rfl))))
theorem ents50 : Ents Tryd.prog 50 := ents_of Tryd.func50 (by kernel_rfl) rfl
noncomputable def spec_IsPhrase (aS : ByteArray) : Option (Bool) :=
  ((spec_l01Phrase aS).bind fun x1 => some x1.2)
set_option maxRecDepth 100000 in
set_option maxHeartbeats 4000000 in
theorem spec_IsPhrase_run (aS : ByteArray) (r : Bool) (h : spec_IsPhrase aS = some r) : SCall Tryd.prog 36 [.v (vs aS)] ⟨[.v (vb r)], [], false⟩ := by
  refine scall_in Tryd.func36 rfl [(.tmp 2)] rfl (fun r => ⟨[.v (vb r)], [], false⟩) (r := r) ?_
  unfold spec_IsPhrase at h
  refine swp_seq ?_
  refine swp_reg ?_
  refine SRun.ck tbok 1 ⟨11, [(0, vs aS)], []⟩ ?_
  refine SRun.nil ?_
  refine nx_n ?_
  refine swp_seq ?_
  refine swp_reg ?_
  refine SRun.ck tbok 1 ⟨11, [(6, vs aS)], []⟩ ?_
  obtain ⟨x1, hx1, h⟩ := bind_some h
  refine SRun.ls (x_lstep_call (f := 50) (caps := []) (xs := [vs aS]) (ys := [vs aS]) (res := ⟨[.own 9 1 x1.1.length (x1.1.map eS), .v (vb x1.2)], [], false⟩) (x := .tup [.own 7, vb x1.2]) (y := some (.arr 9 1 x1.1.length (x1.1.map eS))) rfl ents50 (spec_l01Phrase_run aS _ hx1) rfl (by intro hc; cases hc)) ?_
  refine SRun.ck tbok 5 ⟨11, [(4, vb x1.2)], []⟩ ?_
  refine SRun.nil ?_
  refine nx_n ?_
  refine swp_seq ?_
  refine swp_reg ?_
  refine SRun.ck tbok 2 ⟨11, [(2, vb x1.2)], []⟩ ?_
  refine SRun.nil ?_
  refine nx_n ?_
  refine swp_ret ?_
  replace h := Option.some.inj h
  subst h
  exact q_fr (fin1 (by kernel_rfl) (finV rfl SV.flat_of (holds_t (by kernel_rfl))))
theorem ents36 : Ents Tryd.prog 36 := ents_of Tryd.func36 (by kernel_rfl) rfl
noncomputable def spec_IsClaim (aC : Claim) : Option (Bool) :=
  ((((spec_IsWord aC.Source).bind fun x1 => (bif (!x1) then some true else ((spec_IsWord aC.Place).bind fun x2 => (bif (!x2) then some true else ((spec_IsSpan aC.Years).bind fun x3 => (bif (!x3) then some true else ((spec_l01In aC.Weight 1 100).bind fun x4 => some (!x4))))))))).bind fun (j5 : Bool) => (bif j5 then some false else (((bif (aC.Kind == 0) then ((spec_IsPhrase aC.Value).bind fun x9 => some (.inr x9)) else (bif (aC.Kind == 1) then ((((spec_IsWord aC.Value).bind fun x10 => (bif x10 then some (!(aC.Value.toList == aC.Place.toList)) else some false))).bind fun (j11 : Bool) => some (.inr j11)) else (((bif (aC.Kind == 2) then some (aC.Kind == 2) else some (aC.Kind == 3))).bind fun (j13 : Bool) => (bif j13 then some (.inr (aC.Value.toList == (ByteArray.mk #[]).toList)) else some (.inl ())))))).bind (Sum.elim (fun (_ : Unit) => some false) some))))
set_option maxRecDepth 100000 in
set_option maxHeartbeats 4000000 in
theorem spec_IsClaim_run (aC : Claim) (r : Bool) (h : spec_IsClaim aC = some r) : SCall Tryd.prog 21 [.v (.agg [vs aC.Source, vi aC.Kind, vs aC.Place, vs aC.Value, vi aC.Years.From, vi aC.Years.To, vi aC.Weight])] ⟨[.v (vb r)], [], false⟩ := by
  refine scall_in Tryd.func21 rfl [(.tmp 2)] rfl (fun r => ⟨[.v (vb r)], [], false⟩) (r := r) ?_
  unfold spec_IsClaim at h
  refine swp_seq ?_
  refine swp_reg ?_
  refine SRun.ck tbok 2 ⟨50, [(1, .ref 1 0)], [(1, .box [vs aC.Source, vi aC.Kind, vs aC.Place, vs aC.Value, vi aC.Years.From, vi aC.Years.To, vi aC.Weight])]⟩ ?_
  refine SRun.nil ?_
  refine nx_n ?_
  refine swp_seq ?_
  refine swp_seq ?_
  refine swp_regJ h (fun j5 => ⟨50, [(1, .ref 1 0), (24, vb j5)], [(1, .box [vs aC.Source, vi aC.Kind, vs aC.Place, vs aC.Value, vi aC.Years.From, vi aC.Years.To, vi aC.Weight])]⟩) (fun v6 h => ?_) (fun j5 h => ?_)
  refine SRun.ck tbok 2 ⟨50, [(1, .ref 1 0), (4, vs aC.Source)], [(1, .box [vs aC.Source, vi aC.Kind, vs aC.Place, vs aC.Value, vi aC.Years.From, vi aC.Years.To, vi aC.Weight])]⟩ ?_
  obtain ⟨x1, hx1, h⟩ := bind_some h
  refine SRun.ls (x_lstep_call (f := 33) (caps := []) (xs := [vs aC.Source]) (ys := [vs aC.Source]) (res := ⟨[.v (vb x1)], [], false⟩) (x := vb x1) (y := none) rfl ents33 (spec_IsWord_run aC.Source _ hx1) rfl (by intro hc; cases hc)) ?_
  refine SRun.ck tbok 2 ⟨50, [(1, .ref 1 0), (7, vb (!x1))], [(1, .box [vs aC.Source, vi aC.Kind, vs aC.Place, vs aC.Value, vi aC.Years.From, vi aC.Years.To, vi aC.Weight])]⟩ ?_
  refine SRun.cut [(7, fun b => b)] (b := (!x1)) (by kernel_rfl) (fun hb => ?_) (fun hb => ?_)
  replace h := cond_t hb h
  refine SRun.ck tbok 17 ⟨50, [(1, .ref 1 0), (24, vb true)], [(1, .box [vs aC.Source, vi aC.Kind, vs aC.Place, vs aC.Value, vi aC.Years.From, vi aC.Years.To, vi aC.Weight])]⟩ ?_
  refine SRun.nil ?_
  replace h := Option.some.inj h
  subst h
  exact Le.sub0
  replace h := cond_f hb h
  refine SRun.ck tbok 2 ⟨50, [(1, .ref 1 0), (7, vb false), (9, vs aC.Place)], [(1, .box [vs aC.Source, vi aC.Kind, vs aC.Place, vs aC.Value, vi aC.Years.From, vi aC.Years.To, vi aC.Weight])]⟩ ?_
  obtain ⟨x2, hx2, h⟩ := bind_some h
  refine SRun.ls (x_lstep_call (f := 33) (caps := []) (xs := [vs aC.Place]) (ys := [vs aC.Place]) (res := ⟨[.v (vb x2)], [], false⟩) (x := vb x2) (y := none) rfl ents33 (spec_IsWord_run aC.Place _ hx2) rfl (by intro hc; cases hc)) ?_
  refine SRun.ck tbok 3 ⟨50, [(1, .ref 1 0), (13, vb (!x2))], [(1, .box [vs aC.Source, vi aC.Kind, vs aC.Place, vs aC.Value, vi aC.Years.From, vi aC.Years.To, vi aC.Weight])]⟩ ?_
  refine SRun.cut [(13, fun b => b)] (b := (!x2)) (by kernel_rfl) (fun hb => ?_) (fun hb => ?_)
  replace h := cond_t hb h
  refine SRun.ck tbok 11 ⟨50, [(1, .ref 1 0), (24, vb true)], [(1, .box [vs aC.Source, vi aC.Kind, vs aC.Place, vs aC.Value, vi aC.Years.From, vi aC.Years.To, vi aC.Weight])]⟩ ?_
  refine SRun.nil ?_
  replace h := Option.some.inj h
  subst h
  exact Le.sub0
  replace h := cond_f hb h
  refine SRun.ck tbok 2 ⟨50, [(1, .ref 1 0), (13, vb false), (15, .agg [vi aC.Years.From, vi aC.Years.To])], [(1, .box [vs aC.Source, vi aC.Kind, vs aC.Place, vs aC.Value, vi aC.Years.From, vi aC.Years.To, vi aC.Weight])]⟩ ?_
  obtain ⟨x3, hx3, h⟩ := bind_some h
  refine SRun.ls (x_lstep_call (f := 34) (caps := []) (xs := [.agg [vi aC.Years.From, vi aC.Years.To]]) (ys := [.agg [vi aC.Years.From, vi aC.Years.To]]) (res := ⟨[.v (vb x3)], [], false⟩) (x := vb x3) (y := none) rfl ents34 (spec_IsSpan_run aC.Years _ hx3) rfl (by intro hc; cases hc)) ?_
  refine SRun.ck tbok 3 ⟨50, [(1, .ref 1 0), (19, vb (!x3))], [(1, .box [vs aC.Source, vi aC.Kind, vs aC.Place, vs aC.Value, vi aC.Years.From, vi aC.Years.To, vi aC.Weight])]⟩ ?_
  refine SRun.cut [(19, fun b => b)] (b := (!x3)) (by kernel_rfl) (fun hb => ?_) (fun hb => ?_)
  replace h := cond_t hb h
  refine SRun.ck tbok 5 ⟨50, [(1, .ref 1 0), (24, vb true)], [(1, .box [vs aC.Source, vi aC.Kind, vs aC.Place, vs aC.Value, vi aC.Years.From, vi aC.Years.To, vi aC.Weight])]⟩ ?_
  refine SRun.nil ?_
  replace h := Option.some.inj h
  subst h
  exact Le.sub0
  replace h := cond_f hb h
  refine SRun.ck tbok 2 ⟨50, [(1, .ref 1 0), (19, vb false), (21, vi aC.Weight)], [(1, .box [vs aC.Source, vi aC.Kind, vs aC.Place, vs aC.Value, vi aC.Years.From, vi aC.Years.To, vi aC.Weight])]⟩ ?_
  obtain ⟨x4, hx4, h⟩ := bind_some h
  refine SRun.ls (x_lstep_call (f := 35) (caps := []) (xs := [vi aC.Weight, vi 1, vi 100]) (ys := [vi aC.Weight, vi 1, vi 100]) (res := ⟨[.v (vb x4)], [], false⟩) (x := vb x4) (y := none) rfl ents35 (spec_l01In_run aC.Weight 1 100 _ hx4) rfl (by intro hc; cases hc)) ?_
  refine SRun.ck tbok 2 ⟨50, [(1, .ref 1 0), (24, vb (!x4))], [(1, .box [vs aC.Source, vi aC.Kind, vs aC.Place, vs aC.Value, vi aC.Years.From, vi aC.Years.To, vi aC.Weight])]⟩ ?_
  refine SRun.nil ?_
  replace h := Option.some.inj h
  subst h
  exact Le.sub0
  refine swp_cond (b := j5) (by kernel_rfl) (fun hb => ?_) (fun hb => ?_)
  replace h := cond_t hb h
  refine swp_seq ?_
  refine swp_reg ?_
  refine SRun.ck tbok 1 ⟨50, [(2, vb false)], []⟩ ?_
  refine SRun.nil ?_
  refine nx_n ?_
  refine swp_ret ?_
  replace h := Option.some.inj h
  subst h
  exact nx_r (q_fr (fin1 (by kernel_rfl) (finV rfl SV.flat_of (holds_t (by kernel_rfl)))))
  replace h := cond_f hb h
  refine swp_skip ?_
  refine nx_n ?_
  refine swp_seq ?_
  refine swp_seq ?_
  refine swp_reg ?_
  refine SRun.ck tbok 2 ⟨50, [(1, .ref 1 0), (26, vi aC.Kind)], [(1, .box [vs aC.Source, vi aC.Kind, vs aC.Place, vs aC.Value, vi aC.Years.From, vi aC.Years.To, vi aC.Weight])]⟩ ?_
  refine SRun.nil ?_
  refine nx_n ?_
  refine swp_seqE (r := r) h (fun j7 => ⟨50, [], []⟩) (fun v8 h => ?_) (fun j7 h => ?_)
  refine swp_blk (a := v8) ?_
  refine swp_seq ?_
  refine swp_reg ?_
  refine SRun.ck tbok 2 ⟨50, [(1, .ref 1 0), (26, vi aC.Kind), (27, vb (aC.Kind == 0))], [(1, .box [vs aC.Source, vi aC.Kind, vs aC.Place, vs aC.Value, vi aC.Years.From, vi aC.Years.To, vi aC.Weight])]⟩ ?_
  refine SRun.nil ?_
  refine nx_n ?_
  refine swp_cond (b := (aC.Kind == 0)) (by kernel_rfl) (fun hb => ?_) (fun hb => ?_)
  replace h := cond_t hb h
  refine swp_seq ?_
  refine swp_reg ?_
  refine SRun.ck tbok 2 ⟨50, [(30, vs aC.Value)], []⟩ ?_
  obtain ⟨x9, hx9, h⟩ := bind_some h
  refine SRun.ls (x_lstep_call (f := 36) (caps := []) (xs := [vs aC.Value]) (ys := [vs aC.Value]) (res := ⟨[.v (vb x9)], [], false⟩) (x := vb x9) (y := none) rfl ents36 (spec_IsPhrase_run aC.Value _ hx9) rfl (by intro hc; cases hc)) ?_
  refine SRun.ck tbok 1 ⟨50, [(2, vb x9)], []⟩ ?_
  refine SRun.nil ?_
  refine nx_n ?_
  refine swp_ret ?_
  replace h := Option.some.inj h
  subst h
  exact q_br (q_rr (q_fr (fin1 (by kernel_rfl) (finV rfl SV.flat_of (holds_t (by kernel_rfl))))))
  replace h := cond_f hb h
  refine swp_seq ?_
  refine swp_reg ?_
  refine SRun.ck tbok 2 ⟨50, [(1, .ref 1 0), (26, vi aC.Kind), (32, vb (aC.Kind == 1))], [(1, .box [vs aC.Source, vi aC.Kind, vs aC.Place, vs aC.Value, vi aC.Years.From, vi aC.Years.To, vi aC.Weight])]⟩ ?_
  refine SRun.nil ?_
  refine nx_n ?_
  refine swp_cond (b := (aC.Kind == 1)) (by kernel_rfl) (fun hb => ?_) (fun hb => ?_)
  replace h := cond_t hb h
  refine swp_seq ?_
  refine swp_regJ h (fun j11 => ⟨50, [(2, vb j11)], []⟩) (fun v12 h => ?_) (fun j11 h => ?_)
  refine SRun.ck tbok 2 ⟨50, [(1, .ref 1 0), (35, vs aC.Value)], [(1, .box [vs aC.Source, vi aC.Kind, vs aC.Place, vs aC.Value, vi aC.Years.From, vi aC.Years.To, vi aC.Weight])]⟩ ?_
  obtain ⟨x10, hx10, h⟩ := bind_some h
  refine SRun.ls (x_lstep_call (f := 33) (caps := []) (xs := [vs aC.Value]) (ys := [vs aC.Value]) (res := ⟨[.v (vb x10)], [], false⟩) (x := vb x10) (y := none) rfl ents33 (spec_IsWord_run aC.Value _ hx10) rfl (by intro hc; cases hc)) ?_
  refine SRun.ck tbok 1 ⟨50, [(1, .ref 1 0), (37, vb x10)], [(1, .box [vs aC.Source, vi aC.Kind, vs aC.Place, vs aC.Value, vi aC.Years.From, vi aC.Years.To, vi aC.Weight])]⟩ ?_
  refine SRun.cut [(37, fun b => b)] (b := x10) (by kernel_rfl) (fun hb => ?_) (fun hb => ?_)
  replace h := cond_t hb h
  refine SRun.ck tbok 7 ⟨50, [(2, vb (!(aC.Value.toList == aC.Place.toList)))], []⟩ ?_
  refine SRun.nil ?_
  replace h := Option.some.inj h
  subst h
  exact Le.sub0
  replace h := cond_f hb h
  refine SRun.ck tbok 7 ⟨50, [(2, vb false)], []⟩ ?_
  refine SRun.nil ?_
  replace h := Option.some.inj h
  subst h
  exact Le.sub0
  refine swp_ret ?_
  replace h := Option.some.inj h
  subst h
  exact q_br (q_rr (q_fr (fin1 (by kernel_rfl) (finV rfl SV.flat_of (holds_t (by kernel_rfl))))))
  replace h := cond_f hb h
  refine swp_seq ?_
  refine swp_seq ?_
  refine swp_reg ?_
  refine SRun.ck tbok 2 ⟨50, [(1, .ref 1 0), (26, vi aC.Kind), (44, vb (aC.Kind == 2))], [(1, .box [vs aC.Source, vi aC.Kind, vs aC.Place, vs aC.Value, vi aC.Years.From, vi aC.Years.To, vi aC.Weight])]⟩ ?_
  refine SRun.nil ?_
  refine nx_n ?_
  refine swp_seqJ h (fun j13 => ⟨50, [(1, .ref 1 0), (44, vb j13)], [(1, .box [vs aC.Source, vi aC.Kind, vs aC.Place, vs aC.Value, vi aC.Years.From, vi aC.Years.To, vi aC.Weight])]⟩) (fun v14 h => ?_) (fun j13 h => ?_)
  refine swp_cond (b := (aC.Kind == 2)) (by kernel_rfl) (fun hb => ?_) (fun hb => ?_)
  replace h := cond_t hb h
  refine swp_skip ?_
  replace h := Option.some.inj h
  subst h
  exact q_j (Le.sub0)
  replace h := cond_f hb h
  refine swp_reg ?_
  refine SRun.ck tbok 2 ⟨50, [(1, .ref 1 0), (44, vb (aC.Kind == 3))], [(1, .box [vs aC.Source, vi aC.Kind, vs aC.Place, vs aC.Value, vi aC.Years.From, vi aC.Years.To, vi aC.Weight])]⟩ ?_
  refine SRun.nil ?_
  replace h := Option.some.inj h
  subst h
  exact q_j (Le.sub0)
  refine swp_cond (b := j13) (by kernel_rfl) (fun hb => ?_) (fun hb => ?_)
  replace h := cond_t hb h
  refine swp_seq ?_
  refine swp_reg ?_
  refine SRun.ck tbok 4 ⟨50, [(2, vb (aC.Value.toList == (ByteArray.mk #[]).toList))], []⟩ ?_
  refine SRun.nil ?_
  refine nx_n ?_
  refine swp_ret ?_
  replace h := Option.some.inj h
  subst h
  exact q_br (q_rr (q_fr (fin1 (by kernel_rfl) (finV rfl SV.flat_of (holds_t (by kernel_rfl))))))
  replace h := cond_f hb h
  refine swp_skip ?_
  replace h := Option.some.inj h
  subst h
  exact q_bn (q_l (Le.sub0))
  refine swp_seq ?_
  refine swp_reg ?_
  refine SRun.ck tbok 1 ⟨50, [(2, vb false)], []⟩ ?_
  refine SRun.nil ?_
  refine nx_n ?_
  refine swp_ret ?_
  replace h := Option.some.inj h
  subst h
  exact q_fr (fin1 (by kernel_rfl) (finV rfl SV.flat_of (holds_t (by kernel_rfl))))
theorem ents21 : Ents Tryd.prog 21 := ents_of Tryd.func21 (by kernel_rfl) rfl
noncomputable def spec_AreClaims (aList : (List Claim)) : Option (Bool) :=
  (((forN (aList.length : Int) (fun (i3 : Int) (_ : Unit) => ((at' aList i3).bind fun x7 => ((spec_IsClaim x7).bind fun x8 => (bif (!x8) then some (.inr (.inr false)) else some (.inl ()))))) (fun (_ : Unit) => .inl ()) 0 ())).bind (Sum.elim (fun (_ : Unit) => some (decide ((aList.length : Int) ≤ 12))) some))
set_option maxRecDepth 100000 in
set_option maxHeartbeats 4000000 in
theorem spec_AreClaims_run (aList : (List Claim)) (r : Bool) (h : spec_AreClaims aList = some r) : SCall Tryd.prog 11 [.v (vl eClaim aList)] ⟨[.v (vb r)], [], false⟩ := by
  refine scall_in Tryd.func11 rfl [(.tmp 2)] rfl (fun r => ⟨[.v (vb r)], [], false⟩) (r := r) ?_
  unfold spec_AreClaims at h
  refine swp_seq ?_
  refine swp_reg ?_
  refine SRun.ck tbok 1 ⟨19, [(0, vl eClaim aList)], []⟩ ?_
  refine SRun.nil ?_
  refine nx_n ?_
  refine swp_seq ?_
  refine swp_seq ?_
  refine swp_reg ?_
  refine SRun.ck tbok 1 ⟨19, [(0, vl eClaim aList), (3, vi 0)], []⟩ ?_
  refine SRun.nil ?_
  refine nx_n ?_
  refine swp_seqE (r := r) h (fun j1 => ⟨19, [(0, vl eClaim aList)], []⟩) (fun v2 h => ?_) (fun j1 h => ?_)
  refine swp_blk (a := v2) ?_
  refine swp_lpL (r := v2) (s := (0, ())) _ (fun s3 => ⟨19, [(0, vl eClaim aList), (3, vi s3.1)], []⟩) _ (Le.sub0) h (fun s3 v4 h => ?_)
  refine swp_seq ?_
  refine swp_seq ?_
  refine swp_reg ?_
  refine SRun.ck tbok 4 ⟨19, [(0, vl eClaim aList), (3, vi s3.1), (7, vb (decide (s3.1 < (aList.length : Int))))], []⟩ ?_
  refine SRun.nil ?_
  refine nx_n ?_
  refine swp_cond (b := (decide (s3.1 < (aList.length : Int)))) (by kernel_rfl) (fun hb => ?_) (fun hb => ?_)
  replace h := cond_t hb h
  refine swp_skip ?_
  refine nx_n ?_
  refine swp_seq ?_
  refine swp_seqL (r := v4) h (fun j5 => ⟨19, [(0, vl eClaim aList), (3, vi s3.1)], []⟩) (fun v6 h => ?_) (fun j5 h => ?_)
  refine swp_blk (a := v6) ?_
  refine swp_seq ?_
  refine swp_reg ?_
  refine SRun.ck tbok 2 ⟨19, [(0, vl eClaim aList), (3, vi s3.1), (10, vl eClaim aList), (11, vi s3.1)], []⟩ ?_
  obtain ⟨x7, hx7, h⟩ := bind_some h
  refine SRun.ls (x_index (L := aList) (f := eClaim) (ti := ti28) (tj := ti56) (e := 56) (k := .i64) tbok rfl hx7) ?_
  refine SRun.ck tbok 1 ⟨19, [(0, vl eClaim aList), (3, vi s3.1), (13, .agg [vs x7.Source, vi x7.Kind, vs x7.Place, vs x7.Value, vi x7.Years.From, vi x7.Years.To, vi x7.Weight])], []⟩ ?_
  obtain ⟨x8, hx8, h⟩ := bind_some h
  refine SRun.ls (x_lstep_call (f := 21) (caps := []) (xs := [.agg [vs x7.Source, vi x7.Kind, vs x7.Place, vs x7.Value, vi x7.Years.From, vi x7.Years.To, vi x7.Weight]]) (ys := [.agg [vs x7.Source, vi x7.Kind, vs x7.Place, vs x7.Value, vi x7.Years.From, vi x7.Years.To, vi x7.Weight]]) (res := ⟨[.v (vb x8)], [], false⟩) (x := vb x8) (y := none) rfl ents21 (spec_IsClaim_run x7 _ hx8) rfl (by intro hc; cases hc)) ?_
  refine SRun.ck tbok 1 ⟨19, [(0, vl eClaim aList), (3, vi s3.1), (15, vb (!x8))], []⟩ ?_
  refine SRun.nil ?_
  refine nx_n ?_
  refine swp_cond (b := (!x8)) (by kernel_rfl) (fun hb => ?_) (fun hb => ?_)
  replace h := cond_t hb h
  refine swp_seq ?_
  refine swp_reg ?_
  refine SRun.ck tbok 1 ⟨19, [(2, vb false)], []⟩ ?_
  refine SRun.nil ?_
  refine nx_n ?_
  refine swp_ret ?_
  replace h := Option.some.inj h
  subst h
  exact q_br (q_rr (q_rr (q_br (q_rr (q_fr (fin1 (by kernel_rfl) (finV rfl SV.flat_of (holds_t (by kernel_rfl)))))))))
  replace h := cond_f hb h
  refine swp_skip ?_
  replace h := Option.some.inj h
  subst h
  exact q_bn (q_l (Le.sub0))
  refine swp_reg ?_
  refine SRun.ck tbok 3 ⟨19, [(0, vl eClaim aList), (3, vi (w64 (s3.1 + 1)))], []⟩ ?_
  refine SRun.nil ?_
  replace h := Option.some.inj h
  subst h
  exact q_l (Le.sub0)
  replace h := cond_f hb h
  refine swp_exit ?_
  replace h := Option.some.inj h
  subst h
  exact nx_e (q_re (q_bh (q_l (Le.sub0))))
  refine swp_seq ?_
  refine swp_reg ?_
  refine SRun.ck tbok 4 ⟨19, [(2, vb (decide ((aList.length : Int) ≤ 12)))], []⟩ ?_
  refine SRun.nil ?_
  refine nx_n ?_
  refine swp_ret ?_
  replace h := Option.some.inj h
  subst h
  exact q_fr (fin1 (by kernel_rfl) (finV rfl SV.flat_of (holds_t (by kernel_rfl))))
theorem ents11 : Ents Tryd.prog 11 := ents_of Tryd.func11 (by kernel_rfl) rfl
noncomputable def spec_l26Word (aDirection : Int) : Option (ByteArray) :=
  ((at' ([(ByteArray.mk #[110, 111, 114, 116, 104]), (ByteArray.mk #[110, 111, 114, 116, 104, 101, 97, 115, 116]), (ByteArray.mk #[101, 97, 115, 116]), (ByteArray.mk #[115, 111, 117, 116, 104, 101, 97, 115, 116]), (ByteArray.mk #[115, 111, 117, 116, 104]), (ByteArray.mk #[115, 111, 117, 116, 104, 119, 101, 115, 116]), (ByteArray.mk #[119, 101, 115, 116]), (ByteArray.mk #[110, 111, 114, 116, 104, 119, 101, 115, 116])] : List ByteArray) aDirection).bind fun x1 => some x1)
set_option maxRecDepth 100000 in
set_option maxHeartbeats 4000000 in
theorem spec_l26Word_run (aDirection : Int) (r : ByteArray) (h : spec_l26Word aDirection = some r) : SCall Tryd.prog 51 [.v (vi aDirection)] ⟨[.v (vs r)], [], false⟩ := by
  refine scall_in Tryd.func51 rfl [(.tmp 2)] rfl (fun r => ⟨[.v (vs r)], [], false⟩) (r := r) ?_
  unfold spec_l26Word at h
  refine swp_seq ?_
  refine swp_reg ?_
  refine SRun.ck tbok 1 ⟨7, [(0, vi aDirection)], []⟩ ?_
  refine SRun.nil ?_
  refine nx_n ?_
  refine swp_seq ?_
  refine swp_reg ?_
  refine SRun.ck tbok 2 ⟨7, [(3, .own 3), (4, vi aDirection)], [(3, .arr 9 1 ([(ByteArray.mk #[110, 111, 114, 116, 104]), (ByteArray.mk #[110, 111, 114, 116, 104, 101, 97, 115, 116]), (ByteArray.mk #[101, 97, 115, 116]), (ByteArray.mk #[115, 111, 117, 116, 104, 101, 97, 115, 116]), (ByteArray.mk #[115, 111, 117, 116, 104]), (ByteArray.mk #[115, 111, 117, 116, 104, 119, 101, 115, 116]), (ByteArray.mk #[119, 101, 115, 116]), (ByteArray.mk #[110, 111, 114, 116, 104, 119, 101, 115, 116])] : List ByteArray).length (([(ByteArray.mk #[110, 111, 114, 116, 104]), (ByteArray.mk #[110, 111, 114, 116, 104, 101, 97, 115, 116]), (ByteArray.mk #[101, 97, 115, 116]), (ByteArray.mk #[115, 111, 117, 116, 104, 101, 97, 115, 116]), (ByteArray.mk #[115, 111, 117, 116, 104]), (ByteArray.mk #[115, 111, 117, 116, 104, 119, 101, 115, 116]), (ByteArray.mk #[119, 101, 115, 116]), (ByteArray.mk #[110, 111, 114, 116, 104, 119, 101, 115, 116])] : List ByteArray).map eS))]⟩ ?_
  obtain ⟨x1, hx1, h⟩ := bind_some h
  refine SRun.ls (x_index_own (d := 3) (L := ([(ByteArray.mk #[110, 111, 114, 116, 104]), (ByteArray.mk #[110, 111, 114, 116, 104, 101, 97, 115, 116]), (ByteArray.mk #[101, 97, 115, 116]), (ByteArray.mk #[115, 111, 117, 116, 104, 101, 97, 115, 116]), (ByteArray.mk #[115, 111, 117, 116, 104]), (ByteArray.mk #[115, 111, 117, 116, 104, 119, 101, 115, 116]), (ByteArray.mk #[119, 101, 115, 116]), (ByteArray.mk #[110, 111, 114, 116, 104, 119, 101, 115, 116])] : List ByteArray)) (f := eS) (ti := ti77) (tj := ti9) (e := 9) (e' := 9) (m := 1) (k := .i64) tbok rfl hx1) ?_
  refine SRun.ls (x_load_own (d := 3) (m := 1) (j := 0) (L := ([(ByteArray.mk #[110, 111, 114, 116, 104]), (ByteArray.mk #[110, 111, 114, 116, 104, 101, 97, 115, 116]), (ByteArray.mk #[101, 97, 115, 116]), (ByteArray.mk #[115, 111, 117, 116, 104, 101, 97, 115, 116]), (ByteArray.mk #[115, 111, 117, 116, 104]), (ByteArray.mk #[115, 111, 117, 116, 104, 119, 101, 115, 116]), (ByteArray.mk #[119, 101, 115, 116]), (ByteArray.mk #[110, 111, 114, 116, 104, 119, 101, 115, 116])] : List ByteArray)) (f := eS) (ti := ti9) (e := 9) (v := vs x1) tbok rfl hx1) ?_
  refine SRun.ck tbok 1 ⟨7, [(2, vs x1)], []⟩ ?_
  refine SRun.nil ?_
  refine nx_n ?_
  refine swp_ret ?_
  replace h := Option.some.inj h
  subst h
  exact q_fr (fin1 (by kernel_rfl) (finV rfl SV.flat_of (holds_t (by kernel_rfl))))
theorem ents51 : Ents Tryd.prog 51 := ents_of Tryd.func51 (by kernel_rfl) rfl
noncomputable def spec_l28Direction (aS : ByteArray) : Option (Int) :=
  (((forN 8 (fun (i3 : Int) (_ : Unit) => ((spec_l26Word i3).bind fun x7 => (bif (x7.toList == aS.toList) then some (.inr (.inr i3)) else some (.inl ())))) (fun (_ : Unit) => .inl ()) 0 ())).bind (Sum.elim (fun (_ : Unit) => some (-1)) some))
set_option maxRecDepth 100000 in
set_option maxHeartbeats 4000000 in
theorem spec_l28Direction_run (aS : ByteArray) (r : Int) (h : spec_l28Direction aS = some r) : SCall Tryd.prog 37 [.v (vs aS)] ⟨[.v (vi r)], [], false⟩ := by
  refine scall_in Tryd.func37 rfl [(.tmp 2)] rfl (fun r => ⟨[.v (vi r)], [], false⟩) (r := r) ?_
  unfold spec_l28Direction at h
  refine swp_seq ?_
  refine swp_reg ?_
  refine SRun.ck tbok 1 ⟨13, [(0, vs aS)], []⟩ ?_
  refine SRun.nil ?_
  refine nx_n ?_
  refine swp_seq ?_
  refine swp_seq ?_
  refine swp_reg ?_
  refine SRun.ck tbok 1 ⟨13, [(0, vs aS), (3, vi 0)], []⟩ ?_
  refine SRun.nil ?_
  refine nx_n ?_
  refine swp_seqE (r := r) h (fun j1 => ⟨13, [], []⟩) (fun v2 h => ?_) (fun j1 h => ?_)
  refine swp_blk (a := v2) ?_
  refine swp_lpL (r := v2) (s := (0, ())) _ (fun s3 => ⟨13, [(0, vs aS), (3, vi s3.1)], []⟩) _ (Le.sub0) h (fun s3 v4 h => ?_)
  refine swp_seq ?_
  refine swp_seq ?_
  refine swp_reg ?_
  refine SRun.ck tbok 2 ⟨13, [(0, vs aS), (3, vi s3.1), (5, vb (decide (s3.1 < 8)))], []⟩ ?_
  refine SRun.nil ?_
  refine nx_n ?_
  refine swp_cond (b := (decide (s3.1 < 8))) (by kernel_rfl) (fun hb => ?_) (fun hb => ?_)
  replace h := cond_t hb h
  refine swp_skip ?_
  refine nx_n ?_
  refine swp_seq ?_
  refine swp_seqL (r := v4) h (fun j5 => ⟨13, [(0, vs aS), (3, vi s3.1)], []⟩) (fun v6 h => ?_) (fun j5 h => ?_)
  refine swp_blk (a := v6) ?_
  refine swp_seq ?_
  refine swp_reg ?_
  refine SRun.ck tbok 1 ⟨13, [(0, vs aS), (3, vi s3.1), (8, vi s3.1)], []⟩ ?_
  obtain ⟨x7, hx7, h⟩ := bind_some h
  refine SRun.ls (x_lstep_call (f := 51) (caps := []) (xs := [vi s3.1]) (ys := [vi s3.1]) (res := ⟨[.v (vs x7)], [], false⟩) (x := vs x7) (y := none) rfl ents51 (spec_l26Word_run s3.1 _ hx7) rfl (by intro hc; cases hc)) ?_
  refine SRun.ck tbok 2 ⟨13, [(0, vs aS), (3, vi s3.1), (11, vb (x7.toList == aS.toList))], []⟩ ?_
  refine SRun.nil ?_
  refine nx_n ?_
  refine swp_cond (b := (x7.toList == aS.toList)) (by kernel_rfl) (fun hb => ?_) (fun hb => ?_)
  replace h := cond_t hb h
  refine swp_seq ?_
  refine swp_reg ?_
  refine SRun.ck tbok 2 ⟨13, [(2, vi s3.1)], []⟩ ?_
  refine SRun.nil ?_
  refine nx_n ?_
  refine swp_ret ?_
  replace h := Option.some.inj h
  subst h
  exact q_br (q_rr (q_rr (q_br (q_rr (q_fr (fin1 (by kernel_rfl) (finV rfl SV.flat_of (holds_t (by kernel_rfl)))))))))
  replace h := cond_f hb h
  refine swp_skip ?_
  replace h := Option.some.inj h
  subst h
  exact q_bn (q_l (Le.sub0))
  refine swp_reg ?_
  refine SRun.ck tbok 3 ⟨13, [(0, vs aS), (3, vi (w64 (s3.1 + 1)))], []⟩ ?_
  refine SRun.nil ?_
  replace h := Option.some.inj h
  subst h
  exact q_l (Le.sub0)
  replace h := cond_f hb h
  refine swp_exit ?_
  replace h := Option.some.inj h
  subst h
  exact nx_e (q_re (q_bh (q_l (Le.sub0))))
  refine swp_seq ?_
  refine swp_reg ?_
  refine SRun.ck tbok 1 ⟨13, [(2, vi (-1))], []⟩ ?_
  refine SRun.nil ?_
  refine nx_n ?_
  refine swp_ret ?_
  replace h := Option.some.inj h
  subst h
  exact q_fr (fin1 (by kernel_rfl) (finV rfl SV.flat_of (holds_t (by kernel_rfl))))
theorem ents37 : Ents Tryd.prog 37 := ents_of Tryd.func37 (by kernel_rfl) rfl
noncomputable def spec_l28Code (aS : ByteArray) : Option (Bool) :=
  (((((bif (aS.toList == (ByteArray.mk #[97, 116]).toList) then some (aS.toList == (ByteArray.mk #[97, 116]).toList) else (bif (aS.toList == (ByteArray.mk #[110, 101, 97, 114]).toList) then some (aS.toList == (ByteArray.mk #[110, 101, 97, 114]).toList) else (bif (aS.toList == (ByteArray.mk #[111, 102]).toList) then some (aS.toList == (ByteArray.mk #[111, 102]).toList) else (bif (aS.toList == (ByteArray.mk #[98, 101, 116, 119, 101, 101, 110]).toList) then some (aS.toList == (ByteArray.mk #[98, 101, 116, 119, 101, 101, 110]).toList) else (bif (aS.toList == (ByteArray.mk #[97, 110, 100]).toList) then some (aS.toList == (ByteArray.mk #[97, 110, 100]).toList) else (bif (aS.toList == (ByteArray.mk #[109, 105, 108, 101]).toList) then some (aS.toList == (ByteArray.mk #[109, 105, 108, 101]).toList) else (bif (aS.toList == (ByteArray.mk #[109, 105, 108, 101, 115]).toList) then some (aS.toList == (ByteArray.mk #[109, 105, 108, 101, 115]).toList) else (bif (aS.toList == (ByteArray.mk #[108, 101, 97, 103, 117, 101]).toList) then some (aS.toList == (ByteArray.mk #[108, 101, 97, 103, 117, 101]).toList) else some (aS.toList == (ByteArray.mk #[108, 101, 97, 103, 117, 101, 115]).toList)))))))))).bind fun (j3 : Bool) => (bif j3 then some (.inr false) else some (.inl ())))).bind (Sum.elim (fun (_ : Unit) => ((((spec_IsWord aS).bind fun x5 => (bif x5 then ((spec_l28Direction aS).bind fun x6 => some (decide (x6 < 0))) else some false))).bind fun (j7 : Bool) => some j7)) some))
set_option maxRecDepth 100000 in
set_option maxHeartbeats 4000000 in
theorem spec_l28Code_run (aS : ByteArray) (r : Bool) (h : spec_l28Code aS = some r) : SCall Tryd.prog 22 [.v (vs aS)] ⟨[.v (vb r)], [], false⟩ := by
  refine scall_in Tryd.func22 rfl [(.tmp 2)] rfl (fun r => ⟨[.v (vb r)], [], false⟩) (r := r) ?_
  unfold spec_l28Code at h
  refine swp_seq ?_
  refine swp_reg ?_
  refine SRun.ck tbok 1 ⟨21, [(0, vs aS)], []⟩ ?_
  refine SRun.nil ?_
  refine nx_n ?_
  refine swp_seq ?_
  refine swp_seq ?_
  refine swp_reg ?_
  refine SRun.ck tbok 1 ⟨21, [(0, vs aS), (3, vs aS)], []⟩ ?_
  refine SRun.nil ?_
  refine nx_n ?_
  refine swp_seqE (r := r) h (fun j1 => ⟨21, [(0, vs aS)], []⟩) (fun v2 h => ?_) (fun j1 h => ?_)
  refine swp_blk (a := v2) ?_
  refine swp_seq ?_
  refine swp_seq ?_
  refine swp_reg ?_
  refine SRun.ck tbok 2 ⟨21, [(0, vs aS), (3, vs aS), (4, vb (aS.toList == (ByteArray.mk #[97, 116]).toList))], []⟩ ?_
  refine SRun.nil ?_
  refine nx_n ?_
  refine swp_seqJ h (fun j3 => ⟨21, [(0, vs aS), (4, vb j3)], []⟩) (fun v4 h => ?_) (fun j3 h => ?_)
  refine swp_cond (b := (aS.toList == (ByteArray.mk #[97, 116]).toList)) (by kernel_rfl) (fun hb => ?_) (fun hb => ?_)
  replace h := cond_t hb h
  refine swp_skip ?_
  replace h := Option.some.inj h
  subst h
  exact q_j (Le.sub0)
  replace h := cond_f hb h
  refine swp_seq ?_
  refine swp_reg ?_
  refine SRun.ck tbok 2 ⟨21, [(0, vs aS), (3, vs aS), (4, vb (aS.toList == (ByteArray.mk #[110, 101, 97, 114]).toList))], []⟩ ?_
  refine SRun.nil ?_
  refine nx_n ?_
  refine swp_cond (b := (aS.toList == (ByteArray.mk #[110, 101, 97, 114]).toList)) (by kernel_rfl) (fun hb => ?_) (fun hb => ?_)
  replace h := cond_t hb h
  refine swp_skip ?_
  replace h := Option.some.inj h
  subst h
  exact q_j (Le.sub0)
  replace h := cond_f hb h
  refine swp_seq ?_
  refine swp_reg ?_
  refine SRun.ck tbok 2 ⟨21, [(0, vs aS), (3, vs aS), (4, vb (aS.toList == (ByteArray.mk #[111, 102]).toList))], []⟩ ?_
  refine SRun.nil ?_
  refine nx_n ?_
  refine swp_cond (b := (aS.toList == (ByteArray.mk #[111, 102]).toList)) (by kernel_rfl) (fun hb => ?_) (fun hb => ?_)
  replace h := cond_t hb h
  refine swp_skip ?_
  replace h := Option.some.inj h
  subst h
  exact q_j (Le.sub0)
  replace h := cond_f hb h
  refine swp_seq ?_
  refine swp_reg ?_
  refine SRun.ck tbok 2 ⟨21, [(0, vs aS), (3, vs aS), (4, vb (aS.toList == (ByteArray.mk #[98, 101, 116, 119, 101, 101, 110]).toList))], []⟩ ?_
  refine SRun.nil ?_
  refine nx_n ?_
  refine swp_cond (b := (aS.toList == (ByteArray.mk #[98, 101, 116, 119, 101, 101, 110]).toList)) (by kernel_rfl) (fun hb => ?_) (fun hb => ?_)
  replace h := cond_t hb h
  refine swp_skip ?_
  replace h := Option.some.inj h
  subst h
  exact q_j (Le.sub0)
  replace h := cond_f hb h
  refine swp_seq ?_
  refine swp_reg ?_
  refine SRun.ck tbok 2 ⟨21, [(0, vs aS), (3, vs aS), (4, vb (aS.toList == (ByteArray.mk #[97, 110, 100]).toList))], []⟩ ?_
  refine SRun.nil ?_
  refine nx_n ?_
  refine swp_cond (b := (aS.toList == (ByteArray.mk #[97, 110, 100]).toList)) (by kernel_rfl) (fun hb => ?_) (fun hb => ?_)
  replace h := cond_t hb h
  refine swp_skip ?_
  replace h := Option.some.inj h
  subst h
  exact q_j (Le.sub0)
  replace h := cond_f hb h
  refine swp_seq ?_
  refine swp_reg ?_
  refine SRun.ck tbok 2 ⟨21, [(0, vs aS), (3, vs aS), (4, vb (aS.toList == (ByteArray.mk #[109, 105, 108, 101]).toList))], []⟩ ?_
  refine SRun.nil ?_
  refine nx_n ?_
  refine swp_cond (b := (aS.toList == (ByteArray.mk #[109, 105, 108, 101]).toList)) (by kernel_rfl) (fun hb => ?_) (fun hb => ?_)
  replace h := cond_t hb h
  refine swp_skip ?_
  replace h := Option.some.inj h
  subst h
  exact q_j (Le.sub0)
  replace h := cond_f hb h
  refine swp_seq ?_
  refine swp_reg ?_
  refine SRun.ck tbok 2 ⟨21, [(0, vs aS), (3, vs aS), (4, vb (aS.toList == (ByteArray.mk #[109, 105, 108, 101, 115]).toList))], []⟩ ?_
  refine SRun.nil ?_
  refine nx_n ?_
  refine swp_cond (b := (aS.toList == (ByteArray.mk #[109, 105, 108, 101, 115]).toList)) (by kernel_rfl) (fun hb => ?_) (fun hb => ?_)
  replace h := cond_t hb h
  refine swp_skip ?_
  replace h := Option.some.inj h
  subst h
  exact q_j (Le.sub0)
  replace h := cond_f hb h
  refine swp_seq ?_
  refine swp_reg ?_
  refine SRun.ck tbok 2 ⟨21, [(0, vs aS), (3, vs aS), (4, vb (aS.toList == (ByteArray.mk #[108, 101, 97, 103, 117, 101]).toList))], []⟩ ?_
  refine SRun.nil ?_
  refine nx_n ?_
  refine swp_cond (b := (aS.toList == (ByteArray.mk #[108, 101, 97, 103, 117, 101]).toList)) (by kernel_rfl) (fun hb => ?_) (fun hb => ?_)
  replace h := cond_t hb h
  refine swp_skip ?_
  replace h := Option.some.inj h
  subst h
  exact q_j (Le.sub0)
  replace h := cond_f hb h
  refine swp_reg ?_
  refine SRun.ck tbok 2 ⟨21, [(0, vs aS), (4, vb (aS.toList == (ByteArray.mk #[108, 101, 97, 103, 117, 101, 115]).toList))], []⟩ ?_
  refine SRun.nil ?_
  replace h := Option.some.inj h
  subst h
  exact q_j (Le.sub0)
  refine swp_cond (b := j3) (by kernel_rfl) (fun hb => ?_) (fun hb => ?_)
  replace h := cond_t hb h
  refine swp_seq ?_
  refine swp_reg ?_
  refine SRun.ck tbok 1 ⟨21, [(2, vb false)], []⟩ ?_
  refine SRun.nil ?_
  refine nx_n ?_
  refine swp_ret ?_
  replace h := Option.some.inj h
  subst h
  exact q_br (q_rr (q_fr (fin1 (by kernel_rfl) (finV rfl SV.flat_of (holds_t (by kernel_rfl))))))
  replace h := cond_f hb h
  refine swp_skip ?_
  replace h := Option.some.inj h
  subst h
  exact q_bn (q_l (Le.sub0))
  refine swp_seq ?_
  refine swp_regJ h (fun j7 => ⟨21, [(2, vb j7)], []⟩) (fun v8 h => ?_) (fun j7 h => ?_)
  refine SRun.ck tbok 1 ⟨21, [(0, vs aS), (14, vs aS)], []⟩ ?_
  obtain ⟨x5, hx5, h⟩ := bind_some h
  refine SRun.ls (x_lstep_call (f := 33) (caps := []) (xs := [vs aS]) (ys := [vs aS]) (res := ⟨[.v (vb x5)], [], false⟩) (x := vb x5) (y := none) rfl ents33 (spec_IsWord_run aS _ hx5) rfl (by intro hc; cases hc)) ?_
  refine SRun.ck tbok 1 ⟨21, [(0, vs aS), (16, vb x5)], []⟩ ?_
  refine SRun.cut [(16, fun b => b)] (b := x5) (by kernel_rfl) (fun hb => ?_) (fun hb => ?_)
  replace h := cond_t hb h
  refine SRun.ck tbok 1 ⟨21, [(16, vb true), (17, vs aS)], []⟩ ?_
  obtain ⟨x6, hx6, h⟩ := bind_some h
  refine SRun.ls (x_lstep_call (f := 37) (caps := []) (xs := [vs aS]) (ys := [vs aS]) (res := ⟨[.v (vi x6)], [], false⟩) (x := vi x6) (y := none) rfl ents37 (spec_l28Direction_run aS _ hx6) rfl (by intro hc; cases hc)) ?_
  refine SRun.ck tbok 3 ⟨21, [(2, vb (decide (x6 < 0)))], []⟩ ?_
  refine SRun.nil ?_
  replace h := Option.some.inj h
  subst h
  exact Le.sub0
  replace h := cond_f hb h
  refine SRun.ck tbok 5 ⟨21, [(2, vb false)], []⟩ ?_
  refine SRun.nil ?_
  replace h := Option.some.inj h
  subst h
  exact Le.sub0
  refine swp_ret ?_
  replace h := Option.some.inj h
  subst h
  exact q_fr (fin1 (by kernel_rfl) (finV rfl SV.flat_of (holds_t (by kernel_rfl))))
theorem ents22 : Ents Tryd.prog 22 := ents_of Tryd.func22 (by kernel_rfl) rfl
noncomputable def spec_IsPoint (aP : Point) : Option (Bool) :=
  ((((spec_l01In aP.X (-1000) 1000).bind fun x1 => (bif x1 then ((spec_l01In aP.Y (-1000) 1000).bind fun x2 => some x2) else some false))).bind fun (j3 : Bool) => some j3)
set_option maxRecDepth 100000 in
set_option maxHeartbeats 4000000 in
theorem spec_IsPoint_run (aP : Point) (r : Bool) (h : spec_IsPoint aP = some r) : SCall Tryd.prog 23 [.v (.agg [vi aP.X, vi aP.Y])] ⟨[.v (vb r)], [], false⟩ := by
  refine scall_in Tryd.func23 rfl [(.tmp 2)] rfl (fun r => ⟨[.v (vb r)], [], false⟩) (r := r) ?_
  unfold spec_IsPoint at h
  refine swp_seq ?_
  refine swp_reg ?_
  refine SRun.ck tbok 2 ⟨11, [(1, .ref 1 0)], [(1, .box [vi aP.X, vi aP.Y])]⟩ ?_
  refine SRun.nil ?_
  refine nx_n ?_
  refine swp_seq ?_
  refine swp_regJ h (fun j3 => ⟨11, [(2, vb j3)], []⟩) (fun v4 h => ?_) (fun j3 h => ?_)
  refine SRun.ck tbok 2 ⟨11, [(1, .ref 1 0), (4, vi aP.X)], [(1, .box [vi aP.X, vi aP.Y])]⟩ ?_
  obtain ⟨x1, hx1, h⟩ := bind_some h
  refine SRun.ls (x_lstep_call (f := 35) (caps := []) (xs := [vi aP.X, vi (-1000), vi 1000]) (ys := [vi aP.X, vi (-1000), vi 1000]) (res := ⟨[.v (vb x1)], [], false⟩) (x := vb x1) (y := none) rfl ents35 (spec_l01In_run aP.X (-1000) 1000 _ hx1) rfl (by intro hc; cases hc)) ?_
  refine SRun.ck tbok 1 ⟨11, [(1, .ref 1 0), (6, vb x1)], [(1, .box [vi aP.X, vi aP.Y])]⟩ ?_
  refine SRun.cut [(6, fun b => b)] (b := x1) (by kernel_rfl) (fun hb => ?_) (fun hb => ?_)
  replace h := cond_t hb h
  refine SRun.ck tbok 2 ⟨11, [(6, vb true), (8, vi aP.Y)], []⟩ ?_
  obtain ⟨x2, hx2, h⟩ := bind_some h
  refine SRun.ls (x_lstep_call (f := 35) (caps := []) (xs := [vi aP.Y, vi (-1000), vi 1000]) (ys := [vi aP.Y, vi (-1000), vi 1000]) (res := ⟨[.v (vb x2)], [], false⟩) (x := vb x2) (y := none) rfl ents35 (spec_l01In_run aP.Y (-1000) 1000 _ hx2) rfl (by intro hc; cases hc)) ?_
  refine SRun.ck tbok 2 ⟨11, [(2, vb x2)], []⟩ ?_
  refine SRun.nil ?_
  replace h := Option.some.inj h
  subst h
  exact Le.sub0
  replace h := cond_f hb h
  refine SRun.ck tbok 5 ⟨11, [(2, vb false)], []⟩ ?_
  refine SRun.nil ?_
  replace h := Option.some.inj h
  subst h
  exact Le.sub0
  refine swp_ret ?_
  replace h := Option.some.inj h
  subst h
  exact q_fr (fin1 (by kernel_rfl) (finV rfl SV.flat_of (holds_t (by kernel_rfl))))
theorem ents23 : Ents Tryd.prog 23 := ents_of Tryd.func23 (by kernel_rfl) rfl
noncomputable def spec_AreSites (aList : (List Site)) : Option (Bool) :=
  (((forN (aList.length : Int) (fun (i3 : Int) (_ : Unit) => ((((at' aList i3).bind fun x7 => ((spec_l28Code x7.Code).bind fun x8 => (bif (!x8) then some true else ((at' aList i3).bind fun x9 => ((spec_IsPoint x9.At).bind fun x10 => (bif (!x10) then some true else (bif (decide (i3 > 0)) then ((at' aList (w64 (i3 - 1))).bind fun x11 => ((at' aList i3).bind fun x12 => some (!(Op.bytesLess x11.Code.toList x12.Code.toList)))) else some false)))))))).bind fun (j13 : Bool) => (bif j13 then some (.inr (.inr false)) else some (.inl ())))) (fun (_ : Unit) => .inl ()) 0 ())).bind (Sum.elim (fun (_ : Unit) => some (decide ((aList.length : Int) ≤ 10))) some))
set_option maxRecDepth 100000 in
set_option maxHeartbeats 4000000 in
theorem spec_AreSites_run (aList : (List Site)) (r : Bool) (h : spec_AreSites aList = some r) : SCall Tryd.prog 12 [.v (vl eSite aList)] ⟨[.v (vb r)], [], false⟩ := by
  refine scall_in Tryd.func12 rfl [(.tmp 2)] rfl (fun r => ⟨[.v (vb r)], [], false⟩) (r := r) ?_
  unfold spec_AreSites at h
  refine swp_seq ?_
  refine swp_reg ?_
  refine SRun.ck tbok 1 ⟨47, [(0, vl eSite aList)], []⟩ ?_
  refine SRun.nil ?_
  refine nx_n ?_
  refine swp_seq ?_
  refine swp_seq ?_
  refine swp_reg ?_
  refine SRun.ck tbok 1 ⟨47, [(0, vl eSite aList), (3, vi 0)], []⟩ ?_
  refine SRun.nil ?_
  refine nx_n ?_
  refine swp_seqE (r := r) h (fun j1 => ⟨47, [(0, vl eSite aList)], []⟩) (fun v2 h => ?_) (fun j1 h => ?_)
  refine swp_blk (a := v2) ?_
  refine swp_lpL (r := v2) (s := (0, ())) _ (fun s3 => ⟨47, [(0, vl eSite aList), (3, vi s3.1)], []⟩) _ (Le.sub0) h (fun s3 v4 h => ?_)
  refine swp_seq ?_
  refine swp_seq ?_
  refine swp_reg ?_
  refine SRun.ck tbok 4 ⟨47, [(0, vl eSite aList), (3, vi s3.1), (7, vb (decide (s3.1 < (aList.length : Int))))], []⟩ ?_
  refine SRun.nil ?_
  refine nx_n ?_
  refine swp_cond (b := (decide (s3.1 < (aList.length : Int)))) (by kernel_rfl) (fun hb => ?_) (fun hb => ?_)
  replace h := cond_t hb h
  refine swp_skip ?_
  refine nx_n ?_
  refine swp_seq ?_
  refine swp_seqL (r := v4) h (fun j5 => ⟨47, [(0, vl eSite aList), (3, vi s3.1)], []⟩) (fun v6 h => ?_) (fun j5 h => ?_)
  refine swp_blk (a := v6) ?_
  refine swp_seq ?_
  refine swp_drJ mixed h (fun j13 => ⟨47, [(0, vl eSite aList), (3, vi s3.1), (43, vb j13)], []⟩) (fun v14 h => ?_) (fun j13 h => ?_)
  refine DGo.chunk' tbok 2 (σ' := ⟨47, [(11, vi s3.1), (10, vl eSite aList), (0, vl eSite aList), (3, vi s3.1), (7, vb (decide (s3.1 < (aList.length : Int))))], []⟩) (by kernel_rfl) ?_
  obtain ⟨x7, hx7, h⟩ := bind_some h
  refine DGo.step (x_index (L := aList) (f := eSite) (ti := ti29) (tj := ti60) (e := 60) (k := .i64) tbok rfl hx7) ?_
  refine DGo.chunk' tbok 2 (σ' := ⟨47, [(14, vs x7.Code), (13, .ptr ((eSite x7).map .tr) 0), (12, .ptr ((eSite x7).map .tr) 0), (11, vi s3.1), (10, vl eSite aList), (0, vl eSite aList), (3, vi s3.1), (7, vb (decide (s3.1 < (aList.length : Int))))], []⟩) (by kernel_rfl) ?_
  obtain ⟨x8, hx8, h⟩ := bind_some h
  refine DGo.step (x_lstep_call (f := 22) (caps := []) (xs := [vs x7.Code]) (ys := [vs x7.Code]) (res := ⟨[.v (vb x8)], [], false⟩) (x := vb x8) (y := none) rfl ents22 (spec_l28Code_run x7.Code _ hx8) rfl (by intro hc; cases hc)) ?_
  refine DGo.chunk' tbok 2 (σ' := ⟨47, [(17, vb (!x8)), (16, vb (!x8)), (15, vb x8), (14, vs x7.Code), (13, .ptr ((eSite x7).map .tr) 0), (12, .ptr ((eSite x7).map .tr) 0), (11, vi s3.1), (10, vl eSite aList), (0, vl eSite aList), (3, vi s3.1), (7, vb (decide (s3.1 < (aList.length : Int))))], []⟩) (by kernel_rfl) ?_
  refine DGo.cut [(17, fun b => b), (16, fun b => b)] (b := (!x8)) (by kernel_rfl) (fun hb => ?_) (fun hb => ?_)
  replace h := cond_t hb h
  refine DGo.chunk' tbok 26 (σ' := ⟨47, [(43, vb true), (42, .tup []), (41, .tup []), (40, .tup []), (39, .tup []), (38, .tup []), (37, .tup []), (36, .tup []), (35, .tup []), (34, .tup []), (33, .tup []), (32, .tup []), (31, .tup []), (30, .tup []), (29, .tup []), (28, .tup []), (27, .tup []), (26, vb true), (25, vb true), (24, .tup []), (23, .tup []), (22, .tup []), (21, .tup []), (20, .tup []), (19, .tup []), (18, .tup []), (17, vb true), (16, vb true), (15, vb x8), (14, vs x7.Code), (13, .ptr ((eSite x7).map .tr) 0), (12, .ptr ((eSite x7).map .tr) 0), (11, vi s3.1), (10, vl eSite aList), (0, vl eSite aList), (3, vi s3.1), (7, vb (decide (s3.1 < (aList.length : Int))))], []⟩) (by kernel_rfl) ?_
  refine DGo.nil (by kernel_rfl) ?_
  replace h := Option.some.inj h
  subst h
  exact Le.sub0
  replace h := cond_f hb h
  refine DGo.chunk' tbok 2 (σ' := ⟨47, [(19, vi s3.1), (18, vl eSite aList), (17, vb false), (16, vb false), (15, vb x8), (14, vs x7.Code), (13, .ptr ((eSite x7).map .tr) 0), (12, .ptr ((eSite x7).map .tr) 0), (11, vi s3.1), (10, vl eSite aList), (0, vl eSite aList), (3, vi s3.1), (7, vb (decide (s3.1 < (aList.length : Int))))], []⟩) (by kernel_rfl) ?_
  obtain ⟨x9, hx9, h⟩ := bind_some h
  refine DGo.step (x_index (L := aList) (f := eSite) (ti := ti29) (tj := ti60) (e := 60) (k := .i64) tbok rfl hx9) ?_
  refine DGo.chunk' tbok 2 (σ' := ⟨47, [(22, .agg [vi x9.At.X, vi x9.At.Y]), (21, .ptr ((eSite x9).map .tr) 1), (20, .ptr ((eSite x9).map .tr) 0), (19, vi s3.1), (18, vl eSite aList), (17, vb false), (16, vb false), (15, vb x8), (14, vs x7.Code), (13, .ptr ((eSite x7).map .tr) 0), (12, .ptr ((eSite x7).map .tr) 0), (11, vi s3.1), (10, vl eSite aList), (0, vl eSite aList), (3, vi s3.1), (7, vb (decide (s3.1 < (aList.length : Int))))], []⟩) (by kernel_rfl) ?_
  obtain ⟨x10, hx10, h⟩ := bind_some h
  refine DGo.step (x_lstep_call (f := 23) (caps := []) (xs := [.agg [vi x9.At.X, vi x9.At.Y]]) (ys := [.agg [vi x9.At.X, vi x9.At.Y]]) (res := ⟨[.v (vb x10)], [], false⟩) (x := vb x10) (y := none) rfl ents23 (spec_IsPoint_run x9.At _ hx10) rfl (by intro hc; cases hc)) ?_
  refine DGo.chunk' tbok 3 (σ' := ⟨47, [(26, vb (!x10)), (25, vb (!x10)), (24, vb (!x10)), (23, vb x10), (22, .agg [vi x9.At.X, vi x9.At.Y]), (21, .ptr ((eSite x9).map .tr) 1), (20, .ptr ((eSite x9).map .tr) 0), (19, vi s3.1), (18, vl eSite aList), (17, vb false), (16, vb false), (15, vb x8), (14, vs x7.Code), (13, .ptr ((eSite x7).map .tr) 0), (12, .ptr ((eSite x7).map .tr) 0), (11, vi s3.1), (10, vl eSite aList), (0, vl eSite aList), (3, vi s3.1), (7, vb (decide (s3.1 < (aList.length : Int))))], []⟩) (by kernel_rfl) ?_
  refine DGo.cut [(26, fun b => b), (25, fun b => b), (24, fun b => b)] (b := (!x10)) (by kernel_rfl) (fun hb => ?_) (fun hb => ?_)
  replace h := cond_t hb h
  refine DGo.chunk' tbok 17 (σ' := ⟨47, [(43, vb true), (42, .tup []), (41, .tup []), (40, .tup []), (39, .tup []), (38, .tup []), (37, .tup []), (36, .tup []), (35, .tup []), (34, .tup []), (33, .tup []), (32, .tup []), (31, .tup []), (30, .tup []), (29, .tup []), (28, .tup []), (27, .tup []), (26, vb true), (25, vb true), (24, vb true), (23, vb x10), (22, .agg [vi x9.At.X, vi x9.At.Y]), (21, .ptr ((eSite x9).map .tr) 1), (20, .ptr ((eSite x9).map .tr) 0), (19, vi s3.1), (18, vl eSite aList), (17, vb false), (16, vb false), (15, vb x8), (14, vs x7.Code), (13, .ptr ((eSite x7).map .tr) 0), (12, .ptr ((eSite x7).map .tr) 0), (11, vi s3.1), (10, vl eSite aList), (0, vl eSite aList), (3, vi s3.1), (7, vb (decide (s3.1 < (aList.length : Int))))], []⟩) (by kernel_rfl) ?_
  refine DGo.nil (by kernel_rfl) ?_
  replace h := Option.some.inj h
  subst h
  exact Le.sub0
  replace h := cond_f hb h
  refine DGo.chunk' tbok 3 (σ' := ⟨47, [(29, vb (decide (s3.1 > 0))), (28, vb (decide (s3.1 > 0))), (27, vi s3.1), (26, vb false), (25, vb false), (24, vb false), (23, vb x10), (22, .agg [vi x9.At.X, vi x9.At.Y]), (21, .ptr ((eSite x9).map .tr) 1), (20, .ptr ((eSite x9).map .tr) 0), (19, vi s3.1), (18, vl eSite aList), (17, vb false), (16, vb false), (15, vb x8), (14, vs x7.Code), (13, .ptr ((eSite x7).map .tr) 0), (12, .ptr ((eSite x7).map .tr) 0), (11, vi s3.1), (10, vl eSite aList), (0, vl eSite aList), (3, vi s3.1), (7, vb (decide (s3.1 < (aList.length : Int))))], []⟩) (by kernel_rfl) ?_
  refine DGo.cut [(29, fun b => b), (28, fun b => b)] (b := (decide (s3.1 > 0))) (by kernel_rfl) (fun hb => ?_) (fun hb => ?_)
  replace h := cond_t hb h
  refine DGo.chunk' tbok 3 (σ' := ⟨47, [(32, vi (w64 (s3.1 - 1))), (31, vi s3.1), (30, vl eSite aList), (29, vb true), (28, vb true), (27, vi s3.1), (26, vb false), (25, vb false), (24, vb false), (23, vb x10), (22, .agg [vi x9.At.X, vi x9.At.Y]), (21, .ptr ((eSite x9).map .tr) 1), (20, .ptr ((eSite x9).map .tr) 0), (19, vi s3.1), (18, vl eSite aList), (17, vb false), (16, vb false), (15, vb x8), (14, vs x7.Code), (13, .ptr ((eSite x7).map .tr) 0), (12, .ptr ((eSite x7).map .tr) 0), (11, vi s3.1), (10, vl eSite aList), (0, vl eSite aList), (3, vi s3.1), (7, vb (decide (s3.1 < (aList.length : Int))))], []⟩) (by kernel_rfl) ?_
  obtain ⟨x11, hx11, h⟩ := bind_some h
  refine DGo.step (x_index (L := aList) (f := eSite) (ti := ti29) (tj := ti60) (e := 60) (k := .i64) tbok rfl hx11) ?_
  refine DGo.chunk' tbok 4 (σ' := ⟨47, [(37, vi s3.1), (36, vl eSite aList), (35, vs x11.Code), (34, .ptr ((eSite x11).map .tr) 0), (33, .ptr ((eSite x11).map .tr) 0), (32, vi (w64 (s3.1 - 1))), (31, vi s3.1), (30, vl eSite aList), (29, vb true), (28, vb true), (27, vi s3.1), (26, vb false), (25, vb false), (24, vb false), (23, vb x10), (22, .agg [vi x9.At.X, vi x9.At.Y]), (21, .ptr ((eSite x9).map .tr) 1), (20, .ptr ((eSite x9).map .tr) 0), (19, vi s3.1), (18, vl eSite aList), (17, vb false), (16, vb false), (15, vb x8), (14, vs x7.Code), (13, .ptr ((eSite x7).map .tr) 0), (12, .ptr ((eSite x7).map .tr) 0), (11, vi s3.1), (10, vl eSite aList), (0, vl eSite aList), (3, vi s3.1), (7, vb (decide (s3.1 < (aList.length : Int))))], []⟩) (by kernel_rfl) ?_
  obtain ⟨x12, hx12, h⟩ := bind_some h
  refine DGo.step (x_index (L := aList) (f := eSite) (ti := ti29) (tj := ti60) (e := 60) (k := .i64) tbok rfl hx12) ?_
  refine DGo.chunk' tbok 5 (σ' := ⟨47, [(43, vb (!(Op.bytesLess x11.Code.toList x12.Code.toList))), (42, vb (!(Op.bytesLess x11.Code.toList x12.Code.toList))), (41, vb (!(Op.bytesLess x11.Code.toList x12.Code.toList))), (40, vs x12.Code), (39, .ptr ((eSite x12).map .tr) 0), (38, .ptr ((eSite x12).map .tr) 0), (37, vi s3.1), (36, vl eSite aList), (35, vs x11.Code), (34, .ptr ((eSite x11).map .tr) 0), (33, .ptr ((eSite x11).map .tr) 0), (32, vi (w64 (s3.1 - 1))), (31, vi s3.1), (30, vl eSite aList), (29, vb true), (28, vb true), (27, vi s3.1), (26, vb false), (25, vb false), (24, vb false), (23, vb x10), (22, .agg [vi x9.At.X, vi x9.At.Y]), (21, .ptr ((eSite x9).map .tr) 1), (20, .ptr ((eSite x9).map .tr) 0), (19, vi s3.1), (18, vl eSite aList), (17, vb false), (16, vb false), (15, vb x8), (14, vs x7.Code), (13, .ptr ((eSite x7).map .tr) 0), (12, .ptr ((eSite x7).map .tr) 0), (11, vi s3.1), (10, vl eSite aList), (0, vl eSite aList), (3, vi s3.1), (7, vb (decide (s3.1 < (aList.length : Int))))], []⟩) (by kernel_rfl) ?_
  refine DGo.nil (by kernel_rfl) ?_
  replace h := Option.some.inj h
  subst h
  exact Le.sub0
  replace h := cond_f hb h
  refine DGo.chunk' tbok 14 (σ' := ⟨47, [(43, vb false), (42, vb false), (41, .tup []), (40, .tup []), (39, .tup []), (38, .tup []), (37, .tup []), (36, .tup []), (35, .tup []), (34, .tup []), (33, .tup []), (32, .tup []), (31, .tup []), (30, .tup []), (29, vb false), (28, vb false), (27, vi s3.1), (26, vb false), (25, vb false), (24, vb false), (23, vb x10), (22, .agg [vi x9.At.X, vi x9.At.Y]), (21, .ptr ((eSite x9).map .tr) 1), (20, .ptr ((eSite x9).map .tr) 0), (19, vi s3.1), (18, vl eSite aList), (17, vb false), (16, vb false), (15, vb x8), (14, vs x7.Code), (13, .ptr ((eSite x7).map .tr) 0), (12, .ptr ((eSite x7).map .tr) 0), (11, vi s3.1), (10, vl eSite aList), (0, vl eSite aList), (3, vi s3.1), (7, vb (decide (s3.1 < (aList.length : Int))))], []⟩) (by kernel_rfl) ?_
  refine DGo.nil (by kernel_rfl) ?_
  replace h := Option.some.inj h
  subst h
  exact Le.sub0
  refine swp_cond (b := j13) (by kernel_rfl) (fun hb => ?_) (fun hb => ?_)
  replace h := cond_t hb h
  refine swp_seq ?_
  refine swp_reg ?_
  refine SRun.ck tbok 1 ⟨47, [(2, vb false)], []⟩ ?_
  refine SRun.nil ?_
  refine nx_n ?_
  refine swp_ret ?_
  replace h := Option.some.inj h
  subst h
  exact q_br (q_rr (q_rr (q_br (q_rr (q_fr (fin1 (by kernel_rfl) (finV rfl SV.flat_of (holds_t (by kernel_rfl)))))))))
  replace h := cond_f hb h
  refine swp_skip ?_
  replace h := Option.some.inj h
  subst h
  exact q_bn (q_l (Le.sub0))
  refine swp_reg ?_
  refine SRun.ck tbok 3 ⟨47, [(0, vl eSite aList), (3, vi (w64 (s3.1 + 1)))], []⟩ ?_
  refine SRun.nil ?_
  replace h := Option.some.inj h
  subst h
  exact q_l (Le.sub0)
  replace h := cond_f hb h
  refine swp_exit ?_
  replace h := Option.some.inj h
  subst h
  exact nx_e (q_re (q_bh (q_l (Le.sub0))))
  refine swp_seq ?_
  refine swp_reg ?_
  refine SRun.ck tbok 4 ⟨47, [(2, vb (decide ((aList.length : Int) ≤ 10)))], []⟩ ?_
  refine SRun.nil ?_
  refine nx_n ?_
  refine swp_ret ?_
  replace h := Option.some.inj h
  subst h
  exact q_fr (fin1 (by kernel_rfl) (finV rfl SV.flat_of (holds_t (by kernel_rfl))))
theorem ents12 : Ents Tryd.prog 12 := ents_of Tryd.func12 (by kernel_rfl) rfl
noncomputable def spec_IsDesk (aD : Desk) : Option (Bool) :=
  ((((spec_AreClaims aD.Claims).bind fun x1 => (bif x1 then ((spec_AreSites aD.Sites).bind fun x2 => some x2) else some false))).bind fun (j3 : Bool) => some j3)
set_option maxRecDepth 100000 in
set_option maxHeartbeats 4000000 in
theorem spec_IsDesk_run (aD : Desk) (r : Bool) (h : spec_IsDesk aD = some r) : SCall Tryd.prog 5 [.v (.agg [vl eClaim aD.Claims, vl eSite aD.Sites])] ⟨[.v (vb r)], [], false⟩ := by
  refine scall_in Tryd.func5 rfl [(.tmp 2)] rfl (fun r => ⟨[.v (vb r)], [], false⟩) (r := r) ?_
  unfold spec_IsDesk at h
  refine swp_seq ?_
  refine swp_reg ?_
  refine SRun.ck tbok 2 ⟨11, [(1, .ref 1 0)], [(1, .box [vl eClaim aD.Claims, vl eSite aD.Sites])]⟩ ?_
  refine SRun.nil ?_
  refine nx_n ?_
  refine swp_seq ?_
  refine swp_regJ h (fun j3 => ⟨11, [(2, vb j3)], []⟩) (fun v4 h => ?_) (fun j3 h => ?_)
  refine SRun.ck tbok 2 ⟨11, [(1, .ref 1 0), (4, vl eClaim aD.Claims)], [(1, .box [vl eClaim aD.Claims, vl eSite aD.Sites])]⟩ ?_
  obtain ⟨x1, hx1, h⟩ := bind_some h
  refine SRun.ls (x_lstep_call (f := 11) (caps := []) (xs := [vl eClaim aD.Claims]) (ys := [vl eClaim aD.Claims]) (res := ⟨[.v (vb x1)], [], false⟩) (x := vb x1) (y := none) rfl ents11 (spec_AreClaims_run aD.Claims _ hx1) rfl (by intro hc; cases hc)) ?_
  refine SRun.ck tbok 1 ⟨11, [(1, .ref 1 0), (6, vb x1)], [(1, .box [vl eClaim aD.Claims, vl eSite aD.Sites])]⟩ ?_
  refine SRun.cut [(6, fun b => b)] (b := x1) (by kernel_rfl) (fun hb => ?_) (fun hb => ?_)
  replace h := cond_t hb h
  refine SRun.ck tbok 2 ⟨11, [(6, vb true), (8, vl eSite aD.Sites)], []⟩ ?_
  obtain ⟨x2, hx2, h⟩ := bind_some h
  refine SRun.ls (x_lstep_call (f := 12) (caps := []) (xs := [vl eSite aD.Sites]) (ys := [vl eSite aD.Sites]) (res := ⟨[.v (vb x2)], [], false⟩) (x := vb x2) (y := none) rfl ents12 (spec_AreSites_run aD.Sites _ hx2) rfl (by intro hc; cases hc)) ?_
  refine SRun.ck tbok 2 ⟨11, [(2, vb x2)], []⟩ ?_
  refine SRun.nil ?_
  replace h := Option.some.inj h
  subst h
  exact Le.sub0
  replace h := cond_f hb h
  refine SRun.ck tbok 5 ⟨11, [(2, vb false)], []⟩ ?_
  refine SRun.nil ?_
  replace h := Option.some.inj h
  subst h
  exact Le.sub0
  refine swp_ret ?_
  replace h := Option.some.inj h
  subst h
  exact q_fr (fin1 (by kernel_rfl) (finV rfl SV.flat_of (holds_t (by kernel_rfl))))
theorem ents5 : Ents Tryd.prog 5 := ents_of Tryd.func5 (by kernel_rfl) rfl
noncomputable def impl_within (aX : Int) (aLow : Int) (aHigh : Int) : Option (Bool) :=
  some ((decide (aX ≥ aLow)) && (decide (aX ≤ aHigh)))
set_option maxRecDepth 100000 in
set_option maxHeartbeats 4000000 in
theorem impl_within_run (aX : Int) (aLow : Int) (aHigh : Int) (r : Bool) (h : impl_within aX aLow aHigh = some r) : SCall Tryd.prog 44 [.v (vi aX), .v (vi aLow), .v (vi aHigh)] ⟨[.v (vb r)], [], false⟩ := by
  refine scall_in Tryd.func44 rfl [(.tmp 6)] rfl (fun r => ⟨[.v (vb r)], [], false⟩) (r := r) ?_
  unfold impl_within at h
  refine swp_seq ?_
  refine swp_reg ?_
  refine SRun.ck tbok 1 ⟨15, [(0, vi aX), (1, vi aLow), (2, vi aHigh)], []⟩ ?_
  refine SRun.nil ?_
  refine nx_n ?_
  refine swp_seq ?_
  refine swp_regP ⟨15, [(6, vb ((decide (aX ≥ aLow)) && (decide (aX ≤ aHigh))))], []⟩ ?_ ?_
  refine SRun.ck tbok 4 ⟨15, [(0, vi aX), (2, vi aHigh), (10, vb (decide (aX ≥ aLow)))], []⟩ ?_
  generalize (decide (aX ≥ aLow)) = bb
  cases bb
  refine SRun.ck tbok 5 ⟨15, [(6, vb false)], []⟩ ?_
  exact SRun.nil (Le.sub0)
  refine SRun.ck tbok 5 ⟨15, [(6, vb (decide (aX ≤ aHigh)))], []⟩ ?_
  exact SRun.nil (Le.sub0)
  refine swp_ret ?_
  replace h := Option.some.inj h
  subst h
  exact q_fr (fin1 (by kernel_rfl) (finV rfl SV.flat_of (holds_t (by kernel_rfl))))
theorem ents44 : Ents Tryd.prog 44 := ents_of Tryd.func44 (by kernel_rfl) rfl
theorem strings_Trim_run (s c r : ByteArray) (h : strings_Trim s c = some r) : SCall Tryd.prog 58 [.v (.tr (.str s)), .v (.tr (.str c))] ⟨[.v (.tr (.str r))], [], false⟩ := trim_run Tryd.lays160 (by kernel_rfl) 58 rfl s c r h
theorem ents58 : Ents Tryd.prog 58 := ents_of Tryd.func58 (by kernel_rfl) rfl
noncomputable def impl_isSmall (aS : ByteArray) (aLeast : Int) (aMost : Int) : Option (Bool) :=
  ((((impl_within (aS.size : Int) aLeast aMost).bind fun x1 => (bif x1 then ((strings_Trim aS (ByteArray.mk #[97, 98, 99, 100, 101, 102, 103, 104, 105, 106, 107, 108, 109, 110, 111, 112, 113, 114, 115, 116, 117, 118, 119, 120, 121, 122])).bind fun x2 => some (x2.toList == (ByteArray.mk #[]).toList)) else some false))).bind fun (j3 : Bool) => some j3)
set_option maxRecDepth 100000 in
set_option maxHeartbeats 4000000 in
theorem impl_isSmall_run (aS : ByteArray) (aLeast : Int) (aMost : Int) (r : Bool) (h : impl_isSmall aS aLeast aMost = some r) : SCall Tryd.prog 54 [.v (vs aS), .v (vi aLeast), .v (vi aMost)] ⟨[.v (vb r)], [], false⟩ := by
  refine scall_in Tryd.func54 rfl [(.tmp 6)] rfl (fun r => ⟨[.v (vb r)], [], false⟩) (r := r) ?_
  unfold impl_isSmall at h
  refine swp_seq ?_
  refine swp_reg ?_
  refine SRun.ck tbok 1 ⟨17, [(0, vs aS), (1, vi aLeast), (2, vi aMost)], []⟩ ?_
  refine SRun.nil ?_
  refine nx_n ?_
  refine swp_seq ?_
  refine swp_regJ h (fun j3 => ⟨17, [(6, vb j3)], []⟩) (fun v4 h => ?_) (fun j3 h => ?_)
  refine SRun.ck tbok 4 ⟨17, [(0, vs aS), (8, vi (aS.size : Int)), (9, vi aLeast), (10, vi aMost)], []⟩ ?_
  obtain ⟨x1, hx1, h⟩ := bind_some h
  refine SRun.ls (x_lstep_call (f := 44) (caps := []) (xs := [vi (aS.size : Int), vi aLeast, vi aMost]) (ys := [vi (aS.size : Int), vi aLeast, vi aMost]) (res := ⟨[.v (vb x1)], [], false⟩) (x := vb x1) (y := none) rfl ents44 (impl_within_run (aS.size : Int) aLeast aMost _ hx1) rfl (by intro hc; cases hc)) ?_
  refine SRun.ck tbok 1 ⟨17, [(0, vs aS), (12, vb x1)], []⟩ ?_
  refine SRun.cut [(12, fun b => b)] (b := x1) (by kernel_rfl) (fun hb => ?_) (fun hb => ?_)
  replace h := cond_t hb h
  refine SRun.ck tbok 1 ⟨17, [(12, vb true), (13, vs aS)], []⟩ ?_
  obtain ⟨x2, hx2, h⟩ := bind_some h
  refine SRun.ls (x_lstep_call (f := 58) (caps := []) (xs := [vs aS, vs (ByteArray.mk #[97, 98, 99, 100, 101, 102, 103, 104, 105, 106, 107, 108, 109, 110, 111, 112, 113, 114, 115, 116, 117, 118, 119, 120, 121, 122])]) (ys := [vs aS, vs (ByteArray.mk #[97, 98, 99, 100, 101, 102, 103, 104, 105, 106, 107, 108, 109, 110, 111, 112, 113, 114, 115, 116, 117, 118, 119, 120, 121, 122])]) (res := ⟨[.v (vs x2)], [], false⟩) (x := vs x2) (y := none) rfl ents58 (strings_Trim_run aS (ByteArray.mk #[97, 98, 99, 100, 101, 102, 103, 104, 105, 106, 107, 108, 109, 110, 111, 112, 113, 114, 115, 116, 117, 118, 119, 120, 121, 122]) _ hx2) rfl (by intro hc; cases hc)) ?_
  refine SRun.ck tbok 3 ⟨17, [(6, vb (x2.toList == (ByteArray.mk #[]).toList))], []⟩ ?_
  refine SRun.nil ?_
  replace h := Option.some.inj h
  subst h
  exact Le.sub0
  replace h := cond_f hb h
  refine SRun.ck tbok 5 ⟨17, [(6, vb false)], []⟩ ?_
  refine SRun.nil ?_
  replace h := Option.some.inj h
  subst h
  exact Le.sub0
  refine swp_ret ?_
  replace h := Option.some.inj h
  subst h
  exact q_fr (fin1 (by kernel_rfl) (finV rfl SV.flat_of (holds_t (by kernel_rfl))))
theorem ents54 : Ents Tryd.prog 54 := ents_of Tryd.func54 (by kernel_rfl) rfl
noncomputable def impl_IsWord (aS : ByteArray) : Option (Bool) :=
  ((impl_isSmall aS 1 16).bind fun x1 => some x1)
set_option maxRecDepth 100000 in
set_option maxHeartbeats 4000000 in
theorem impl_IsWord_run (aS : ByteArray) (r : Bool) (h : impl_IsWord aS = some r) : SCall Tryd.prog 45 [.v (vs aS)] ⟨[.v (vb r)], [], false⟩ := by
  refine scall_in Tryd.func45 rfl [(.tmp 2)] rfl (fun r => ⟨[.v (vb r)], [], false⟩) (r := r) ?_
  unfold impl_IsWord at h
  refine swp_seq ?_
  refine swp_reg ?_
  refine SRun.ck tbok 1 ⟨5, [(0, vs aS)], []⟩ ?_
  refine SRun.nil ?_
  refine nx_n ?_
  refine swp_seq ?_
  refine swp_reg ?_
  refine SRun.ck tbok 1 ⟨5, [(3, vs aS)], []⟩ ?_
  obtain ⟨x1, hx1, h⟩ := bind_some h
  refine SRun.ls (x_lstep_call (f := 54) (caps := []) (xs := [vs aS, vi 1, vi 16]) (ys := [vs aS, vi 1, vi 16]) (res := ⟨[.v (vb x1)], [], false⟩) (x := vb x1) (y := none) rfl ents54 (impl_isSmall_run aS 1 16 _ hx1) rfl (by intro hc; cases hc)) ?_
  refine SRun.ck tbok 1 ⟨5, [(2, vb x1)], []⟩ ?_
  refine SRun.nil ?_
  refine nx_n ?_
  refine swp_ret ?_
  replace h := Option.some.inj h
  subst h
  exact q_fr (fin1 (by kernel_rfl) (finV rfl SV.flat_of (holds_t (by kernel_rfl))))
theorem ents45 : Ents Tryd.prog 45 := ents_of Tryd.func45 (by kernel_rfl) rfl
noncomputable def impl_areWords (aList : (List ByteArray)) : Option (Bool) :=
  (((forN (aList.length : Int) (fun (i3 : Int) (_ : Unit) => ((at' aList i3).bind fun x7 => ((impl_IsWord x7).bind fun x8 => (bif (!x8) then some (.inr (.inr false)) else some (.inl ()))))) (fun (_ : Unit) => .inl ()) 0 ())).bind (Sum.elim (fun (_ : Unit) => some true) some))
set_option maxRecDepth 100000 in
set_option maxHeartbeats 4000000 in
theorem impl_areWords_run (aList : (List ByteArray)) (r : Bool) (h : impl_areWords aList = some r) : SCall Tryd.prog 41 [.v (vl eS aList)] ⟨[.v (vb r)], [], false⟩ := by
  refine scall_in Tryd.func41 rfl [(.tmp 2)] rfl (fun r => ⟨[.v (vb r)], [], false⟩) (r := r) ?_
  unfold impl_areWords at h
  refine swp_seq ?_
  refine swp_reg ?_
  refine SRun.ck tbok 1 ⟨15, [(0, vl eS aList)], []⟩ ?_
  refine SRun.nil ?_
  refine nx_n ?_
  refine swp_seq ?_
  refine swp_seq ?_
  refine swp_reg ?_
  refine SRun.ck tbok 3 ⟨15, [(5, vl eS aList), (6, vi (aList.length : Int)), (7, vi 0)], []⟩ ?_
  refine SRun.nil ?_
  refine nx_n ?_
  refine swp_seqE (r := r) h (fun j1 => ⟨15, [], []⟩) (fun v2 h => ?_) (fun j1 h => ?_)
  refine swp_blk (a := v2) ?_
  refine swp_lpL (r := v2) (s := (0, ())) _ (fun s3 => ⟨15, [(5, vl eS aList), (6, vi (aList.length : Int)), (7, vi s3.1)], []⟩) _ (Le.sub0) h (fun s3 v4 h => ?_)
  refine swp_seq ?_
  refine swp_reg ?_
  refine SRun.ck tbok 1 ⟨15, [(5, vl eS aList), (6, vi (aList.length : Int)), (7, vi s3.1), (8, vb (decide (s3.1 < (aList.length : Int))))], []⟩ ?_
  refine SRun.nil ?_
  refine nx_n ?_
  refine swp_seq ?_
  refine swp_cond (b := (decide (s3.1 < (aList.length : Int)))) (by kernel_rfl) (fun hb => ?_) (fun hb => ?_)
  replace h := cond_t hb h
  refine swp_skip ?_
  refine nx_n ?_
  refine swp_seq ?_
  refine swp_seqL (r := v4) h (fun j5 => ⟨15, [(5, vl eS aList), (6, vi (aList.length : Int)), (7, vi s3.1)], []⟩) (fun v6 h => ?_) (fun j5 h => ?_)
  refine swp_blk (a := v6) ?_
  refine swp_seq ?_
  refine swp_reg ?_
  obtain ⟨x7, hx7, h⟩ := bind_some h
  refine SRun.ls (x_index (L := aList) (f := eS) (ti := ti77) (tj := ti9) (e := 9) (k := .i64) tbok rfl hx7) ?_
  refine SRun.ck tbok 2 ⟨15, [(4, vs x7), (5, vl eS aList), (6, vi (aList.length : Int)), (7, vi s3.1)], []⟩ ?_
  refine SRun.nil ?_
  refine nx_n ?_
  refine swp_seq ?_
  refine swp_reg ?_
  refine SRun.ck tbok 1 ⟨15, [(5, vl eS aList), (6, vi (aList.length : Int)), (7, vi s3.1), (11, vs x7)], []⟩ ?_
  obtain ⟨x8, hx8, h⟩ := bind_some h
  refine SRun.ls (x_lstep_call (f := 45) (caps := []) (xs := [vs x7]) (ys := [vs x7]) (res := ⟨[.v (vb x8)], [], false⟩) (x := vb x8) (y := none) rfl ents45 (impl_IsWord_run x7 _ hx8) rfl (by intro hc; cases hc)) ?_
  refine SRun.ck tbok 1 ⟨15, [(5, vl eS aList), (6, vi (aList.length : Int)), (7, vi s3.1), (13, vb (!x8))], []⟩ ?_
  refine SRun.nil ?_
  refine nx_n ?_
  refine swp_cond (b := (!x8)) (by kernel_rfl) (fun hb => ?_) (fun hb => ?_)
  replace h := cond_t hb h
  refine swp_seq ?_
  refine swp_reg ?_
  refine SRun.ck tbok 1 ⟨15, [(2, vb false)], []⟩ ?_
  refine SRun.nil ?_
  refine nx_n ?_
  refine swp_ret ?_
  replace h := Option.some.inj h
  subst h
  exact q_br (q_rr (q_rr (q_br (q_rr (q_fr (fin1 (by kernel_rfl) (finV rfl SV.flat_of (holds_t (by kernel_rfl)))))))))
  replace h := cond_f hb h
  refine swp_skip ?_
  replace h := Option.some.inj h
  subst h
  exact q_bn (q_l (Le.sub0))
  refine swp_reg ?_
  refine SRun.ck tbok 2 ⟨15, [(5, vl eS aList), (6, vi (aList.length : Int)), (7, vi (w64 (s3.1 + 1)))], []⟩ ?_
  refine SRun.nil ?_
  replace h := Option.some.inj h
  subst h
  exact q_l (Le.sub0)
  replace h := cond_f hb h
  refine swp_exit ?_
  replace h := Option.some.inj h
  subst h
  exact nx_e (q_re (q_bh (q_l (Le.sub0))))
  refine swp_seq ?_
  refine swp_reg ?_
  refine SRun.ck tbok 1 ⟨15, [(2, vb true)], []⟩ ?_
  refine SRun.nil ?_
  refine nx_n ?_
  refine swp_ret ?_
  replace h := Option.some.inj h
  subst h
  exact q_fr (fin1 (by kernel_rfl) (finV rfl SV.flat_of (holds_t (by kernel_rfl))))
theorem ents41 : Ents Tryd.prog 41 := ents_of Tryd.func41 (by kernel_rfl) rfl
theorem strings_Split_run (s c : ByteArray) (r : List ByteArray) (h : strings_Split s c = some r) : SCall Tryd.prog 60 [.v (.tr (.str s)), .v (.tr (.str c))] ⟨[.own 9 1 r.length (r.map eS)], [], false⟩ := split_run Tryd.lays146 (by kernel_rfl) 60 9 rfl rfl s c r h
theorem ents60 : Ents Tryd.prog 60 := ents_of Tryd.func60 (by kernel_rfl) rfl
noncomputable def impl_wordsOf (aS : ByteArray) : Option ((List ByteArray)) :=
  ((strings_Split aS (ByteArray.mk #[32])).bind fun x1 => some x1)
set_option maxRecDepth 100000 in
set_option maxHeartbeats 4000000 in
theorem impl_wordsOf_run (aS : ByteArray) (r : (List ByteArray)) (h : impl_wordsOf aS = some r) : SCall Tryd.prog 57 [.v (vs aS)] ⟨[.own 9 1 r.length (r.map eS)], [], false⟩ := by
  refine scall_in Tryd.func57 rfl [(.tmp 2)] rfl (fun r => ⟨[.own 9 1 r.length (r.map eS)], [], false⟩) (r := r) ?_
  unfold impl_wordsOf at h
  refine swp_seq ?_
  refine swp_reg ?_
  refine SRun.ck tbok 1 ⟨5, [(0, vs aS)], []⟩ ?_
  refine SRun.nil ?_
  refine nx_n ?_
  refine swp_seq ?_
  refine swp_reg ?_
  refine SRun.ck tbok 1 ⟨5, [(3, vs aS)], []⟩ ?_
  obtain ⟨x1, hx1, h⟩ := bind_some h
  refine SRun.ls (x_lstep_call (f := 60) (caps := []) (xs := [vs aS, vs (ByteArray.mk #[32])]) (ys := [vs aS, vs (ByteArray.mk #[32])]) (res := ⟨[.own 9 1 x1.length (x1.map eS)], [], false⟩) (x := .own 4) (y := some (.arr 9 1 x1.length (x1.map eS))) rfl ents60 (strings_Split_run aS (ByteArray.mk #[32]) _ hx1) rfl (by intro hc; cases hc)) ?_
  refine SRun.ck tbok 1 ⟨5, [(2, .own 4)], [(4, .arr 9 1 x1.length (x1.map eS))]⟩ ?_
  refine SRun.nil ?_
  refine nx_n ?_
  refine swp_ret ?_
  replace h := Option.some.inj h
  subst h
  exact q_fr (fin1 (by kernel_rfl) (finO (d := 4) (holds_t (by kernel_rfl)) (by kernel_rfl) (flat_map eS_flat _) (by kernel_rfl)))
theorem ents57 : Ents Tryd.prog 57 := ents_of Tryd.func57 (by kernel_rfl) rfl
noncomputable def impl_IsPhrase (aS : ByteArray) : Option (Bool) :=
  ((impl_wordsOf aS).bind fun x1 => (((bif (decide ((x1.length : Int) ≤ 8)) then ((impl_areWords x1).bind fun x2 => some x2) else some false)).bind fun (j3 : Bool) => some j3))
set_option maxRecDepth 100000 in
set_option maxHeartbeats 4000000 in
theorem impl_IsPhrase_run (aS : ByteArray) (r : Bool) (h : impl_IsPhrase aS = some r) : SCall Tryd.prog 52 [.v (vs aS)] ⟨[.v (vb r)], [], false⟩ := by
  refine scall_in Tryd.func52 rfl [(.tmp 2)] rfl (fun r => ⟨[.v (vb r)], [], false⟩) (r := r) ?_
  unfold impl_IsPhrase at h
  refine swp_seq ?_
  refine swp_reg ?_
  refine SRun.ck tbok 1 ⟨13, [(0, vs aS)], []⟩ ?_
  refine SRun.nil ?_
  refine nx_n ?_
  refine swp_seq ?_
  refine swp_reg ?_
  refine SRun.ck tbok 1 ⟨13, [(4, vs aS)], []⟩ ?_
  obtain ⟨x1, hx1, h⟩ := bind_some h
  refine SRun.ls (x_lstep_call (f := 57) (caps := []) (xs := [vs aS]) (ys := [vs aS]) (res := ⟨[.own 9 1 x1.length (x1.map eS)], [], false⟩) (x := .own 5) (y := some (.arr 9 1 x1.length (x1.map eS))) rfl ents57 (impl_wordsOf_run aS _ hx1) rfl (by intro hc; cases hc)) ?_
  refine SRun.ck tbok 1 ⟨13, [(3, .own 5)], [(5, .arr 9 1 x1.length (x1.map eS))]⟩ ?_
  refine SRun.nil ?_
  refine nx_n ?_
  refine swp_seq ?_
  refine swp_regJ h (fun j3 => ⟨13, [(2, vb j3)], []⟩) (fun v4 h => ?_) (fun j3 h => ?_)
  refine SRun.ck tbok 4 ⟨13, [(3, .own 5), (9, vb (decide ((x1.length : Int) ≤ 8)))], [(5, .arr 9 1 x1.length (x1.map eS))]⟩ ?_
  refine SRun.cut [(9, fun b => b)] (b := (decide ((x1.length : Int) ≤ 8))) (by kernel_rfl) (fun hb => ?_) (fun hb => ?_)
  replace h := cond_t hb h
  refine SRun.ck tbok 1 ⟨13, [(9, vb true), (10, .own 5)], [(5, .arr 9 1 x1.length (x1.map eS))]⟩ ?_
  obtain ⟨x2, hx2, h⟩ := bind_some h
  refine SRun.ls (x_lstep_call (f := 41) (caps := []) (xs := [.own 5]) (ys := [vl eS x1]) (res := ⟨[.v (vb x2)], [], false⟩) (x := vb x2) (y := none) rfl ents41 (impl_areWords_run x1 _ hx2) rfl (by intro hc; cases hc)) ?_
  refine SRun.ck tbok 2 ⟨13, [(2, vb x2)], []⟩ ?_
  refine SRun.nil ?_
  replace h := Option.some.inj h
  subst h
  exact Le.sub0
  replace h := cond_f hb h
  refine SRun.ck tbok 4 ⟨13, [(2, vb false)], []⟩ ?_
  refine SRun.nil ?_
  replace h := Option.some.inj h
  subst h
  exact Le.sub0
  refine swp_ret ?_
  replace h := Option.some.inj h
  subst h
  exact q_fr (fin1 (by kernel_rfl) (finV rfl SV.flat_of (holds_t (by kernel_rfl))))
theorem ents52 : Ents Tryd.prog 52 := ents_of Tryd.func52 (by kernel_rfl) rfl
noncomputable def impl_isClaimValue (aC : Claim) : Option (Bool) :=
  (((bif (aC.Kind == 0) then ((impl_IsPhrase aC.Value).bind fun x3 => some (.inr x3)) else (bif (aC.Kind == 1) then ((((impl_IsWord aC.Value).bind fun x4 => (bif x4 then some (!(aC.Value.toList == aC.Place.toList)) else some false))).bind fun (j5 : Bool) => some (.inr j5)) else (((bif (aC.Kind == 2) then some (aC.Kind == 2) else some (aC.Kind == 3))).bind fun (j7 : Bool) => (bif j7 then some (.inr (aC.Value.toList == (ByteArray.mk #[]).toList)) else some (.inl ())))))).bind (Sum.elim (fun (_ : Unit) => some false) some))
set_option maxRecDepth 100000 in
set_option maxHeartbeats 4000000 in
theorem impl_isClaimValue_run (aC : Claim) (r : Bool) (h : impl_isClaimValue aC = some r) : SCall Tryd.prog 42 [.v (.agg [vs aC.Source, vi aC.Kind, vs aC.Place, vs aC.Value, vi aC.Years.From, vi aC.Years.To, vi aC.Weight])] ⟨[.v (vb r)], [], false⟩ := by
  refine scall_in Tryd.func42 rfl [(.tmp 2)] rfl (fun r => ⟨[.v (vb r)], [], false⟩) (r := r) ?_
  unfold impl_isClaimValue at h
  refine swp_seq ?_
  refine swp_reg ?_
  refine SRun.ck tbok 2 ⟨28, [(1, .ref 1 0)], [(1, .box [vs aC.Source, vi aC.Kind, vs aC.Place, vs aC.Value, vi aC.Years.From, vi aC.Years.To, vi aC.Weight])]⟩ ?_
  refine SRun.nil ?_
  refine nx_n ?_
  refine swp_seq ?_
  refine swp_seq ?_
  refine swp_reg ?_
  refine SRun.ck tbok 2 ⟨28, [(1, .ref 1 0), (4, vi aC.Kind)], [(1, .box [vs aC.Source, vi aC.Kind, vs aC.Place, vs aC.Value, vi aC.Years.From, vi aC.Years.To, vi aC.Weight])]⟩ ?_
  refine SRun.nil ?_
  refine nx_n ?_
  refine swp_seqE (r := r) h (fun j1 => ⟨28, [], []⟩) (fun v2 h => ?_) (fun j1 h => ?_)
  refine swp_blk (a := v2) ?_
  refine swp_seq ?_
  refine swp_reg ?_
  refine SRun.ck tbok 2 ⟨28, [(1, .ref 1 0), (4, vi aC.Kind), (5, vb (aC.Kind == 0))], [(1, .box [vs aC.Source, vi aC.Kind, vs aC.Place, vs aC.Value, vi aC.Years.From, vi aC.Years.To, vi aC.Weight])]⟩ ?_
  refine SRun.nil ?_
  refine nx_n ?_
  refine swp_cond (b := (aC.Kind == 0)) (by kernel_rfl) (fun hb => ?_) (fun hb => ?_)
  replace h := cond_t hb h
  refine swp_seq ?_
  refine swp_reg ?_
  refine SRun.ck tbok 2 ⟨28, [(8, vs aC.Value)], []⟩ ?_
  obtain ⟨x3, hx3, h⟩ := bind_some h
  refine SRun.ls (x_lstep_call (f := 52) (caps := []) (xs := [vs aC.Value]) (ys := [vs aC.Value]) (res := ⟨[.v (vb x3)], [], false⟩) (x := vb x3) (y := none) rfl ents52 (impl_IsPhrase_run aC.Value _ hx3) rfl (by intro hc; cases hc)) ?_
  refine SRun.ck tbok 1 ⟨28, [(2, vb x3)], []⟩ ?_
  refine SRun.nil ?_
  refine nx_n ?_
  refine swp_ret ?_
  replace h := Option.some.inj h
  subst h
  exact q_br (q_rr (q_fr (fin1 (by kernel_rfl) (finV rfl SV.flat_of (holds_t (by kernel_rfl))))))
  replace h := cond_f hb h
  refine swp_seq ?_
  refine swp_reg ?_
  refine SRun.ck tbok 2 ⟨28, [(1, .ref 1 0), (4, vi aC.Kind), (10, vb (aC.Kind == 1))], [(1, .box [vs aC.Source, vi aC.Kind, vs aC.Place, vs aC.Value, vi aC.Years.From, vi aC.Years.To, vi aC.Weight])]⟩ ?_
  refine SRun.nil ?_
  refine nx_n ?_
  refine swp_cond (b := (aC.Kind == 1)) (by kernel_rfl) (fun hb => ?_) (fun hb => ?_)
  replace h := cond_t hb h
  refine swp_seq ?_
  refine swp_regJ h (fun j5 => ⟨28, [(2, vb j5)], []⟩) (fun v6 h => ?_) (fun j5 h => ?_)
  refine SRun.ck tbok 2 ⟨28, [(1, .ref 1 0), (13, vs aC.Value)], [(1, .box [vs aC.Source, vi aC.Kind, vs aC.Place, vs aC.Value, vi aC.Years.From, vi aC.Years.To, vi aC.Weight])]⟩ ?_
  obtain ⟨x4, hx4, h⟩ := bind_some h
  refine SRun.ls (x_lstep_call (f := 45) (caps := []) (xs := [vs aC.Value]) (ys := [vs aC.Value]) (res := ⟨[.v (vb x4)], [], false⟩) (x := vb x4) (y := none) rfl ents45 (impl_IsWord_run aC.Value _ hx4) rfl (by intro hc; cases hc)) ?_
  refine SRun.ck tbok 1 ⟨28, [(1, .ref 1 0), (15, vb x4)], [(1, .box [vs aC.Source, vi aC.Kind, vs aC.Place, vs aC.Value, vi aC.Years.From, vi aC.Years.To, vi aC.Weight])]⟩ ?_
  refine SRun.cut [(15, fun b => b)] (b := x4) (by kernel_rfl) (fun hb => ?_) (fun hb => ?_)
  replace h := cond_t hb h
  refine SRun.ck tbok 7 ⟨28, [(2, vb (!(aC.Value.toList == aC.Place.toList)))], []⟩ ?_
  refine SRun.nil ?_
  replace h := Option.some.inj h
  subst h
  exact Le.sub0
  replace h := cond_f hb h
  refine SRun.ck tbok 7 ⟨28, [(2, vb false)], []⟩ ?_
  refine SRun.nil ?_
  replace h := Option.some.inj h
  subst h
  exact Le.sub0
  refine swp_ret ?_
  replace h := Option.some.inj h
  subst h
  exact q_br (q_rr (q_fr (fin1 (by kernel_rfl) (finV rfl SV.flat_of (holds_t (by kernel_rfl))))))
  replace h := cond_f hb h
  refine swp_seq ?_
  refine swp_seq ?_
  refine swp_reg ?_
  refine SRun.ck tbok 2 ⟨28, [(1, .ref 1 0), (4, vi aC.Kind), (22, vb (aC.Kind == 2))], [(1, .box [vs aC.Source, vi aC.Kind, vs aC.Place, vs aC.Value, vi aC.Years.From, vi aC.Years.To, vi aC.Weight])]⟩ ?_
  refine SRun.nil ?_
  refine nx_n ?_
  refine swp_seqJ h (fun j7 => ⟨28, [(1, .ref 1 0), (22, vb j7)], [(1, .box [vs aC.Source, vi aC.Kind, vs aC.Place, vs aC.Value, vi aC.Years.From, vi aC.Years.To, vi aC.Weight])]⟩) (fun v8 h => ?_) (fun j7 h => ?_)
  refine swp_cond (b := (aC.Kind == 2)) (by kernel_rfl) (fun hb => ?_) (fun hb => ?_)
  replace h := cond_t hb h
  refine swp_skip ?_
  replace h := Option.some.inj h
  subst h
  exact q_j (Le.sub0)
  replace h := cond_f hb h
  refine swp_reg ?_
  refine SRun.ck tbok 2 ⟨28, [(1, .ref 1 0), (22, vb (aC.Kind == 3))], [(1, .box [vs aC.Source, vi aC.Kind, vs aC.Place, vs aC.Value, vi aC.Years.From, vi aC.Years.To, vi aC.Weight])]⟩ ?_
  refine SRun.nil ?_
  replace h := Option.some.inj h
  subst h
  exact q_j (Le.sub0)
  refine swp_cond (b := j7) (by kernel_rfl) (fun hb => ?_) (fun hb => ?_)
  replace h := cond_t hb h
  refine swp_seq ?_
  refine swp_reg ?_
  refine SRun.ck tbok 4 ⟨28, [(2, vb (aC.Value.toList == (ByteArray.mk #[]).toList))], []⟩ ?_
  refine SRun.nil ?_
  refine nx_n ?_
  refine swp_ret ?_
  replace h := Option.some.inj h
  subst h
  exact q_br (q_rr (q_fr (fin1 (by kernel_rfl) (finV rfl SV.flat_of (holds_t (by kernel_rfl))))))
  replace h := cond_f hb h
  refine swp_skip ?_
  replace h := Option.some.inj h
  subst h
  exact q_bn (q_l (Le.sub0))
  refine swp_seq ?_
  refine swp_reg ?_
  refine SRun.ck tbok 1 ⟨28, [(2, vb false)], []⟩ ?_
  refine SRun.nil ?_
  refine nx_n ?_
  refine swp_ret ?_
  replace h := Option.some.inj h
  subst h
  exact q_fr (fin1 (by kernel_rfl) (finV rfl SV.flat_of (holds_t (by kernel_rfl))))
theorem ents42 : Ents Tryd.prog 42 := ents_of Tryd.func42 (by kernel_rfl) rfl
noncomputable def impl_isYear (aYear : Int) : Option (Bool) :=
  ((impl_within aYear (-3000) 3000).bind fun x1 => some x1)
set_option maxRecDepth 100000 in
set_option maxHeartbeats 4000000 in
theorem impl_isYear_run (aYear : Int) (r : Bool) (h : impl_isYear aYear = some r) : SCall Tryd.prog 53 [.v (vi aYear)] ⟨[.v (vb r)], [], false⟩ := by
  refine scall_in Tryd.func53 rfl [(.tmp 2)] rfl (fun r => ⟨[.v (vb r)], [], false⟩) (r := r) ?_
  unfold impl_isYear at h
  refine swp_seq ?_
  refine swp_reg ?_
  refine SRun.ck tbok 1 ⟨5, [(0, vi aYear)], []⟩ ?_
  refine SRun.nil ?_
  refine nx_n ?_
  refine swp_seq ?_
  refine swp_reg ?_
  refine SRun.ck tbok 1 ⟨5, [(3, vi aYear)], []⟩ ?_
  obtain ⟨x1, hx1, h⟩ := bind_some h
  refine SRun.ls (x_lstep_call (f := 44) (caps := []) (xs := [vi aYear, vi (-3000), vi 3000]) (ys := [vi aYear, vi (-3000), vi 3000]) (res := ⟨[.v (vb x1)], [], false⟩) (x := vb x1) (y := none) rfl ents44 (impl_within_run aYear (-3000) 3000 _ hx1) rfl (by intro hc; cases hc)) ?_
  refine SRun.ck tbok 1 ⟨5, [(2, vb x1)], []⟩ ?_
  refine SRun.nil ?_
  refine nx_n ?_
  refine swp_ret ?_
  replace h := Option.some.inj h
  subst h
  exact q_fr (fin1 (by kernel_rfl) (finV rfl SV.flat_of (holds_t (by kernel_rfl))))
theorem ents53 : Ents Tryd.prog 53 := ents_of Tryd.func53 (by kernel_rfl) rfl
noncomputable def impl_IsSpan (aS : Span) : Option (Bool) :=
  ((((impl_isYear aS.From).bind fun x1 => (bif x1 then ((impl_isYear aS.To).bind fun x2 => (bif x2 then some (decide (aS.From ≤ aS.To)) else some false)) else some false))).bind fun (j3 : Bool) => some j3)
set_option maxRecDepth 100000 in
set_option maxHeartbeats 4000000 in
theorem impl_IsSpan_run (aS : Span) (r : Bool) (h : impl_IsSpan aS = some r) : SCall Tryd.prog 43 [.v (.agg [vi aS.From, vi aS.To])] ⟨[.v (vb r)], [], false⟩ := by
  refine scall_in Tryd.func43 rfl [(.tmp 2)] rfl (fun r => ⟨[.v (vb r)], [], false⟩) (r := r) ?_
  unfold impl_IsSpan at h
  refine swp_seq ?_
  refine swp_reg ?_
  refine SRun.ck tbok 2 ⟨18, [(1, .ref 1 0)], [(1, .box [vi aS.From, vi aS.To])]⟩ ?_
  refine SRun.nil ?_
  refine nx_n ?_
  refine swp_seq ?_
  refine swp_regJ h (fun j3 => ⟨18, [(2, vb j3)], []⟩) (fun v4 h => ?_) (fun j3 h => ?_)
  refine SRun.ck tbok 2 ⟨18, [(1, .ref 1 0), (4, vi aS.From)], [(1, .box [vi aS.From, vi aS.To])]⟩ ?_
  obtain ⟨x1, hx1, h⟩ := bind_some h
  refine SRun.ls (x_lstep_call (f := 53) (caps := []) (xs := [vi aS.From]) (ys := [vi aS.From]) (res := ⟨[.v (vb x1)], [], false⟩) (x := vb x1) (y := none) rfl ents53 (impl_isYear_run aS.From _ hx1) rfl (by intro hc; cases hc)) ?_
  refine SRun.ck tbok 1 ⟨18, [(1, .ref 1 0), (6, vb x1)], [(1, .box [vi aS.From, vi aS.To])]⟩ ?_
  refine SRun.cut [(6, fun b => b)] (b := x1) (by kernel_rfl) (fun hb => ?_) (fun hb => ?_)
  replace h := cond_t hb h
  refine SRun.ck tbok 2 ⟨18, [(1, .ref 1 0), (6, vb true), (8, vi aS.To)], [(1, .box [vi aS.From, vi aS.To])]⟩ ?_
  obtain ⟨x2, hx2, h⟩ := bind_some h
  refine SRun.ls (x_lstep_call (f := 53) (caps := []) (xs := [vi aS.To]) (ys := [vi aS.To]) (res := ⟨[.v (vb x2)], [], false⟩) (x := vb x2) (y := none) rfl ents53 (impl_isYear_run aS.To _ hx2) rfl (by intro hc; cases hc)) ?_
  refine SRun.ck tbok 2 ⟨18, [(1, .ref 1 0), (11, vb x2)], [(1, .box [vi aS.From, vi aS.To])]⟩ ?_
  refine SRun.cut [(11, fun b => b)] (b := x2) (by kernel_rfl) (fun hb => ?_) (fun hb => ?_)
  replace h := cond_t hb h
  refine SRun.ck tbok 7 ⟨18, [(2, vb (decide (aS.From ≤ aS.To)))], []⟩ ?_
  refine SRun.nil ?_
  replace h := Option.some.inj h
  subst h
  exact Le.sub0
  replace h := cond_f hb h
  refine SRun.ck tbok 7 ⟨18, [(2, vb false)], []⟩ ?_
  refine SRun.nil ?_
  replace h := Option.some.inj h
  subst h
  exact Le.sub0
  replace h := cond_f hb h
  refine SRun.ck tbok 12 ⟨18, [(2, vb false)], []⟩ ?_
  refine SRun.nil ?_
  replace h := Option.some.inj h
  subst h
  exact Le.sub0
  refine swp_ret ?_
  replace h := Option.some.inj h
  subst h
  exact q_fr (fin1 (by kernel_rfl) (finV rfl SV.flat_of (holds_t (by kernel_rfl))))
theorem ents43 : Ents Tryd.prog 43 := ents_of Tryd.func43 (by kernel_rfl) rfl
noncomputable def impl_IsClaim (aC : Claim) : Option (Bool) :=
  ((((impl_areWords ([aC.Source, aC.Place] : List ByteArray)).bind fun x1 => (bif x1 then ((impl_isClaimValue aC).bind fun x2 => (bif x2 then ((impl_IsSpan aC.Years).bind fun x3 => (bif x3 then ((impl_within aC.Weight 1 100).bind fun x4 => some x4) else some false)) else some false)) else some false))).bind fun (j5 : Bool) => some j5)
set_option maxRecDepth 100000 in
set_option maxHeartbeats 4000000 in
theorem impl_IsClaim_run (aC : Claim) (r : Bool) (h : impl_IsClaim aC = some r) : SCall Tryd.prog 28 [.v (.agg [vs aC.Source, vi aC.Kind, vs aC.Place, vs aC.Value, vi aC.Years.From, vi aC.Years.To, vi aC.Weight])] ⟨[.v (vb r)], [], false⟩ := by
  refine scall_in Tryd.func28 rfl [(.tmp 2)] rfl (fun r => ⟨[.v (vb r)], [], false⟩) (r := r) ?_
  unfold impl_IsClaim at h
  refine swp_seq ?_
  refine swp_reg ?_
  refine SRun.ck tbok 2 ⟨23, [(1, .ref 1 0)], [(1, .box [vs aC.Source, vi aC.Kind, vs aC.Place, vs aC.Value, vi aC.Years.From, vi aC.Years.To, vi aC.Weight])]⟩ ?_
  refine SRun.nil ?_
  refine nx_n ?_
  refine swp_seq ?_
  refine swp_regJ h (fun j5 => ⟨23, [(2, vb j5)], []⟩) (fun v6 h => ?_) (fun j5 h => ?_)
  refine SRun.ck tbok 5 ⟨23, [(1, .ref 1 0), (7, .own 7)], [(1, .box [vs aC.Source, vi aC.Kind, vs aC.Place, vs aC.Value, vi aC.Years.From, vi aC.Years.To, vi aC.Weight]), (7, .arr 9 1 ([aC.Source, aC.Place] : List ByteArray).length (([aC.Source, aC.Place] : List ByteArray).map eS))]⟩ ?_
  obtain ⟨x1, hx1, h⟩ := bind_some h
  refine SRun.ls (x_lstep_call (f := 41) (caps := []) (xs := [.own 7]) (ys := [vl eS ([aC.Source, aC.Place] : List ByteArray)]) (res := ⟨[.v (vb x1)], [], false⟩) (x := vb x1) (y := none) rfl ents41 (impl_areWords_run ([aC.Source, aC.Place] : List ByteArray) _ hx1) rfl (by intro hc; cases hc)) ?_
  refine SRun.ck tbok 1 ⟨23, [(1, .ref 1 0), (9, vb x1)], [(1, .box [vs aC.Source, vi aC.Kind, vs aC.Place, vs aC.Value, vi aC.Years.From, vi aC.Years.To, vi aC.Weight])]⟩ ?_
  refine SRun.cut [(9, fun b => b)] (b := x1) (by kernel_rfl) (fun hb => ?_) (fun hb => ?_)
  replace h := cond_t hb h
  refine SRun.ck tbok 1 ⟨23, [(1, .ref 1 0), (9, vb true), (10, .agg [vs aC.Source, vi aC.Kind, vs aC.Place, vs aC.Value, vi aC.Years.From, vi aC.Years.To, vi aC.Weight])], [(1, .box [vs aC.Source, vi aC.Kind, vs aC.Place, vs aC.Value, vi aC.Years.From, vi aC.Years.To, vi aC.Weight])]⟩ ?_
  obtain ⟨x2, hx2, h⟩ := bind_some h
  refine SRun.ls (x_lstep_call (f := 42) (caps := []) (xs := [.agg [vs aC.Source, vi aC.Kind, vs aC.Place, vs aC.Value, vi aC.Years.From, vi aC.Years.To, vi aC.Weight]]) (ys := [.agg [vs aC.Source, vi aC.Kind, vs aC.Place, vs aC.Value, vi aC.Years.From, vi aC.Years.To, vi aC.Weight]]) (res := ⟨[.v (vb x2)], [], false⟩) (x := vb x2) (y := none) rfl ents42 (impl_isClaimValue_run aC _ hx2) rfl (by intro hc; cases hc)) ?_
  refine SRun.ck tbok 2 ⟨23, [(1, .ref 1 0), (13, vb x2)], [(1, .box [vs aC.Source, vi aC.Kind, vs aC.Place, vs aC.Value, vi aC.Years.From, vi aC.Years.To, vi aC.Weight])]⟩ ?_
  refine SRun.cut [(13, fun b => b)] (b := x2) (by kernel_rfl) (fun hb => ?_) (fun hb => ?_)
  replace h := cond_t hb h
  refine SRun.ck tbok 2 ⟨23, [(1, .ref 1 0), (13, vb true), (15, .agg [vi aC.Years.From, vi aC.Years.To])], [(1, .box [vs aC.Source, vi aC.Kind, vs aC.Place, vs aC.Value, vi aC.Years.From, vi aC.Years.To, vi aC.Weight])]⟩ ?_
  obtain ⟨x3, hx3, h⟩ := bind_some h
  refine SRun.ls (x_lstep_call (f := 43) (caps := []) (xs := [.agg [vi aC.Years.From, vi aC.Years.To]]) (ys := [.agg [vi aC.Years.From, vi aC.Years.To]]) (res := ⟨[.v (vb x3)], [], false⟩) (x := vb x3) (y := none) rfl ents43 (impl_IsSpan_run aC.Years _ hx3) rfl (by intro hc; cases hc)) ?_
  refine SRun.ck tbok 2 ⟨23, [(1, .ref 1 0), (18, vb x3)], [(1, .box [vs aC.Source, vi aC.Kind, vs aC.Place, vs aC.Value, vi aC.Years.From, vi aC.Years.To, vi aC.Weight])]⟩ ?_
  refine SRun.cut [(18, fun b => b)] (b := x3) (by kernel_rfl) (fun hb => ?_) (fun hb => ?_)
  replace h := cond_t hb h
  refine SRun.ck tbok 2 ⟨23, [(18, vb true), (20, vi aC.Weight)], []⟩ ?_
  obtain ⟨x4, hx4, h⟩ := bind_some h
  refine SRun.ls (x_lstep_call (f := 44) (caps := []) (xs := [vi aC.Weight, vi 1, vi 100]) (ys := [vi aC.Weight, vi 1, vi 100]) (res := ⟨[.v (vb x4)], [], false⟩) (x := vb x4) (y := none) rfl ents44 (impl_within_run aC.Weight 1 100 _ hx4) rfl (by intro hc; cases hc)) ?_
  refine SRun.ck tbok 2 ⟨23, [(2, vb x4)], []⟩ ?_
  refine SRun.nil ?_
  replace h := Option.some.inj h
  subst h
  exact Le.sub0
  replace h := cond_f hb h
  refine SRun.ck tbok 5 ⟨23, [(2, vb false)], []⟩ ?_
  refine SRun.nil ?_
  replace h := Option.some.inj h
  subst h
  exact Le.sub0
  replace h := cond_f hb h
  refine SRun.ck tbok 10 ⟨23, [(2, vb false)], []⟩ ?_
  refine SRun.nil ?_
  replace h := Option.some.inj h
  subst h
  exact Le.sub0
  replace h := cond_f hb h
  refine SRun.ck tbok 14 ⟨23, [(2, vb false)], []⟩ ?_
  refine SRun.nil ?_
  replace h := Option.some.inj h
  subst h
  exact Le.sub0
  refine swp_ret ?_
  replace h := Option.some.inj h
  subst h
  exact q_fr (fin1 (by kernel_rfl) (finV rfl SV.flat_of (holds_t (by kernel_rfl))))
theorem ents28 : Ents Tryd.prog 28 := ents_of Tryd.func28 (by kernel_rfl) rfl
noncomputable def impl_AreClaims_1 (aC : Claim) : Option (Bool) :=
  ((impl_IsClaim aC).bind fun x1 => some (!x1))
set_option maxRecDepth 100000 in
set_option maxHeartbeats 4000000 in
theorem impl_AreClaims_1_run (aC : Claim) (r : Bool) (h : impl_AreClaims_1 aC = some r) : SCall Tryd.prog 27 [.v (.agg [vs aC.Source, vi aC.Kind, vs aC.Place, vs aC.Value, vi aC.Years.From, vi aC.Years.To, vi aC.Weight])] ⟨[.v (vb r)], [], false⟩ := by
  refine scall_in Tryd.func27 rfl [(.tmp 2)] rfl (fun r => ⟨[.v (vb r)], [], false⟩) (r := r) ?_
  unfold impl_AreClaims_1 at h
  refine swp_seq ?_
  refine swp_reg ?_
  refine SRun.ck tbok 2 ⟨6, [(1, .ref 1 0)], [(1, .box [vs aC.Source, vi aC.Kind, vs aC.Place, vs aC.Value, vi aC.Years.From, vi aC.Years.To, vi aC.Weight])]⟩ ?_
  refine SRun.nil ?_
  refine nx_n ?_
  refine swp_seq ?_
  refine swp_reg ?_
  refine SRun.ck tbok 1 ⟨6, [(3, .agg [vs aC.Source, vi aC.Kind, vs aC.Place, vs aC.Value, vi aC.Years.From, vi aC.Years.To, vi aC.Weight])], []⟩ ?_
  obtain ⟨x1, hx1, h⟩ := bind_some h
  refine SRun.ls (x_lstep_call (f := 28) (caps := []) (xs := [.agg [vs aC.Source, vi aC.Kind, vs aC.Place, vs aC.Value, vi aC.Years.From, vi aC.Years.To, vi aC.Weight]]) (ys := [.agg [vs aC.Source, vi aC.Kind, vs aC.Place, vs aC.Value, vi aC.Years.From, vi aC.Years.To, vi aC.Weight]]) (res := ⟨[.v (vb x1)], [], false⟩) (x := vb x1) (y := none) rfl ents28 (impl_IsClaim_run aC _ hx1) rfl (by intro hc; cases hc)) ?_
  refine SRun.ck tbok 2 ⟨6, [(2, vb (!x1))], []⟩ ?_
  refine SRun.nil ?_
  refine nx_n ?_
  refine swp_ret ?_
  replace h := Option.some.inj h
  subst h
  exact q_fr (fin1 (by kernel_rfl) (finV rfl SV.flat_of (holds_t (by kernel_rfl))))
theorem ents27 : Ents Tryd.prog 27 := ents_of Tryd.func27 (by kernel_rfl) rfl
noncomputable def slices_IndexFunc_Claim_impl_AreClaims_1 (aS : (List Claim)) : Option (Int) :=
  (((forN (aS.length : Int) (fun (i3 : Int) (_ : Unit) => ((at' aS i3).bind fun x7 => ((impl_AreClaims_1 x7).bind fun x8 => (bif x8 then some (.inr (.inr i3)) else some (.inl ()))))) (fun (_ : Unit) => .inl ()) 0 ())).bind (Sum.elim (fun (_ : Unit) => some (-1)) some))
set_option maxRecDepth 100000 in
set_option maxHeartbeats 4000000 in
theorem slices_IndexFunc_Claim_impl_AreClaims_1_run (aS : (List Claim)) (r : Int) (h : slices_IndexFunc_Claim_impl_AreClaims_1 aS = some r) : SCall Tryd.prog 40 [.v (vl eClaim aS), .v (.clo 27 [])] ⟨[.v (vi r)], [], false⟩ := by
  refine scall_in Tryd.func40 rfl [(.tmp 4)] rfl (fun r => ⟨[.v (vi r)], [], false⟩) (r := r) ?_
  unfold slices_IndexFunc_Claim_impl_AreClaims_1 at h
  refine swp_seq ?_
  refine swp_reg ?_
  refine SRun.ck tbok 1 ⟨19, [(0, vl eClaim aS), (1, .clo 27 [])], []⟩ ?_
  refine SRun.nil ?_
  refine nx_n ?_
  refine swp_seq ?_
  refine swp_seq ?_
  refine swp_reg ?_
  refine SRun.ck tbok 3 ⟨19, [(0, vl eClaim aS), (1, .clo 27 []), (7, vi (aS.length : Int)), (8, vi 0)], []⟩ ?_
  refine SRun.nil ?_
  refine nx_n ?_
  refine swp_seqE (r := r) h (fun j1 => ⟨19, [], []⟩) (fun v2 h => ?_) (fun j1 h => ?_)
  refine swp_blk (a := v2) ?_
  refine swp_lpL (r := v2) (s := (0, ())) _ (fun s3 => ⟨19, [(0, vl eClaim aS), (1, .clo 27 []), (7, vi (aS.length : Int)), (8, vi s3.1)], []⟩) _ (Le.sub0) h (fun s3 v4 h => ?_)
  refine swp_seq ?_
  refine swp_reg ?_
  refine SRun.ck tbok 1 ⟨19, [(0, vl eClaim aS), (1, .clo 27 []), (7, vi (aS.length : Int)), (8, vi s3.1), (9, vb (decide (s3.1 < (aS.length : Int))))], []⟩ ?_
  refine SRun.nil ?_
  refine nx_n ?_
  refine swp_seq ?_
  refine swp_cond (b := (decide (s3.1 < (aS.length : Int)))) (by kernel_rfl) (fun hb => ?_) (fun hb => ?_)
  replace h := cond_t hb h
  refine swp_skip ?_
  refine nx_n ?_
  refine swp_seq ?_
  refine swp_seqL (r := v4) h (fun j5 => ⟨19, [(0, vl eClaim aS), (1, .clo 27 []), (7, vi (aS.length : Int)), (8, vi s3.1)], []⟩) (fun v6 h => ?_) (fun j5 h => ?_)
  refine swp_blk (a := v6) ?_
  refine swp_seq ?_
  refine swp_reg ?_
  refine SRun.ck tbok 2 ⟨19, [(0, vl eClaim aS), (1, .clo 27 []), (5, vi s3.1), (7, vi (aS.length : Int)), (8, vi s3.1)], []⟩ ?_
  refine SRun.nil ?_
  refine nx_n ?_
  refine swp_seq ?_
  refine swp_reg ?_
  refine SRun.ck tbok 3 ⟨19, [(0, vl eClaim aS), (1, .clo 27 []), (5, vi s3.1), (7, vi (aS.length : Int)), (8, vi s3.1), (11, .clo 27 []), (12, vl eClaim aS), (13, vi s3.1)], []⟩ ?_
  obtain ⟨x7, hx7, h⟩ := bind_some h
  refine SRun.ls (x_index (L := aS) (f := eClaim) (ti := ti28) (tj := ti56) (e := 56) (k := .i64) tbok rfl hx7) ?_
  refine SRun.ck tbok 1 ⟨19, [(0, vl eClaim aS), (1, .clo 27 []), (5, vi s3.1), (7, vi (aS.length : Int)), (8, vi s3.1), (11, .clo 27 []), (15, .agg [vs x7.Source, vi x7.Kind, vs x7.Place, vs x7.Value, vi x7.Years.From, vi x7.Years.To, vi x7.Weight])], []⟩ ?_
  obtain ⟨x8, hx8, h⟩ := bind_some h
  refine SRun.ls (x_lstep_call (f := 27) (caps := []) (xs := [.agg [vs x7.Source, vi x7.Kind, vs x7.Place, vs x7.Value, vi x7.Years.From, vi x7.Years.To, vi x7.Weight]]) (ys := [.agg [vs x7.Source, vi x7.Kind, vs x7.Place, vs x7.Value, vi x7.Years.From, vi x7.Years.To, vi x7.Weight]]) (res := ⟨[.v (vb x8)], [], false⟩) (x := vb x8) (y := none) rfl ents27 (impl_AreClaims_1_run x7 _ hx8) rfl (by intro hc; cases hc)) ?_
  refine SRun.nil ?_
  refine nx_n ?_
  refine swp_cond (b := x8) (by kernel_rfl) (fun hb => ?_) (fun hb => ?_)
  replace h := cond_t hb h
  refine swp_seq ?_
  refine swp_reg ?_
  refine SRun.ck tbok 2 ⟨19, [(4, vi s3.1)], []⟩ ?_
  refine SRun.nil ?_
  refine nx_n ?_
  refine swp_ret ?_
  replace h := Option.some.inj h
  subst h
  exact q_br (q_rr (q_rr (q_br (q_rr (q_fr (fin1 (by kernel_rfl) (finV rfl SV.flat_of (holds_t (by kernel_rfl)))))))))
  replace h := cond_f hb h
  refine swp_skip ?_
  replace h := Option.some.inj h
  subst h
  exact q_bn (q_l (Le.sub0))
  refine swp_reg ?_
  refine SRun.ck tbok 2 ⟨19, [(0, vl eClaim aS), (1, .clo 27 []), (7, vi (aS.length : Int)), (8, vi (w64 (s3.1 + 1)))], []⟩ ?_
  refine SRun.nil ?_
  replace h := Option.some.inj h
  subst h
  exact q_l (Le.sub0)
  replace h := cond_f hb h
  refine swp_exit ?_
  replace h := Option.some.inj h
  subst h
  exact nx_e (q_re (q_bh (q_l (Le.sub0))))
  refine swp_seq ?_
  refine swp_reg ?_
  refine SRun.ck tbok 1 ⟨19, [(4, vi (-1))], []⟩ ?_
  refine SRun.nil ?_
  refine nx_n ?_
  refine swp_ret ?_
  replace h := Option.some.inj h
  subst h
  exact q_fr (fin1 (by kernel_rfl) (finV rfl SV.flat_of (holds_t (by kernel_rfl))))
theorem ents40 : Ents Tryd.prog 40 := ents_of Tryd.func40 (by kernel_rfl) rfl
noncomputable def slices_ContainsFunc_Claim_impl_AreClaims_1 (aS : (List Claim)) : Option (Bool) :=
  ((slices_IndexFunc_Claim_impl_AreClaims_1 aS).bind fun x1 => some (decide (x1 ≥ 0)))
set_option maxRecDepth 100000 in
set_option maxHeartbeats 4000000 in
theorem slices_ContainsFunc_Claim_impl_AreClaims_1_run (aS : (List Claim)) (r : Bool) (h : slices_ContainsFunc_Claim_impl_AreClaims_1 aS = some r) : SCall Tryd.prog 26 [.v (vl eClaim aS), .v (.clo 27 [])] ⟨[.v (vb r)], [], false⟩ := by
  refine scall_in Tryd.func26 rfl [(.tmp 4)] rfl (fun r => ⟨[.v (vb r)], [], false⟩) (r := r) ?_
  unfold slices_ContainsFunc_Claim_impl_AreClaims_1 at h
  refine swp_seq ?_
  refine swp_reg ?_
  refine SRun.ck tbok 1 ⟨9, [(0, vl eClaim aS), (1, .clo 27 [])], []⟩ ?_
  refine SRun.nil ?_
  refine nx_n ?_
  refine swp_seq ?_
  refine swp_reg ?_
  refine SRun.ck tbok 2 ⟨9, [(5, vl eClaim aS), (6, .clo 27 [])], []⟩ ?_
  obtain ⟨x1, hx1, h⟩ := bind_some h
  refine SRun.ls (x_lstep_call (f := 40) (caps := []) (xs := [vl eClaim aS, .clo 27 []]) (ys := [vl eClaim aS, .clo 27 []]) (res := ⟨[.v (vi x1)], [], false⟩) (x := vi x1) (y := none) rfl ents40 (slices_IndexFunc_Claim_impl_AreClaims_1_run aS _ hx1) rfl (by intro hc; cases hc)) ?_
  refine SRun.ck tbok 2 ⟨9, [(4, vb (decide (x1 ≥ 0)))], []⟩ ?_
  refine SRun.nil ?_
  refine nx_n ?_
  refine swp_ret ?_
  replace h := Option.some.inj h
  subst h
  exact q_fr (fin1 (by kernel_rfl) (finV rfl SV.flat_of (holds_t (by kernel_rfl))))
theorem ents26 : Ents Tryd.prog 26 := ents_of Tryd.func26 (by kernel_rfl) rfl
noncomputable def impl_AreClaims (aList : (List Claim)) : Option (Bool) :=
  (((bif (decide ((aList.length : Int) ≤ 12)) then ((slices_ContainsFunc_Claim_impl_AreClaims_1 aList).bind fun x1 => some (!x1)) else some false)).bind fun (j2 : Bool) => some j2)
set_option maxRecDepth 100000 in
set_option maxHeartbeats 4000000 in
theorem impl_AreClaims_run (aList : (List Claim)) (r : Bool) (h : impl_AreClaims aList = some r) : SCall Tryd.prog 15 [.v (vl eClaim aList)] ⟨[.v (vb r)], [], false⟩ := by
  refine scall_in Tryd.func15 rfl [(.tmp 2)] rfl (fun r => ⟨[.v (vb r)], [], false⟩) (r := r) ?_
  unfold impl_AreClaims at h
  refine swp_seq ?_
  refine swp_reg ?_
  refine SRun.ck tbok 1 ⟨11, [(0, vl eClaim aList)], []⟩ ?_
  refine SRun.nil ?_
  refine nx_n ?_
  refine swp_seq ?_
  refine swp_regJ h (fun j2 => ⟨11, [(2, vb j2)], []⟩) (fun v3 h => ?_) (fun j2 h => ?_)
  refine SRun.ck tbok 4 ⟨11, [(0, vl eClaim aList), (6, vb (decide ((aList.length : Int) ≤ 12)))], []⟩ ?_
  refine SRun.cut [(6, fun b => b)] (b := (decide ((aList.length : Int) ≤ 12))) (by kernel_rfl) (fun hb => ?_) (fun hb => ?_)
  replace h := cond_t hb h
  refine SRun.ck tbok 1 ⟨11, [(6, vb true), (7, vl eClaim aList)], []⟩ ?_
  obtain ⟨x1, hx1, h⟩ := bind_some h
  refine SRun.ls (x_lstep_call (f := 26) (caps := []) (xs := [vl eClaim aList, .clo 27 []]) (ys := [vl eClaim aList, .clo 27 []]) (res := ⟨[.v (vb x1)], [], false⟩) (x := vb x1) (y := none) rfl ents26 (slices_ContainsFunc_Claim_impl_AreClaims_1_run aList _ hx1) rfl (by intro hc; cases hc)) ?_
  refine SRun.ck tbok 3 ⟨11, [(2, vb (!x1))], []⟩ ?_
  refine SRun.nil ?_
  replace h := Option.some.inj h
  subst h
  exact Le.sub0
  replace h := cond_f hb h
  refine SRun.ck tbok 5 ⟨11, [(2, vb false)], []⟩ ?_
  refine SRun.nil ?_
  replace h := Option.some.inj h
  subst h
  exact Le.sub0
  refine swp_ret ?_
  replace h := Option.some.inj h
  subst h
  exact q_fr (fin1 (by kernel_rfl) (finV rfl SV.flat_of (holds_t (by kernel_rfl))))
theorem ents15 : Ents Tryd.prog 15 := ents_of Tryd.func15 (by kernel_rfl) rfl
noncomputable def slices_Index_string (aS : (List ByteArray)) (aV : ByteArray) : Option (Int) :=
  (((forN (aS.length : Int) (fun (i3 : Int) (_ : Unit) => ((at' aS i3).bind fun x7 => (bif (aV.toList == x7.toList) then some (.inr (.inr i3)) else some (.inl ())))) (fun (_ : Unit) => .inl ()) 0 ())).bind (Sum.elim (fun (_ : Unit) => some (-1)) some))
set_option maxRecDepth 100000 in
set_option maxHeartbeats 4000000 in
theorem slices_Index_string_run (aS : (List ByteArray)) (aV : ByteArray) (r : Int) (h : slices_Index_string aS aV = some r) : SCall Tryd.prog 59 [.v (vl eS aS), .v (vs aV)] ⟨[.v (vi r)], [], false⟩ := by
  refine scall_in Tryd.func59 rfl [(.tmp 4)] rfl (fun r => ⟨[.v (vi r)], [], false⟩) (r := r) ?_
  unfold slices_Index_string at h
  refine swp_seq ?_
  refine swp_reg ?_
  refine SRun.ck tbok 1 ⟨19, [(0, vl eS aS), (1, vs aV)], []⟩ ?_
  refine SRun.nil ?_
  refine nx_n ?_
  refine swp_seq ?_
  refine swp_seq ?_
  refine swp_reg ?_
  refine SRun.ck tbok 3 ⟨19, [(0, vl eS aS), (1, vs aV), (7, vi (aS.length : Int)), (8, vi 0)], []⟩ ?_
  refine SRun.nil ?_
  refine nx_n ?_
  refine swp_seqE (r := r) h (fun j1 => ⟨19, [], []⟩) (fun v2 h => ?_) (fun j1 h => ?_)
  refine swp_blk (a := v2) ?_
  refine swp_lpL (r := v2) (s := (0, ())) _ (fun s3 => ⟨19, [(0, vl eS aS), (1, vs aV), (7, vi (aS.length : Int)), (8, vi s3.1)], []⟩) _ (Le.sub0) h (fun s3 v4 h => ?_)
  refine swp_seq ?_
  refine swp_reg ?_
  refine SRun.ck tbok 1 ⟨19, [(0, vl eS aS), (1, vs aV), (7, vi (aS.length : Int)), (8, vi s3.1), (9, vb (decide (s3.1 < (aS.length : Int))))], []⟩ ?_
  refine SRun.nil ?_
  refine nx_n ?_
  refine swp_seq ?_
  refine swp_cond (b := (decide (s3.1 < (aS.length : Int)))) (by kernel_rfl) (fun hb => ?_) (fun hb => ?_)
  replace h := cond_t hb h
  refine swp_skip ?_
  refine nx_n ?_
  refine swp_seq ?_
  refine swp_seqL (r := v4) h (fun j5 => ⟨19, [(0, vl eS aS), (1, vs aV), (7, vi (aS.length : Int)), (8, vi s3.1)], []⟩) (fun v6 h => ?_) (fun j5 h => ?_)
  refine swp_blk (a := v6) ?_
  refine swp_seq ?_
  refine swp_reg ?_
  refine SRun.ck tbok 2 ⟨19, [(0, vl eS aS), (1, vs aV), (5, vi s3.1), (7, vi (aS.length : Int)), (8, vi s3.1)], []⟩ ?_
  refine SRun.nil ?_
  refine nx_n ?_
  refine swp_seq ?_
  refine swp_reg ?_
  refine SRun.ck tbok 3 ⟨19, [(0, vl eS aS), (1, vs aV), (5, vi s3.1), (7, vi (aS.length : Int)), (8, vi s3.1), (11, vs aV), (12, vl eS aS), (13, vi s3.1)], []⟩ ?_
  obtain ⟨x7, hx7, h⟩ := bind_some h
  refine SRun.ls (x_index (L := aS) (f := eS) (ti := ti77) (tj := ti9) (e := 9) (k := .i64) tbok rfl hx7) ?_
  refine SRun.ck tbok 2 ⟨19, [(0, vl eS aS), (1, vs aV), (5, vi s3.1), (7, vi (aS.length : Int)), (8, vi s3.1), (16, vb (aV.toList == x7.toList))], []⟩ ?_
  refine SRun.nil ?_
  refine nx_n ?_
  refine swp_cond (b := (aV.toList == x7.toList)) (by kernel_rfl) (fun hb => ?_) (fun hb => ?_)
  replace h := cond_t hb h
  refine swp_seq ?_
  refine swp_reg ?_
  refine SRun.ck tbok 2 ⟨19, [(4, vi s3.1)], []⟩ ?_
  refine SRun.nil ?_
  refine nx_n ?_
  refine swp_ret ?_
  replace h := Option.some.inj h
  subst h
  exact q_br (q_rr (q_rr (q_br (q_rr (q_fr (fin1 (by kernel_rfl) (finV rfl SV.flat_of (holds_t (by kernel_rfl)))))))))
  replace h := cond_f hb h
  refine swp_skip ?_
  replace h := Option.some.inj h
  subst h
  exact q_bn (q_l (Le.sub0))
  refine swp_reg ?_
  refine SRun.ck tbok 2 ⟨19, [(0, vl eS aS), (1, vs aV), (7, vi (aS.length : Int)), (8, vi (w64 (s3.1 + 1)))], []⟩ ?_
  refine SRun.nil ?_
  replace h := Option.some.inj h
  subst h
  exact q_l (Le.sub0)
  replace h := cond_f hb h
  refine swp_exit ?_
  replace h := Option.some.inj h
  subst h
  exact nx_e (q_re (q_bh (q_l (Le.sub0))))
  refine swp_seq ?_
  refine swp_reg ?_
  refine SRun.ck tbok 1 ⟨19, [(4, vi (-1))], []⟩ ?_
  refine SRun.nil ?_
  refine nx_n ?_
  refine swp_ret ?_
  replace h := Option.some.inj h
  subst h
  exact q_fr (fin1 (by kernel_rfl) (finV rfl SV.flat_of (holds_t (by kernel_rfl))))
theorem ents59 : Ents Tryd.prog 59 := ents_of Tryd.func59 (by kernel_rfl) rfl
noncomputable def slices_Contains_string (aS : (List ByteArray)) (aV : ByteArray) : Option (Bool) :=
  ((slices_Index_string aS aV).bind fun x1 => some (decide (x1 ≥ 0)))
set_option maxRecDepth 100000 in
set_option maxHeartbeats 4000000 in
theorem slices_Contains_string_run (aS : (List ByteArray)) (aV : ByteArray) (r : Bool) (h : slices_Contains_string aS aV = some r) : SCall Tryd.prog 55 [.v (vl eS aS), .v (vs aV)] ⟨[.v (vb r)], [], false⟩ := by
  refine scall_in Tryd.func55 rfl [(.tmp 4)] rfl (fun r => ⟨[.v (vb r)], [], false⟩) (r := r) ?_
  unfold slices_Contains_string at h
  refine swp_seq ?_
  refine swp_reg ?_
  refine SRun.ck tbok 1 ⟨9, [(0, vl eS aS), (1, vs aV)], []⟩ ?_
  refine SRun.nil ?_
  refine nx_n ?_
  refine swp_seq ?_
  refine swp_reg ?_
  refine SRun.ck tbok 2 ⟨9, [(5, vl eS aS), (6, vs aV)], []⟩ ?_
  obtain ⟨x1, hx1, h⟩ := bind_some h
  refine SRun.ls (x_lstep_call (f := 59) (caps := []) (xs := [vl eS aS, vs aV]) (ys := [vl eS aS, vs aV]) (res := ⟨[.v (vi x1)], [], false⟩) (x := vi x1) (y := none) rfl ents59 (slices_Index_string_run aS aV _ hx1) rfl (by intro hc; cases hc)) ?_
  refine SRun.ck tbok 2 ⟨9, [(4, vb (decide (x1 ≥ 0)))], []⟩ ?_
  refine SRun.nil ?_
  refine nx_n ?_
  refine swp_ret ?_
  replace h := Option.some.inj h
  subst h
  exact q_fr (fin1 (by kernel_rfl) (finV rfl SV.flat_of (holds_t (by kernel_rfl))))
theorem ents55 : Ents Tryd.prog 55 := ents_of Tryd.func55 (by kernel_rfl) rfl
noncomputable def impl_isOwnWord (aS : ByteArray) : Option (Bool) :=
  ((((slices_Contains_string ([(ByteArray.mk #[97, 116]), (ByteArray.mk #[110, 101, 97, 114]), (ByteArray.mk #[111, 102]), (ByteArray.mk #[98, 101, 116, 119, 101, 101, 110]), (ByteArray.mk #[97, 110, 100]), (ByteArray.mk #[109, 105, 108, 101]), (ByteArray.mk #[109, 105, 108, 101, 115]), (ByteArray.mk #[108, 101, 97, 103, 117, 101]), (ByteArray.mk #[108, 101, 97, 103, 117, 101, 115])] : List ByteArray) aS).bind fun x1 => (bif x1 then some true else ((slices_Contains_string glob0 aS).bind fun x2 => some x2)))).bind fun (j3 : Bool) => some j3)
set_option maxRecDepth 100000 in
set_option maxHeartbeats 4000000 in
theorem impl_isOwnWord_run (aS : ByteArray) (r : Bool) (h : impl_isOwnWord aS = some r) : SCall Tryd.prog 46 [.v (vs aS)] ⟨[.v (vb r)], [], false⟩ := by
  refine scall_in Tryd.func46 rfl [(.tmp 2)] rfl (fun r => ⟨[.v (vb r)], [], false⟩) (r := r) ?_
  unfold impl_isOwnWord at h
  refine swp_seq ?_
  refine swp_reg ?_
  refine SRun.ck tbok 1 ⟨11, [(0, vs aS)], []⟩ ?_
  refine SRun.nil ?_
  refine nx_n ?_
  refine swp_seq ?_
  refine swp_regJ h (fun j3 => ⟨11, [(2, vb j3)], []⟩) (fun v4 h => ?_) (fun j3 h => ?_)
  refine SRun.ck tbok 2 ⟨11, [(0, vs aS), (3, .own 3), (4, vs aS)], [(3, .arr 9 1 ([(ByteArray.mk #[97, 116]), (ByteArray.mk #[110, 101, 97, 114]), (ByteArray.mk #[111, 102]), (ByteArray.mk #[98, 101, 116, 119, 101, 101, 110]), (ByteArray.mk #[97, 110, 100]), (ByteArray.mk #[109, 105, 108, 101]), (ByteArray.mk #[109, 105, 108, 101, 115]), (ByteArray.mk #[108, 101, 97, 103, 117, 101]), (ByteArray.mk #[108, 101, 97, 103, 117, 101, 115])] : List ByteArray).length (([(ByteArray.mk #[97, 116]), (ByteArray.mk #[110, 101, 97, 114]), (ByteArray.mk #[111, 102]), (ByteArray.mk #[98, 101, 116, 119, 101, 101, 110]), (ByteArray.mk #[97, 110, 100]), (ByteArray.mk #[109, 105, 108, 101]), (ByteArray.mk #[109, 105, 108, 101, 115]), (ByteArray.mk #[108, 101, 97, 103, 117, 101]), (ByteArray.mk #[108, 101, 97, 103, 117, 101, 115])] : List ByteArray).map eS))]⟩ ?_
  obtain ⟨x1, hx1, h⟩ := bind_some h
  refine SRun.ls (x_lstep_call (f := 55) (caps := []) (xs := [.own 3, vs aS]) (ys := [vl eS ([(ByteArray.mk #[97, 116]), (ByteArray.mk #[110, 101, 97, 114]), (ByteArray.mk #[111, 102]), (ByteArray.mk #[98, 101, 116, 119, 101, 101, 110]), (ByteArray.mk #[97, 110, 100]), (ByteArray.mk #[109, 105, 108, 101]), (ByteArray.mk #[109, 105, 108, 101, 115]), (ByteArray.mk #[108, 101, 97, 103, 117, 101]), (ByteArray.mk #[108, 101, 97, 103, 117, 101, 115])] : List ByteArray), vs aS]) (res := ⟨[.v (vb x1)], [], false⟩) (x := vb x1) (y := none) rfl ents55 (slices_Contains_string_run ([(ByteArray.mk #[97, 116]), (ByteArray.mk #[110, 101, 97, 114]), (ByteArray.mk #[111, 102]), (ByteArray.mk #[98, 101, 116, 119, 101, 101, 110]), (ByteArray.mk #[97, 110, 100]), (ByteArray.mk #[109, 105, 108, 101]), (ByteArray.mk #[109, 105, 108, 101, 115]), (ByteArray.mk #[108, 101, 97, 103, 117, 101]), (ByteArray.mk #[108, 101, 97, 103, 117, 101, 115])] : List ByteArray) aS _ hx1) rfl (by intro hc; cases hc)) ?_
  refine SRun.ck tbok 1 ⟨11, [(0, vs aS), (6, vb x1)], []⟩ ?_
  refine SRun.cut [(6, fun b => b)] (b := x1) (by kernel_rfl) (fun hb => ?_) (fun hb => ?_)
  replace h := cond_t hb h
  refine SRun.ck tbok 5 ⟨11, [(2, vb true)], []⟩ ?_
  refine SRun.nil ?_
  replace h := Option.some.inj h
  subst h
  exact Le.sub0
  replace h := cond_f hb h
  refine SRun.ls (lstep_slice_glob (L := glob0) (n := 8) (e := 9) (ti := ti83) (tj := ti9) tbok rfl (by kernel_rfl) (by kernel_rfl) List.mem_cons_self (by kernel_rfl) rfl (by kernel_rfl) rfl (by kernel_rfl) (by kernel_rfl)) ?_
  refine SRun.ck tbok 1 ⟨11, [(6, vb false), (7, vl eS glob0), (8, vs aS)], []⟩ ?_
  obtain ⟨x2, hx2, h⟩ := bind_some h
  refine SRun.ls (x_lstep_call (f := 55) (caps := []) (xs := [vl eS glob0, vs aS]) (ys := [vl eS glob0, vs aS]) (res := ⟨[.v (vb x2)], [], false⟩) (x := vb x2) (y := none) rfl ents55 (slices_Contains_string_run glob0 aS _ hx2) rfl (by intro hc; cases hc)) ?_
  refine SRun.ck tbok 2 ⟨11, [(2, vb x2)], []⟩ ?_
  refine SRun.nil ?_
  replace h := Option.some.inj h
  subst h
  exact Le.sub0
  refine swp_ret ?_
  replace h := Option.some.inj h
  subst h
  exact q_fr (fin1 (by kernel_rfl) (finV rfl SV.flat_of (holds_t (by kernel_rfl))))
theorem ents46 : Ents Tryd.prog 46 := ents_of Tryd.func46 (by kernel_rfl) rfl
noncomputable def impl_isCode (aS : ByteArray) : Option (Bool) :=
  ((((impl_IsWord aS).bind fun x1 => (bif x1 then ((impl_isOwnWord aS).bind fun x2 => some (!x2)) else some false))).bind fun (j3 : Bool) => some j3)
set_option maxRecDepth 100000 in
set_option maxHeartbeats 4000000 in
theorem impl_isCode_run (aS : ByteArray) (r : Bool) (h : impl_isCode aS = some r) : SCall Tryd.prog 29 [.v (vs aS)] ⟨[.v (vb r)], [], false⟩ := by
  refine scall_in Tryd.func29 rfl [(.tmp 2)] rfl (fun r => ⟨[.v (vb r)], [], false⟩) (r := r) ?_
  unfold impl_isCode at h
  refine swp_seq ?_
  refine swp_reg ?_
  refine SRun.ck tbok 1 ⟨10, [(0, vs aS)], []⟩ ?_
  refine SRun.nil ?_
  refine nx_n ?_
  refine swp_seq ?_
  refine swp_regJ h (fun j3 => ⟨10, [(2, vb j3)], []⟩) (fun v4 h => ?_) (fun j3 h => ?_)
  refine SRun.ck tbok 1 ⟨10, [(0, vs aS), (3, vs aS)], []⟩ ?_
  obtain ⟨x1, hx1, h⟩ := bind_some h
  refine SRun.ls (x_lstep_call (f := 45) (caps := []) (xs := [vs aS]) (ys := [vs aS]) (res := ⟨[.v (vb x1)], [], false⟩) (x := vb x1) (y := none) rfl ents45 (impl_IsWord_run aS _ hx1) rfl (by intro hc; cases hc)) ?_
  refine SRun.ck tbok 1 ⟨10, [(0, vs aS), (5, vb x1)], []⟩ ?_
  refine SRun.cut [(5, fun b => b)] (b := x1) (by kernel_rfl) (fun hb => ?_) (fun hb => ?_)
  replace h := cond_t hb h
  refine SRun.ck tbok 1 ⟨10, [(5, vb true), (6, vs aS)], []⟩ ?_
  obtain ⟨x2, hx2, h⟩ := bind_some h
  refine SRun.ls (x_lstep_call (f := 46) (caps := []) (xs := [vs aS]) (ys := [vs aS]) (res := ⟨[.v (vb x2)], [], false⟩) (x := vb x2) (y := none) rfl ents46 (impl_isOwnWord_run aS _ hx2) rfl (by intro hc; cases hc)) ?_
  refine SRun.ck tbok 3 ⟨10, [(2, vb (!x2))], []⟩ ?_
  refine SRun.nil ?_
  replace h := Option.some.inj h
  subst h
  exact Le.sub0
  replace h := cond_f hb h
  refine SRun.ck tbok 5 ⟨10, [(2, vb false)], []⟩ ?_
  refine SRun.nil ?_
  replace h := Option.some.inj h
  subst h
  exact Le.sub0
  refine swp_ret ?_
  replace h := Option.some.inj h
  subst h
  exact q_fr (fin1 (by kernel_rfl) (finV rfl SV.flat_of (holds_t (by kernel_rfl))))
theorem ents29 : Ents Tryd.prog 29 := ents_of Tryd.func29 (by kernel_rfl) rfl
noncomputable def impl_IsPoint (aP : Point) : Option (Bool) :=
  ((((impl_within aP.X (-1000) 1000).bind fun x1 => (bif x1 then ((impl_within aP.Y (-1000) 1000).bind fun x2 => some x2) else some false))).bind fun (j3 : Bool) => some j3)
set_option maxRecDepth 100000 in
set_option maxHeartbeats 4000000 in
theorem impl_IsPoint_run (aP : Point) (r : Bool) (h : impl_IsPoint aP = some r) : SCall Tryd.prog 30 [.v (.agg [vi aP.X, vi aP.Y])] ⟨[.v (vb r)], [], false⟩ := by
  refine scall_in Tryd.func30 rfl [(.tmp 2)] rfl (fun r => ⟨[.v (vb r)], [], false⟩) (r := r) ?_
  unfold impl_IsPoint at h
  refine swp_seq ?_
  refine swp_reg ?_
  refine SRun.ck tbok 2 ⟨11, [(1, .ref 1 0)], [(1, .box [vi aP.X, vi aP.Y])]⟩ ?_
  refine SRun.nil ?_
  refine nx_n ?_
  refine swp_seq ?_
  refine swp_regJ h (fun j3 => ⟨11, [(2, vb j3)], []⟩) (fun v4 h => ?_) (fun j3 h => ?_)
  refine SRun.ck tbok 2 ⟨11, [(1, .ref 1 0), (4, vi aP.X)], [(1, .box [vi aP.X, vi aP.Y])]⟩ ?_
  obtain ⟨x1, hx1, h⟩ := bind_some h
  refine SRun.ls (x_lstep_call (f := 44) (caps := []) (xs := [vi aP.X, vi (-1000), vi 1000]) (ys := [vi aP.X, vi (-1000), vi 1000]) (res := ⟨[.v (vb x1)], [], false⟩) (x := vb x1) (y := none) rfl ents44 (impl_within_run aP.X (-1000) 1000 _ hx1) rfl (by intro hc; cases hc)) ?_
  refine SRun.ck tbok 1 ⟨11, [(1, .ref 1 0), (6, vb x1)], [(1, .box [vi aP.X, vi aP.Y])]⟩ ?_
  refine SRun.cut [(6, fun b => b)] (b := x1) (by kernel_rfl) (fun hb => ?_) (fun hb => ?_)
  replace h := cond_t hb h
  refine SRun.ck tbok 2 ⟨11, [(6, vb true), (8, vi aP.Y)], []⟩ ?_
  obtain ⟨x2, hx2, h⟩ := bind_some h
  refine SRun.ls (x_lstep_call (f := 44) (caps := []) (xs := [vi aP.Y, vi (-1000), vi 1000]) (ys := [vi aP.Y, vi (-1000), vi 1000]) (res := ⟨[.v (vb x2)], [], false⟩) (x := vb x2) (y := none) rfl ents44 (impl_within_run aP.Y (-1000) 1000 _ hx2) rfl (by intro hc; cases hc)) ?_
  refine SRun.ck tbok 2 ⟨11, [(2, vb x2)], []⟩ ?_
  refine SRun.nil ?_
  replace h := Option.some.inj h
  subst h
  exact Le.sub0
  replace h := cond_f hb h
  refine SRun.ck tbok 5 ⟨11, [(2, vb false)], []⟩ ?_
  refine SRun.nil ?_
  replace h := Option.some.inj h
  subst h
  exact Le.sub0
  refine swp_ret ?_
  replace h := Option.some.inj h
  subst h
  exact q_fr (fin1 (by kernel_rfl) (finV rfl SV.flat_of (holds_t (by kernel_rfl))))
theorem ents30 : Ents Tryd.prog 30 := ents_of Tryd.func30 (by kernel_rfl) rfl
noncomputable def impl_AreSites (aList : (List Site)) : Option (Bool) :=
  (((forN (aList.length : Int) (fun (i3 : Int) (_ : Unit) => ((at' aList i3).bind fun x7 => ((((impl_isCode x7.Code).bind fun x8 => (bif (!x8) then some true else ((impl_IsPoint x7.At).bind fun x9 => (bif (!x9) then some true else (bif (decide (i3 > 0)) then ((at' aList (w64 (i3 - 1))).bind fun x10 => some (!(Op.bytesLess x10.Code.toList x7.Code.toList))) else some false)))))).bind fun (j11 : Bool) => (bif j11 then some (.inr (.inr false)) else some (.inl ()))))) (fun (_ : Unit) => .inl ()) 0 ())).bind (Sum.elim (fun (_ : Unit) => some (decide ((aList.length : Int) ≤ 10))) some))
set_option maxRecDepth 100000 in
set_option maxHeartbeats 4000000 in
theorem impl_AreSites_run (aList : (List Site)) (r : Bool) (h : impl_AreSites aList = some r) : SCall Tryd.prog 16 [.v (vl eSite aList)] ⟨[.v (vb r)], [], false⟩ := by
  refine scall_in Tryd.func16 rfl [(.tmp 2)] rfl (fun r => ⟨[.v (vb r)], [], false⟩) (r := r) ?_
  unfold impl_AreSites at h
  refine swp_seq ?_
  refine swp_reg ?_
  refine SRun.ck tbok 1 ⟨41, [(0, vl eSite aList)], []⟩ ?_
  refine SRun.nil ?_
  refine nx_n ?_
  refine swp_seq ?_
  refine swp_seq ?_
  refine swp_reg ?_
  refine SRun.ck tbok 3 ⟨41, [(0, vl eSite aList), (5, vl eSite aList), (6, vi (aList.length : Int)), (7, vi 0)], []⟩ ?_
  refine SRun.nil ?_
  refine nx_n ?_
  refine swp_seqE (r := r) h (fun j1 => ⟨41, [(0, vl eSite aList)], []⟩) (fun v2 h => ?_) (fun j1 h => ?_)
  refine swp_blk (a := v2) ?_
  refine swp_lpL (r := v2) (s := (0, ())) _ (fun s3 => ⟨41, [(0, vl eSite aList), (5, vl eSite aList), (6, vi (aList.length : Int)), (7, vi s3.1)], []⟩) _ (Le.sub0) h (fun s3 v4 h => ?_)
  refine swp_seq ?_
  refine swp_reg ?_
  refine SRun.ck tbok 1 ⟨41, [(0, vl eSite aList), (5, vl eSite aList), (6, vi (aList.length : Int)), (7, vi s3.1), (8, vb (decide (s3.1 < (aList.length : Int))))], []⟩ ?_
  refine SRun.nil ?_
  refine nx_n ?_
  refine swp_seq ?_
  refine swp_cond (b := (decide (s3.1 < (aList.length : Int)))) (by kernel_rfl) (fun hb => ?_) (fun hb => ?_)
  replace h := cond_t hb h
  refine swp_skip ?_
  refine nx_n ?_
  refine swp_seq ?_
  refine swp_seqL (r := v4) h (fun j5 => ⟨41, [(0, vl eSite aList), (5, vl eSite aList), (6, vi (aList.length : Int)), (7, vi s3.1)], []⟩) (fun v6 h => ?_) (fun j5 h => ?_)
  refine swp_blk (a := v6) ?_
  refine swp_seq ?_
  refine swp_reg ?_
  refine SRun.ck tbok 1 ⟨41, [(0, vl eSite aList), (5, vl eSite aList), (6, vi (aList.length : Int)), (7, vi s3.1), (9, vi s3.1)], []⟩ ?_
  obtain ⟨x7, hx7, h⟩ := bind_some h
  refine SRun.ls (x_index (L := aList) (f := eSite) (ti := ti29) (tj := ti60) (e := 60) (k := .i64) tbok rfl hx7) ?_
  refine SRun.ck tbok 3 ⟨41, [(0, vl eSite aList), (3, vi s3.1), (4, .ref 4 0), (5, vl eSite aList), (6, vi (aList.length : Int)), (7, vi s3.1), (11, .agg [vs x7.Code, vi x7.At.X, vi x7.At.Y])], [(4, .box [vs (ByteArray.mk #[]), vi 0, vi 0])]⟩ ?_
  refine SRun.estep (x_estep_store (d := 4) (k := 0) (ti := ti60) (cs := [vs (ByteArray.mk #[]), vi 0, vi 0]) (vs := [vs x7.Code, vi x7.At.X, vi x7.At.Y]) (v := .agg [vs x7.Code, vi x7.At.X, vi x7.At.Y]) tbok rfl rfl) ?_
  refine SRun.nil ?_
  refine nx_n ?_
  refine swp_seq ?_
  refine swp_drJ mixed h (fun j11 => ⟨41, [(0, vl eSite aList), (5, vl eSite aList), (6, vi (aList.length : Int)), (7, vi s3.1), (36, vb j11)], []⟩) (fun v12 h => ?_) (fun j11 h => ?_)
  refine DGo.chunk' tbok 2 (σ' := ⟨41, [(13, vs x7.Code), (12, .ref 4 0), (0, vl eSite aList), (3, vi s3.1), (4, .ref 4 0), (5, vl eSite aList), (6, vi (aList.length : Int)), (7, vi s3.1), (11, .agg [vs x7.Code, vi x7.At.X, vi x7.At.Y])], [(4, .box [vs x7.Code, vi x7.At.X, vi x7.At.Y])]⟩) (by kernel_rfl) ?_
  obtain ⟨x8, hx8, h⟩ := bind_some h
  refine DGo.step (x_lstep_call (f := 29) (caps := []) (xs := [vs x7.Code]) (ys := [vs x7.Code]) (res := ⟨[.v (vb x8)], [], false⟩) (x := vb x8) (y := none) rfl ents29 (impl_isCode_run x7.Code _ hx8) rfl (by intro hc; cases hc)) ?_
  refine DGo.chunk' tbok 2 (σ' := ⟨41, [(16, vb (!x8)), (15, vb (!x8)), (14, vb x8), (13, vs x7.Code), (12, .ref 4 0), (0, vl eSite aList), (3, vi s3.1), (4, .ref 4 0), (5, vl eSite aList), (6, vi (aList.length : Int)), (7, vi s3.1), (11, .agg [vs x7.Code, vi x7.At.X, vi x7.At.Y])], [(4, .box [vs x7.Code, vi x7.At.X, vi x7.At.Y])]⟩) (by kernel_rfl) ?_
  refine DGo.cut [(16, fun b => b), (15, fun b => b)] (b := (!x8)) (by kernel_rfl) (fun hb => ?_) (fun hb => ?_)
  replace h := cond_t hb h
  refine DGo.chunk' tbok 20 (σ' := ⟨41, [(36, vb true), (35, .tup []), (34, .tup []), (33, .tup []), (32, .tup []), (31, .tup []), (30, .tup []), (29, .tup []), (28, .tup []), (27, .tup []), (26, .tup []), (25, .tup []), (24, .tup []), (23, .tup []), (22, vb true), (21, vb true), (20, .tup []), (19, .tup []), (18, .tup []), (17, .tup []), (16, vb true), (15, vb true), (14, vb x8), (13, vs x7.Code), (12, .ref 4 0), (0, vl eSite aList), (3, vi s3.1), (4, .ref 4 0), (5, vl eSite aList), (6, vi (aList.length : Int)), (7, vi s3.1), (11, .agg [vs x7.Code, vi x7.At.X, vi x7.At.Y])], [(4, .box [vs x7.Code, vi x7.At.X, vi x7.At.Y])]⟩) (by kernel_rfl) ?_
  refine DGo.nil (by kernel_rfl) ?_
  replace h := Option.some.inj h
  subst h
  exact Le.sub0
  replace h := cond_f hb h
  refine DGo.chunk' tbok 2 (σ' := ⟨41, [(18, .agg [vi x7.At.X, vi x7.At.Y]), (17, .ref 4 1), (16, vb false), (15, vb false), (14, vb x8), (13, vs x7.Code), (12, .ref 4 0), (0, vl eSite aList), (3, vi s3.1), (4, .ref 4 0), (5, vl eSite aList), (6, vi (aList.length : Int)), (7, vi s3.1), (11, .agg [vs x7.Code, vi x7.At.X, vi x7.At.Y])], [(4, .box [vs x7.Code, vi x7.At.X, vi x7.At.Y])]⟩) (by kernel_rfl) ?_
  obtain ⟨x9, hx9, h⟩ := bind_some h
  refine DGo.step (x_lstep_call (f := 30) (caps := []) (xs := [.agg [vi x7.At.X, vi x7.At.Y]]) (ys := [.agg [vi x7.At.X, vi x7.At.Y]]) (res := ⟨[.v (vb x9)], [], false⟩) (x := vb x9) (y := none) rfl ents30 (impl_IsPoint_run x7.At _ hx9) rfl (by intro hc; cases hc)) ?_
  refine DGo.chunk' tbok 3 (σ' := ⟨41, [(22, vb (!x9)), (21, vb (!x9)), (20, vb (!x9)), (19, vb x9), (18, .agg [vi x7.At.X, vi x7.At.Y]), (17, .ref 4 1), (16, vb false), (15, vb false), (14, vb x8), (13, vs x7.Code), (12, .ref 4 0), (0, vl eSite aList), (3, vi s3.1), (4, .ref 4 0), (5, vl eSite aList), (6, vi (aList.length : Int)), (7, vi s3.1), (11, .agg [vs x7.Code, vi x7.At.X, vi x7.At.Y])], [(4, .box [vs x7.Code, vi x7.At.X, vi x7.At.Y])]⟩) (by kernel_rfl) ?_
  refine DGo.cut [(22, fun b => b), (21, fun b => b), (20, fun b => b)] (b := (!x9)) (by kernel_rfl) (fun hb => ?_) (fun hb => ?_)
  replace h := cond_t hb h
  refine DGo.chunk' tbok 14 (σ' := ⟨41, [(36, vb true), (35, .tup []), (34, .tup []), (33, .tup []), (32, .tup []), (31, .tup []), (30, .tup []), (29, .tup []), (28, .tup []), (27, .tup []), (26, .tup []), (25, .tup []), (24, .tup []), (23, .tup []), (22, vb true), (21, vb true), (20, vb true), (19, vb x9), (18, .agg [vi x7.At.X, vi x7.At.Y]), (17, .ref 4 1), (16, vb false), (15, vb false), (14, vb x8), (13, vs x7.Code), (12, .ref 4 0), (0, vl eSite aList), (3, vi s3.1), (4, .ref 4 0), (5, vl eSite aList), (6, vi (aList.length : Int)), (7, vi s3.1), (11, .agg [vs x7.Code, vi x7.At.X, vi x7.At.Y])], [(4, .box [vs x7.Code, vi x7.At.X, vi x7.At.Y])]⟩) (by kernel_rfl) ?_
  refine DGo.nil (by kernel_rfl) ?_
  replace h := Option.some.inj h
  subst h
  exact Le.sub0
  replace h := cond_f hb h
  refine DGo.chunk' tbok 3 (σ' := ⟨41, [(25, vb (decide (s3.1 > 0))), (24, vb (decide (s3.1 > 0))), (23, vi s3.1), (22, vb false), (21, vb false), (20, vb false), (19, vb x9), (18, .agg [vi x7.At.X, vi x7.At.Y]), (17, .ref 4 1), (16, vb false), (15, vb false), (14, vb x8), (13, vs x7.Code), (12, .ref 4 0), (0, vl eSite aList), (3, vi s3.1), (4, .ref 4 0), (5, vl eSite aList), (6, vi (aList.length : Int)), (7, vi s3.1), (11, .agg [vs x7.Code, vi x7.At.X, vi x7.At.Y])], [(4, .box [vs x7.Code, vi x7.At.X, vi x7.At.Y])]⟩) (by kernel_rfl) ?_
  refine DGo.cut [(25, fun b => b), (24, fun b => b)] (b := (decide (s3.1 > 0))) (by kernel_rfl) (fun hb => ?_) (fun hb => ?_)
  replace h := cond_t hb h
  refine DGo.chunk' tbok 3 (σ' := ⟨41, [(28, vi (w64 (s3.1 - 1))), (27, vi s3.1), (26, vl eSite aList), (25, vb true), (24, vb true), (23, vi s3.1), (22, vb false), (21, vb false), (20, vb false), (19, vb x9), (18, .agg [vi x7.At.X, vi x7.At.Y]), (17, .ref 4 1), (16, vb false), (15, vb false), (14, vb x8), (13, vs x7.Code), (12, .ref 4 0), (0, vl eSite aList), (3, vi s3.1), (4, .ref 4 0), (5, vl eSite aList), (6, vi (aList.length : Int)), (7, vi s3.1), (11, .agg [vs x7.Code, vi x7.At.X, vi x7.At.Y])], [(4, .box [vs x7.Code, vi x7.At.X, vi x7.At.Y])]⟩) (by kernel_rfl) ?_
  obtain ⟨x10, hx10, h⟩ := bind_some h
  refine DGo.step (x_index (L := aList) (f := eSite) (ti := ti29) (tj := ti60) (e := 60) (k := .i64) tbok rfl hx10) ?_
  refine DGo.chunk' tbok 7 (σ' := ⟨41, [(36, vb (!(Op.bytesLess x10.Code.toList x7.Code.toList))), (35, vb (!(Op.bytesLess x10.Code.toList x7.Code.toList))), (34, vb (!(Op.bytesLess x10.Code.toList x7.Code.toList))), (33, vs x7.Code), (32, .ref 4 0), (31, vs x10.Code), (30, .ptr ((eSite x10).map .tr) 0), (29, .ptr ((eSite x10).map .tr) 0), (28, vi (w64 (s3.1 - 1))), (27, vi s3.1), (26, vl eSite aList), (25, vb true), (24, vb true), (23, vi s3.1), (22, vb false), (21, vb false), (20, vb false), (19, vb x9), (18, .agg [vi x7.At.X, vi x7.At.Y]), (17, .ref 4 1), (16, vb false), (15, vb false), (14, vb x8), (13, vs x7.Code), (12, .ref 4 0), (0, vl eSite aList), (3, vi s3.1), (4, .ref 4 0), (5, vl eSite aList), (6, vi (aList.length : Int)), (7, vi s3.1), (11, .agg [vs x7.Code, vi x7.At.X, vi x7.At.Y])], [(4, .box [vs x7.Code, vi x7.At.X, vi x7.At.Y])]⟩) (by kernel_rfl) ?_
  refine DGo.nil (by kernel_rfl) ?_
  replace h := Option.some.inj h
  subst h
  exact Le.sub0
  replace h := cond_f hb h
  refine DGo.chunk' tbok 11 (σ' := ⟨41, [(36, vb false), (35, vb false), (34, .tup []), (33, .tup []), (32, .tup []), (31, .tup []), (30, .tup []), (29, .tup []), (28, .tup []), (27, .tup []), (26, .tup []), (25, vb false), (24, vb false), (23, vi s3.1), (22, vb false), (21, vb false), (20, vb false), (19, vb x9), (18, .agg [vi x7.At.X, vi x7.At.Y]), (17, .ref 4 1), (16, vb false), (15, vb false), (14, vb x8), (13, vs x7.Code), (12, .ref 4 0), (0, vl eSite aList), (3, vi s3.1), (4, .ref 4 0), (5, vl eSite aList), (6, vi (aList.length : Int)), (7, vi s3.1), (11, .agg [vs x7.Code, vi x7.At.X, vi x7.At.Y])], [(4, .box [vs x7.Code, vi x7.At.X, vi x7.At.Y])]⟩) (by kernel_rfl) ?_
  refine DGo.nil (by kernel_rfl) ?_
  replace h := Option.some.inj h
  subst h
  exact Le.sub0
  refine swp_cond (b := j11) (by kernel_rfl) (fun hb => ?_) (fun hb => ?_)
  replace h := cond_t hb h
  refine swp_seq ?_
  refine swp_reg ?_
  refine SRun.ck tbok 1 ⟨41, [(2, vb false)], []⟩ ?_
  refine SRun.nil ?_
  refine nx_n ?_
  refine swp_ret ?_
  replace h := Option.some.inj h
  subst h
  exact q_br (q_rr (q_rr (q_br (q_rr (q_fr (fin1 (by kernel_rfl) (finV rfl SV.flat_of (holds_t (by kernel_rfl)))))))))
  replace h := cond_f hb h
  refine swp_skip ?_
  replace h := Option.some.inj h
  subst h
  exact q_bn (q_l (Le.sub0))
  refine swp_reg ?_
  refine SRun.ck tbok 2 ⟨41, [(0, vl eSite aList), (5, vl eSite aList), (6, vi (aList.length : Int)), (7, vi (w64 (s3.1 + 1)))], []⟩ ?_
  refine SRun.nil ?_
  replace h := Option.some.inj h
  subst h
  exact q_l (Le.sub0)
  replace h := cond_f hb h
  refine swp_exit ?_
  replace h := Option.some.inj h
  subst h
  exact nx_e (q_re (q_bh (q_l (Le.sub0))))
  refine swp_seq ?_
  refine swp_reg ?_
  refine SRun.ck tbok 4 ⟨41, [(2, vb (decide ((aList.length : Int) ≤ 10)))], []⟩ ?_
  refine SRun.nil ?_
  refine nx_n ?_
  refine swp_ret ?_
  replace h := Option.some.inj h
  subst h
  exact q_fr (fin1 (by kernel_rfl) (finV rfl SV.flat_of (holds_t (by kernel_rfl))))
theorem ents16 : Ents Tryd.prog 16 := ents_of Tryd.func16 (by kernel_rfl) rfl
noncomputable def impl_IsDesk (aD : Desk) : Option (Bool) :=
  ((((impl_AreClaims aD.Claims).bind fun x1 => (bif x1 then ((impl_AreSites aD.Sites).bind fun x2 => some x2) else some false))).bind fun (j3 : Bool) => some j3)
set_option maxRecDepth 100000 in
set_option maxHeartbeats 4000000 in
theorem impl_IsDesk_run (aD : Desk) (r : Bool) (h : impl_IsDesk aD = some r) : SCall Tryd.prog 7 [.v (.agg [vl eClaim aD.Claims, vl eSite aD.Sites])] ⟨[.v (vb r)], [], false⟩ := by
  refine scall_in Tryd.func7 rfl [(.tmp 2)] rfl (fun r => ⟨[.v (vb r)], [], false⟩) (r := r) ?_
  unfold impl_IsDesk at h
  refine swp_seq ?_
  refine swp_reg ?_
  refine SRun.ck tbok 2 ⟨11, [(1, .ref 1 0)], [(1, .box [vl eClaim aD.Claims, vl eSite aD.Sites])]⟩ ?_
  refine SRun.nil ?_
  refine nx_n ?_
  refine swp_seq ?_
  refine swp_regJ h (fun j3 => ⟨11, [(2, vb j3)], []⟩) (fun v4 h => ?_) (fun j3 h => ?_)
  refine SRun.ck tbok 2 ⟨11, [(1, .ref 1 0), (4, vl eClaim aD.Claims)], [(1, .box [vl eClaim aD.Claims, vl eSite aD.Sites])]⟩ ?_
  obtain ⟨x1, hx1, h⟩ := bind_some h
  refine SRun.ls (x_lstep_call (f := 15) (caps := []) (xs := [vl eClaim aD.Claims]) (ys := [vl eClaim aD.Claims]) (res := ⟨[.v (vb x1)], [], false⟩) (x := vb x1) (y := none) rfl ents15 (impl_AreClaims_run aD.Claims _ hx1) rfl (by intro hc; cases hc)) ?_
  refine SRun.ck tbok 1 ⟨11, [(1, .ref 1 0), (6, vb x1)], [(1, .box [vl eClaim aD.Claims, vl eSite aD.Sites])]⟩ ?_
  refine SRun.cut [(6, fun b => b)] (b := x1) (by kernel_rfl) (fun hb => ?_) (fun hb => ?_)
  replace h := cond_t hb h
  refine SRun.ck tbok 2 ⟨11, [(6, vb true), (8, vl eSite aD.Sites)], []⟩ ?_
  obtain ⟨x2, hx2, h⟩ := bind_some h
  refine SRun.ls (x_lstep_call (f := 16) (caps := []) (xs := [vl eSite aD.Sites]) (ys := [vl eSite aD.Sites]) (res := ⟨[.v (vb x2)], [], false⟩) (x := vb x2) (y := none) rfl ents16 (impl_AreSites_run aD.Sites _ hx2) rfl (by intro hc; cases hc)) ?_
  refine SRun.ck tbok 2 ⟨11, [(2, vb x2)], []⟩ ?_
  refine SRun.nil ?_
  replace h := Option.some.inj h
  subst h
  exact Le.sub0
  replace h := cond_f hb h
  refine SRun.ck tbok 5 ⟨11, [(2, vb false)], []⟩ ?_
  refine SRun.nil ?_
  replace h := Option.some.inj h
  subst h
  exact Le.sub0
  refine swp_ret ?_
  replace h := Option.some.inj h
  subst h
  exact q_fr (fin1 (by kernel_rfl) (finV rfl SV.flat_of (holds_t (by kernel_rfl))))
theorem ents7 : Ents Tryd.prog 7 := ents_of Tryd.func7 (by kernel_rfl) rfl
noncomputable def laws_eqSpan (aA : Span) (aB : Span) : Option (Bool) :=
  (bif (aA.From != aB.From) then some false else (bif (aA.To != aB.To) then some false else some true))
set_option maxRecDepth 100000 in
set_option maxHeartbeats 4000000 in
theorem laws_eqSpan_run (aA : Span) (aB : Span) (r : Bool) (h : laws_eqSpan aA aB = some r) : SCall Tryd.prog 47 [.v (.agg [vi aA.From, vi aA.To]), .v (.agg [vi aB.From, vi aB.To])] ⟨[.v (vb r)], [], false⟩ := by
  refine scall_in Tryd.func47 rfl [(.tmp 4)] rfl (fun r => ⟨[.v (vb r)], [], false⟩) (r := r) ?_
  unfold laws_eqSpan at h
  refine swp_seq ?_
  refine swp_reg ?_
  refine SRun.ck tbok 3 ⟨15, [(2, .ref 2 0), (3, .ref 3 0)], [(2, .box [vi aA.From, vi aA.To]), (3, .box [vi aB.From, vi aB.To])]⟩ ?_
  refine SRun.nil ?_
  refine nx_n ?_
  refine swp_seq ?_
  refine swp_seq ?_
  refine swp_reg ?_
  refine SRun.ck tbok 5 ⟨15, [(2, .ref 2 0), (3, .ref 3 0), (9, vb (aA.From != aB.From))], [(2, .box [vi aA.From, vi aA.To]), (3, .box [vi aB.From, vi aB.To])]⟩ ?_
  refine SRun.nil ?_
  refine nx_n ?_
  refine swp_cond (b := (aA.From != aB.From)) (by kernel_rfl) (fun hb => ?_) (fun hb => ?_)
  replace h := cond_t hb h
  refine swp_seq ?_
  refine swp_reg ?_
  refine SRun.ck tbok 1 ⟨15, [(4, vb false)], []⟩ ?_
  refine SRun.nil ?_
  refine nx_n ?_
  refine swp_ret ?_
  replace h := Option.some.inj h
  subst h
  exact nx_r (q_fr (fin1 (by kernel_rfl) (finV rfl SV.flat_of (holds_t (by kernel_rfl)))))
  replace h := cond_f hb h
  refine swp_skip ?_
  refine nx_n ?_
  refine swp_seq ?_
  refine swp_seq ?_
  refine swp_reg ?_
  refine SRun.ck tbok 5 ⟨15, [(14, vb (aA.To != aB.To))], []⟩ ?_
  refine SRun.nil ?_
  refine nx_n ?_
  refine swp_cond (b := (aA.To != aB.To)) (by kernel_rfl) (fun hb => ?_) (fun hb => ?_)
  replace h := cond_t hb h
  refine swp_seq ?_
  refine swp_reg ?_
  refine SRun.ck tbok 1 ⟨15, [(4, vb false)], []⟩ ?_
  refine SRun.nil ?_
  refine nx_n ?_
  refine swp_ret ?_
  replace h := Option.some.inj h
  subst h
  exact nx_r (q_fr (fin1 (by kernel_rfl) (finV rfl SV.flat_of (holds_t (by kernel_rfl)))))
  replace h := cond_f hb h
  refine swp_skip ?_
  refine nx_n ?_
  refine swp_seq ?_
  refine swp_reg ?_
  refine SRun.ck tbok 1 ⟨15, [(4, vb true)], []⟩ ?_
  refine SRun.nil ?_
  refine nx_n ?_
  refine swp_ret ?_
  replace h := Option.some.inj h
  subst h
  exact q_fr (fin1 (by kernel_rfl) (finV rfl SV.flat_of (holds_t (by kernel_rfl))))
theorem ents47 : Ents Tryd.prog 47 := ents_of Tryd.func47 (by kernel_rfl) rfl
noncomputable def laws_eqClaim (aA : Claim) (aB : Claim) : Option (Bool) :=
  (bif (!(aA.Source.toList == aB.Source.toList)) then some false else (bif (aA.Kind != aB.Kind) then some false else (bif (!(aA.Place.toList == aB.Place.toList)) then some false else (bif (!(aA.Value.toList == aB.Value.toList)) then some false else ((laws_eqSpan aA.Years aB.Years).bind fun x1 => (bif (!x1) then some false else (bif (aA.Weight != aB.Weight) then some false else some true)))))))
set_option maxRecDepth 100000 in
set_option maxHeartbeats 4000000 in
theorem laws_eqClaim_run (aA : Claim) (aB : Claim) (r : Bool) (h : laws_eqClaim aA aB = some r) : SCall Tryd.prog 31 [.v (.agg [vs aA.Source, vi aA.Kind, vs aA.Place, vs aA.Value, vi aA.Years.From, vi aA.Years.To, vi aA.Weight]), .v (.agg [vs aB.Source, vi aB.Kind, vs aB.Place, vs aB.Value, vi aB.Years.From, vi aB.Years.To, vi aB.Weight])] ⟨[.v (vb r)], [], false⟩ := by
  refine scall_in Tryd.func31 rfl [(.tmp 4)] rfl (fun r => ⟨[.v (vb r)], [], false⟩) (r := r) ?_
  unfold laws_eqClaim at h
  refine swp_seq ?_
  refine swp_reg ?_
  refine SRun.ck tbok 3 ⟨36, [(2, .ref 2 0), (3, .ref 3 0)], [(2, .box [vs aA.Source, vi aA.Kind, vs aA.Place, vs aA.Value, vi aA.Years.From, vi aA.Years.To, vi aA.Weight]), (3, .box [vs aB.Source, vi aB.Kind, vs aB.Place, vs aB.Value, vi aB.Years.From, vi aB.Years.To, vi aB.Weight])]⟩ ?_
  refine SRun.nil ?_
  refine nx_n ?_
  refine swp_seq ?_
  refine swp_seq ?_
  refine swp_reg ?_
  refine SRun.ck tbok 5 ⟨36, [(2, .ref 2 0), (3, .ref 3 0), (9, vb (!(aA.Source.toList == aB.Source.toList)))], [(2, .box [vs aA.Source, vi aA.Kind, vs aA.Place, vs aA.Value, vi aA.Years.From, vi aA.Years.To, vi aA.Weight]), (3, .box [vs aB.Source, vi aB.Kind, vs aB.Place, vs aB.Value, vi aB.Years.From, vi aB.Years.To, vi aB.Weight])]⟩ ?_
  refine SRun.nil ?_
  refine nx_n ?_
  refine swp_cond (b := (!(aA.Source.toList == aB.Source.toList))) (by kernel_rfl) (fun hb => ?_) (fun hb => ?_)
  replace h := cond_t hb h
  refine swp_seq ?_
  refine swp_reg ?_
  refine SRun.ck tbok 1 ⟨36, [(4, vb false)], []⟩ ?_
  refine SRun.nil ?_
  refine nx_n ?_
  refine swp_ret ?_
  replace h := Option.some.inj h
  subst h
  exact nx_r (q_fr (fin1 (by kernel_rfl) (finV rfl SV.flat_of (holds_t (by kernel_rfl)))))
  replace h := cond_f hb h
  refine swp_skip ?_
  refine nx_n ?_
  refine swp_seq ?_
  refine swp_seq ?_
  refine swp_reg ?_
  refine SRun.ck tbok 5 ⟨36, [(2, .ref 2 0), (3, .ref 3 0), (14, vb (aA.Kind != aB.Kind))], [(2, .box [vs aA.Source, vi aA.Kind, vs aA.Place, vs aA.Value, vi aA.Years.From, vi aA.Years.To, vi aA.Weight]), (3, .box [vs aB.Source, vi aB.Kind, vs aB.Place, vs aB.Value, vi aB.Years.From, vi aB.Years.To, vi aB.Weight])]⟩ ?_
  refine SRun.nil ?_
  refine nx_n ?_
  refine swp_cond (b := (aA.Kind != aB.Kind)) (by kernel_rfl) (fun hb => ?_) (fun hb => ?_)
  replace h := cond_t hb h
  refine swp_seq ?_
  refine swp_reg ?_
  refine SRun.ck tbok 1 ⟨36, [(4, vb false)], []⟩ ?_
  refine SRun.nil ?_
  refine nx_n ?_
  refine swp_ret ?_
  replace h := Option.some.inj h
  subst h
  exact nx_r (q_fr (fin1 (by kernel_rfl) (finV rfl SV.flat_of (holds_t (by kernel_rfl)))))
  replace h := cond_f hb h
  refine swp_skip ?_
  refine nx_n ?_
  refine swp_seq ?_
  refine swp_seq ?_
  refine swp_reg ?_
  refine SRun.ck tbok 5 ⟨36, [(2, .ref 2 0), (3, .ref 3 0), (19, vb (!(aA.Place.toList == aB.Place.toList)))], [(2, .box [vs aA.Source, vi aA.Kind, vs aA.Place, vs aA.Value, vi aA.Years.From, vi aA.Years.To, vi aA.Weight]), (3, .box [vs aB.Source, vi aB.Kind, vs aB.Place, vs aB.Value, vi aB.Years.From, vi aB.Years.To, vi aB.Weight])]⟩ ?_
  refine SRun.nil ?_
  refine nx_n ?_
  refine swp_cond (b := (!(aA.Place.toList == aB.Place.toList))) (by kernel_rfl) (fun hb => ?_) (fun hb => ?_)
  replace h := cond_t hb h
  refine swp_seq ?_
  refine swp_reg ?_
  refine SRun.ck tbok 1 ⟨36, [(4, vb false)], []⟩ ?_
  refine SRun.nil ?_
  refine nx_n ?_
  refine swp_ret ?_
  replace h := Option.some.inj h
  subst h
  exact nx_r (q_fr (fin1 (by kernel_rfl) (finV rfl SV.flat_of (holds_t (by kernel_rfl)))))
  replace h := cond_f hb h
  refine swp_skip ?_
  refine nx_n ?_
  refine swp_seq ?_
  refine swp_seq ?_
  refine swp_reg ?_
  refine SRun.ck tbok 5 ⟨36, [(2, .ref 2 0), (3, .ref 3 0), (24, vb (!(aA.Value.toList == aB.Value.toList)))], [(2, .box [vs aA.Source, vi aA.Kind, vs aA.Place, vs aA.Value, vi aA.Years.From, vi aA.Years.To, vi aA.Weight]), (3, .box [vs aB.Source, vi aB.Kind, vs aB.Place, vs aB.Value, vi aB.Years.From, vi aB.Years.To, vi aB.Weight])]⟩ ?_
  refine SRun.nil ?_
  refine nx_n ?_
  refine swp_cond (b := (!(aA.Value.toList == aB.Value.toList))) (by kernel_rfl) (fun hb => ?_) (fun hb => ?_)
  replace h := cond_t hb h
  refine swp_seq ?_
  refine swp_reg ?_
  refine SRun.ck tbok 1 ⟨36, [(4, vb false)], []⟩ ?_
  refine SRun.nil ?_
  refine nx_n ?_
  refine swp_ret ?_
  replace h := Option.some.inj h
  subst h
  exact nx_r (q_fr (fin1 (by kernel_rfl) (finV rfl SV.flat_of (holds_t (by kernel_rfl)))))
  replace h := cond_f hb h
  refine swp_skip ?_
  refine nx_n ?_
  refine swp_seq ?_
  refine swp_seq ?_
  refine swp_reg ?_
  refine SRun.ck tbok 4 ⟨36, [(2, .ref 2 0), (3, .ref 3 0), (26, .agg [vi aA.Years.From, vi aA.Years.To]), (28, .agg [vi aB.Years.From, vi aB.Years.To])], [(2, .box [vs aA.Source, vi aA.Kind, vs aA.Place, vs aA.Value, vi aA.Years.From, vi aA.Years.To, vi aA.Weight]), (3, .box [vs aB.Source, vi aB.Kind, vs aB.Place, vs aB.Value, vi aB.Years.From, vi aB.Years.To, vi aB.Weight])]⟩ ?_
  obtain ⟨x1, hx1, h⟩ := bind_some h
  refine SRun.ls (x_lstep_call (f := 47) (caps := []) (xs := [.agg [vi aA.Years.From, vi aA.Years.To], .agg [vi aB.Years.From, vi aB.Years.To]]) (ys := [.agg [vi aA.Years.From, vi aA.Years.To], .agg [vi aB.Years.From, vi aB.Years.To]]) (res := ⟨[.v (vb x1)], [], false⟩) (x := vb x1) (y := none) rfl ents47 (laws_eqSpan_run aA.Years aB.Years _ hx1) rfl (by intro hc; cases hc)) ?_
  refine SRun.ck tbok 1 ⟨36, [(2, .ref 2 0), (3, .ref 3 0), (30, vb (!x1))], [(2, .box [vs aA.Source, vi aA.Kind, vs aA.Place, vs aA.Value, vi aA.Years.From, vi aA.Years.To, vi aA.Weight]), (3, .box [vs aB.Source, vi aB.Kind, vs aB.Place, vs aB.Value, vi aB.Years.From, vi aB.Years.To, vi aB.Weight])]⟩ ?_
  refine SRun.nil ?_
  refine nx_n ?_
  refine swp_cond (b := (!x1)) (by kernel_rfl) (fun hb => ?_) (fun hb => ?_)
  replace h := cond_t hb h
  refine swp_seq ?_
  refine swp_reg ?_
  refine SRun.ck tbok 1 ⟨36, [(4, vb false)], []⟩ ?_
  refine SRun.nil ?_
  refine nx_n ?_
  refine swp_ret ?_
  replace h := Option.some.inj h
  subst h
  exact nx_r (q_fr (fin1 (by kernel_rfl) (finV rfl SV.flat_of (holds_t (by kernel_rfl)))))
  replace h := cond_f hb h
  refine swp_skip ?_
  refine nx_n ?_
  refine swp_seq ?_
  refine swp_seq ?_
  refine swp_reg ?_
  refine SRun.ck tbok 5 ⟨36, [(35, vb (aA.Weight != aB.Weight))], []⟩ ?_
  refine SRun.nil ?_
  refine nx_n ?_
  refine swp_cond (b := (aA.Weight != aB.Weight)) (by kernel_rfl) (fun hb => ?_) (fun hb => ?_)
  replace h := cond_t hb h
  refine swp_seq ?_
  refine swp_reg ?_
  refine SRun.ck tbok 1 ⟨36, [(4, vb false)], []⟩ ?_
  refine SRun.nil ?_
  refine nx_n ?_
  refine swp_ret ?_
  replace h := Option.some.inj h
  subst h
  exact nx_r (q_fr (fin1 (by kernel_rfl) (finV rfl SV.flat_of (holds_t (by kernel_rfl)))))
  replace h := cond_f hb h
  refine swp_skip ?_
  refine nx_n ?_
  refine swp_seq ?_
  refine swp_reg ?_
  refine SRun.ck tbok 1 ⟨36, [(4, vb true)], []⟩ ?_
  refine SRun.nil ?_
  refine nx_n ?_
  refine swp_ret ?_
  replace h := Option.some.inj h
  subst h
  exact q_fr (fin1 (by kernel_rfl) (finV rfl SV.flat_of (holds_t (by kernel_rfl))))
theorem ents31 : Ents Tryd.prog 31 := ents_of Tryd.func31 (by kernel_rfl) rfl
noncomputable def laws_eqClaimS (aA : (List Claim)) (aB : (List Claim)) : Option (Bool) :=
  (bif ((aA.length : Int) != (aB.length : Int)) then some false else (((forN (aA.length : Int) (fun (i3 : Int) (_ : Unit) => ((at' aA i3).bind fun x7 => ((at' aB i3).bind fun x8 => ((laws_eqClaim x7 x8).bind fun x9 => (bif (!x9) then some (.inr (.inr false)) else some (.inl ())))))) (fun (_ : Unit) => .inl ()) 0 ())).bind (Sum.elim (fun (_ : Unit) => some true) some)))
set_option maxRecDepth 100000 in
set_option maxHeartbeats 4000000 in
theorem laws_eqClaimS_run (aA : (List Claim)) (aB : (List Claim)) (r : Bool) (h : laws_eqClaimS aA aB = some r) : SCall Tryd.prog 17 [.v (vl eClaim aA), .v (vl eClaim aB)] ⟨[.v (vb r)], [], false⟩ := by
  refine scall_in Tryd.func17 rfl [(.tmp 4)] rfl (fun r => ⟨[.v (vb r)], [], false⟩) (r := r) ?_
  unfold laws_eqClaimS at h
  refine swp_seq ?_
  refine swp_reg ?_
  refine SRun.ck tbok 1 ⟨27, [(0, vl eClaim aA), (1, vl eClaim aB)], []⟩ ?_
  refine SRun.nil ?_
  refine nx_n ?_
  refine swp_seq ?_
  refine swp_seq ?_
  refine swp_reg ?_
  refine SRun.ck tbok 5 ⟨27, [(0, vl eClaim aA), (1, vl eClaim aB), (10, vb ((aA.length : Int) != (aB.length : Int)))], []⟩ ?_
  refine SRun.nil ?_
  refine nx_n ?_
  refine swp_cond (b := ((aA.length : Int) != (aB.length : Int))) (by kernel_rfl) (fun hb => ?_) (fun hb => ?_)
  replace h := cond_t hb h
  refine swp_seq ?_
  refine swp_reg ?_
  refine SRun.ck tbok 1 ⟨27, [(4, vb false)], []⟩ ?_
  refine SRun.nil ?_
  refine nx_n ?_
  refine swp_ret ?_
  replace h := Option.some.inj h
  subst h
  exact nx_r (q_fr (fin1 (by kernel_rfl) (finV rfl SV.flat_of (holds_t (by kernel_rfl)))))
  replace h := cond_f hb h
  refine swp_skip ?_
  refine nx_n ?_
  refine swp_seq ?_
  refine swp_seq ?_
  refine swp_reg ?_
  refine SRun.ck tbok 1 ⟨27, [(0, vl eClaim aA), (1, vl eClaim aB), (5, vi 0)], []⟩ ?_
  refine SRun.nil ?_
  refine nx_n ?_
  refine swp_seqE (r := r) h (fun j1 => ⟨27, [], []⟩) (fun v2 h => ?_) (fun j1 h => ?_)
  refine swp_blk (a := v2) ?_
  refine swp_lpL (r := v2) (s := (0, ())) _ (fun s3 => ⟨27, [(0, vl eClaim aA), (1, vl eClaim aB), (5, vi s3.1)], []⟩) _ (Le.sub0) h (fun s3 v4 h => ?_)
  refine swp_seq ?_
  refine swp_seq ?_
  refine swp_reg ?_
  refine SRun.ck tbok 4 ⟨27, [(0, vl eClaim aA), (1, vl eClaim aB), (5, vi s3.1), (14, vb (decide (s3.1 < (aA.length : Int))))], []⟩ ?_
  refine SRun.nil ?_
  refine nx_n ?_
  refine swp_cond (b := (decide (s3.1 < (aA.length : Int)))) (by kernel_rfl) (fun hb => ?_) (fun hb => ?_)
  replace h := cond_t hb h
  refine swp_skip ?_
  refine nx_n ?_
  refine swp_seq ?_
  refine swp_seqL (r := v4) h (fun j5 => ⟨27, [(0, vl eClaim aA), (1, vl eClaim aB), (5, vi s3.1)], []⟩) (fun v6 h => ?_) (fun j5 h => ?_)
  refine swp_blk (a := v6) ?_
  refine swp_seq ?_
  refine swp_dr mixed ?_
  refine DGo.chunk' tbok 2 (σ' := ⟨27, [(18, vi s3.1), (17, vl eClaim aA), (0, vl eClaim aA), (1, vl eClaim aB), (5, vi s3.1), (14, vb (decide (s3.1 < (aA.length : Int))))], []⟩) (by kernel_rfl) ?_
  obtain ⟨x7, hx7, h⟩ := bind_some h
  refine DGo.step (x_index (L := aA) (f := eClaim) (ti := ti28) (tj := ti56) (e := 56) (k := .i64) tbok rfl hx7) ?_
  refine DGo.chunk' tbok 3 (σ' := ⟨27, [(22, vi s3.1), (21, vl eClaim aB), (20, .agg [vs x7.Source, vi x7.Kind, vs x7.Place, vs x7.Value, vi x7.Years.From, vi x7.Years.To, vi x7.Weight]), (19, .ptr ((eClaim x7).map .tr) 0), (18, vi s3.1), (17, vl eClaim aA), (0, vl eClaim aA), (1, vl eClaim aB), (5, vi s3.1), (14, vb (decide (s3.1 < (aA.length : Int))))], []⟩) (by kernel_rfl) ?_
  obtain ⟨x8, hx8, h⟩ := bind_some h
  refine DGo.step (x_index (L := aB) (f := eClaim) (ti := ti28) (tj := ti56) (e := 56) (k := .i64) tbok rfl hx8) ?_
  refine DGo.chunk' tbok 1 (σ' := ⟨27, [(24, .agg [vs x8.Source, vi x8.Kind, vs x8.Place, vs x8.Value, vi x8.Years.From, vi x8.Years.To, vi x8.Weight]), (23, .ptr ((eClaim x8).map .tr) 0), (22, vi s3.1), (21, vl eClaim aB), (20, .agg [vs x7.Source, vi x7.Kind, vs x7.Place, vs x7.Value, vi x7.Years.From, vi x7.Years.To, vi x7.Weight]), (19, .ptr ((eClaim x7).map .tr) 0), (18, vi s3.1), (17, vl eClaim aA), (0, vl eClaim aA), (1, vl eClaim aB), (5, vi s3.1), (14, vb (decide (s3.1 < (aA.length : Int))))], []⟩) (by kernel_rfl) ?_
  obtain ⟨x9, hx9, h⟩ := bind_some h
  refine DGo.step (x_lstep_call (f := 31) (caps := []) (xs := [.agg [vs x7.Source, vi x7.Kind, vs x7.Place, vs x7.Value, vi x7.Years.From, vi x7.Years.To, vi x7.Weight], .agg [vs x8.Source, vi x8.Kind, vs x8.Place, vs x8.Value, vi x8.Years.From, vi x8.Years.To, vi x8.Weight]]) (ys := [.agg [vs x7.Source, vi x7.Kind, vs x7.Place, vs x7.Value, vi x7.Years.From, vi x7.Years.To, vi x7.Weight], .agg [vs x8.Source, vi x8.Kind, vs x8.Place, vs x8.Value, vi x8.Years.From, vi x8.Years.To, vi x8.Weight]]) (res := ⟨[.v (vb x9)], [], false⟩) (x := vb x9) (y := none) rfl ents31 (laws_eqClaim_run x7 x8 _ hx9) rfl (by intro hc; cases hc)) ?_
  refine DGo.chunk' tbok 1 (σ' := ⟨27, [(26, vb (!x9)), (25, vb x9), (24, .agg [vs x8.Source, vi x8.Kind, vs x8.Place, vs x8.Value, vi x8.Years.From, vi x8.Years.To, vi x8.Weight]), (23, .ptr ((eClaim x8).map .tr) 0), (22, vi s3.1), (21, vl eClaim aB), (20, .agg [vs x7.Source, vi x7.Kind, vs x7.Place, vs x7.Value, vi x7.Years.From, vi x7.Years.To, vi x7.Weight]), (19, .ptr ((eClaim x7).map .tr) 0), (18, vi s3.1), (17, vl eClaim aA), (0, vl eClaim aA), (1, vl eClaim aB), (5, vi s3.1), (14, vb (decide (s3.1 < (aA.length : Int))))], []⟩) (by kernel_rfl) ?_
  refine DGo.nil (by kernel_rfl) ?_
  refine nx_n ?_
  refine swp_cond (b := (!x9)) (by kernel_rfl) (fun hb => ?_) (fun hb => ?_)
  replace h := cond_t hb h
  refine swp_seq ?_
  refine swp_reg ?_
  refine SRun.ck tbok 1 ⟨27, [(4, vb false)], []⟩ ?_
  refine SRun.nil ?_
  refine nx_n ?_
  refine swp_ret ?_
  replace h := Option.some.inj h
  subst h
  exact q_br (q_rr (q_rr (q_br (q_rr (q_fr (fin1 (by kernel_rfl) (finV rfl SV.flat_of (holds_t (by kernel_rfl)))))))))
  replace h := cond_f hb h
  refine swp_skip ?_
  replace h := Option.some.inj h
  subst h
  exact q_bn (q_l (Le.sub0))
  refine swp_reg ?_
  refine SRun.ck tbok 3 ⟨27, [(0, vl eClaim aA), (1, vl eClaim aB), (5, vi (w64 (s3.1 + 1)))], []⟩ ?_
  refine SRun.nil ?_
  replace h := Option.some.inj h
  subst h
  exact q_l (Le.sub0)
  replace h := cond_f hb h
  refine swp_exit ?_
  replace h := Option.some.inj h
  subst h
  exact nx_e (q_re (q_bh (q_l (Le.sub0))))
  refine swp_seq ?_
  refine swp_reg ?_
  refine SRun.ck tbok 1 ⟨27, [(4, vb true)], []⟩ ?_
  refine SRun.nil ?_
  refine nx_n ?_
  refine swp_ret ?_
  replace h := Option.some.inj h
  subst h
  exact q_fr (fin1 (by kernel_rfl) (finV rfl SV.flat_of (holds_t (by kernel_rfl))))
theorem ents17 : Ents Tryd.prog 17 := ents_of Tryd.func17 (by kernel_rfl) rfl
noncomputable def laws_eqPoint (aA : Point) (aB : Point) : Option (Bool) :=
  (bif (aA.X != aB.X) then some false else (bif (aA.Y != aB.Y) then some false else some true))
set_option maxRecDepth 100000 in
set_option maxHeartbeats 4000000 in
theorem laws_eqPoint_run (aA : Point) (aB : Point) (r : Bool) (h : laws_eqPoint aA aB = some r) : SCall Tryd.prog 48 [.v (.agg [vi aA.X, vi aA.Y]), .v (.agg [vi aB.X, vi aB.Y])] ⟨[.v (vb r)], [], false⟩ := by
  refine scall_in Tryd.func48 rfl [(.tmp 4)] rfl (fun r => ⟨[.v (vb r)], [], false⟩) (r := r) ?_
  unfold laws_eqPoint at h
  refine swp_seq ?_
  refine swp_reg ?_
  refine SRun.ck tbok 3 ⟨15, [(2, .ref 2 0), (3, .ref 3 0)], [(2, .box [vi aA.X, vi aA.Y]), (3, .box [vi aB.X, vi aB.Y])]⟩ ?_
  refine SRun.nil ?_
  refine nx_n ?_
  refine swp_seq ?_
  refine swp_seq ?_
  refine swp_reg ?_
  refine SRun.ck tbok 5 ⟨15, [(2, .ref 2 0), (3, .ref 3 0), (9, vb (aA.X != aB.X))], [(2, .box [vi aA.X, vi aA.Y]), (3, .box [vi aB.X, vi aB.Y])]⟩ ?_
  refine SRun.nil ?_
  refine nx_n ?_
  refine swp_cond (b := (aA.X != aB.X)) (by kernel_rfl) (fun hb => ?_) (fun hb => ?_)
  replace h := cond_t hb h
  refine swp_seq ?_
  refine swp_reg ?_
  refine SRun.ck tbok 1 ⟨15, [(4, vb false)], []⟩ ?_
  refine SRun.nil ?_
  refine nx_n ?_
  refine swp_ret ?_
  replace h := Option.some.inj h
  subst h
  exact nx_r (q_fr (fin1 (by kernel_rfl) (finV rfl SV.flat_of (holds_t (by kernel_rfl)))))
  replace h := cond_f hb h
  refine swp_skip ?_
  refine nx_n ?_
  refine swp_seq ?_
  refine swp_seq ?_
  refine swp_reg ?_
  refine SRun.ck tbok 5 ⟨15, [(14, vb (aA.Y != aB.Y))], []⟩ ?_
  refine SRun.nil ?_
  refine nx_n ?_
  refine swp_cond (b := (aA.Y != aB.Y)) (by kernel_rfl) (fun hb => ?_) (fun hb => ?_)
  replace h := cond_t hb h
  refine swp_seq ?_
  refine swp_reg ?_
  refine SRun.ck tbok 1 ⟨15, [(4, vb false)], []⟩ ?_
  refine SRun.nil ?_
  refine nx_n ?_
  refine swp_ret ?_
  replace h := Option.some.inj h
  subst h
  exact nx_r (q_fr (fin1 (by kernel_rfl) (finV rfl SV.flat_of (holds_t (by kernel_rfl)))))
  replace h := cond_f hb h
  refine swp_skip ?_
  refine nx_n ?_
  refine swp_seq ?_
  refine swp_reg ?_
  refine SRun.ck tbok 1 ⟨15, [(4, vb true)], []⟩ ?_
  refine SRun.nil ?_
  refine nx_n ?_
  refine swp_ret ?_
  replace h := Option.some.inj h
  subst h
  exact q_fr (fin1 (by kernel_rfl) (finV rfl SV.flat_of (holds_t (by kernel_rfl))))
theorem ents48 : Ents Tryd.prog 48 := ents_of Tryd.func48 (by kernel_rfl) rfl
noncomputable def laws_eqSite (aA : Site) (aB : Site) : Option (Bool) :=
  (bif (!(aA.Code.toList == aB.Code.toList)) then some false else ((laws_eqPoint aA.At aB.At).bind fun x1 => (bif (!x1) then some false else some true)))
set_option maxRecDepth 100000 in
set_option maxHeartbeats 4000000 in
theorem laws_eqSite_run (aA : Site) (aB : Site) (r : Bool) (h : laws_eqSite aA aB = some r) : SCall Tryd.prog 32 [.v (.agg [vs aA.Code, vi aA.At.X, vi aA.At.Y]), .v (.agg [vs aB.Code, vi aB.At.X, vi aB.At.Y])] ⟨[.v (vb r)], [], false⟩ := by
  refine scall_in Tryd.func32 rfl [(.tmp 4)] rfl (fun r => ⟨[.v (vb r)], [], false⟩) (r := r) ?_
  unfold laws_eqSite at h
  refine swp_seq ?_
  refine swp_reg ?_
  refine SRun.ck tbok 3 ⟨16, [(2, .ref 2 0), (3, .ref 3 0)], [(2, .box [vs aA.Code, vi aA.At.X, vi aA.At.Y]), (3, .box [vs aB.Code, vi aB.At.X, vi aB.At.Y])]⟩ ?_
  refine SRun.nil ?_
  refine nx_n ?_
  refine swp_seq ?_
  refine swp_seq ?_
  refine swp_reg ?_
  refine SRun.ck tbok 5 ⟨16, [(2, .ref 2 0), (3, .ref 3 0), (9, vb (!(aA.Code.toList == aB.Code.toList)))], [(2, .box [vs aA.Code, vi aA.At.X, vi aA.At.Y]), (3, .box [vs aB.Code, vi aB.At.X, vi aB.At.Y])]⟩ ?_
  refine SRun.nil ?_
  refine nx_n ?_
  refine swp_cond (b := (!(aA.Code.toList == aB.Code.toList))) (by kernel_rfl) (fun hb => ?_) (fun hb => ?_)
  replace h := cond_t hb h
  refine swp_seq ?_
  refine swp_reg ?_
  refine SRun.ck tbok 1 ⟨16, [(4, vb false)], []⟩ ?_
  refine SRun.nil ?_
  refine nx_n ?_
  refine swp_ret ?_
  replace h := Option.some.inj h
  subst h
  exact nx_r (q_fr (fin1 (by kernel_rfl) (finV rfl SV.flat_of (holds_t (by kernel_rfl)))))
  replace h := cond_f hb h
  refine swp_skip ?_
  refine nx_n ?_
  refine swp_seq ?_
  refine swp_seq ?_
  refine swp_reg ?_
  refine SRun.ck tbok 4 ⟨16, [(11, .agg [vi aA.At.X, vi aA.At.Y]), (13, .agg [vi aB.At.X, vi aB.At.Y])], []⟩ ?_
  obtain ⟨x1, hx1, h⟩ := bind_some h
  refine SRun.ls (x_lstep_call (f := 48) (caps := []) (xs := [.agg [vi aA.At.X, vi aA.At.Y], .agg [vi aB.At.X, vi aB.At.Y]]) (ys := [.agg [vi aA.At.X, vi aA.At.Y], .agg [vi aB.At.X, vi aB.At.Y]]) (res := ⟨[.v (vb x1)], [], false⟩) (x := vb x1) (y := none) rfl ents48 (laws_eqPoint_run aA.At aB.At _ hx1) rfl (by intro hc; cases hc)) ?_
  refine SRun.ck tbok 1 ⟨16, [(15, vb (!x1))], []⟩ ?_
  refine SRun.nil ?_
  refine nx_n ?_
  refine swp_cond (b := (!x1)) (by kernel_rfl) (fun hb => ?_) (fun hb => ?_)
  replace h := cond_t hb h
  refine swp_seq ?_
  refine swp_reg ?_
  refine SRun.ck tbok 1 ⟨16, [(4, vb false)], []⟩ ?_
  refine SRun.nil ?_
  refine nx_n ?_
  refine swp_ret ?_
  replace h := Option.some.inj h
  subst h
  exact nx_r (q_fr (fin1 (by kernel_rfl) (finV rfl SV.flat_of (holds_t (by kernel_rfl)))))
  replace h := cond_f hb h
  refine swp_skip ?_
  refine nx_n ?_
  refine swp_seq ?_
  refine swp_reg ?_
  refine SRun.ck tbok 1 ⟨16, [(4, vb true)], []⟩ ?_
  refine SRun.nil ?_
  refine nx_n ?_
  refine swp_ret ?_
  replace h := Option.some.inj h
  subst h
  exact q_fr (fin1 (by kernel_rfl) (finV rfl SV.flat_of (holds_t (by kernel_rfl))))
theorem ents32 : Ents Tryd.prog 32 := ents_of Tryd.func32 (by kernel_rfl) rfl
noncomputable def laws_eqSiteS (aA : (List Site)) (aB : (List Site)) : Option (Bool) :=
  (bif ((aA.length : Int) != (aB.length : Int)) then some false else (((forN (aA.length : Int) (fun (i3 : Int) (_ : Unit) => ((at' aA i3).bind fun x7 => ((at' aB i3).bind fun x8 => ((laws_eqSite x7 x8).bind fun x9 => (bif (!x9) then some (.inr (.inr false)) else some (.inl ())))))) (fun (_ : Unit) => .inl ()) 0 ())).bind (Sum.elim (fun (_ : Unit) => some true) some)))
set_option maxRecDepth 100000 in
set_option maxHeartbeats 4000000 in
theorem laws_eqSiteS_run (aA : (List Site)) (aB : (List Site)) (r : Bool) (h : laws_eqSiteS aA aB = some r) : SCall Tryd.prog 18 [.v (vl eSite aA), .v (vl eSite aB)] ⟨[.v (vb r)], [], false⟩ := by
  refine scall_in Tryd.func18 rfl [(.tmp 4)] rfl (fun r => ⟨[.v (vb r)], [], false⟩) (r := r) ?_
  unfold laws_eqSiteS at h
  refine swp_seq ?_
  refine swp_reg ?_
  refine SRun.ck tbok 1 ⟨27, [(0, vl eSite aA), (1, vl eSite aB)], []⟩ ?_
  refine SRun.nil ?_
  refine nx_n ?_
  refine swp_seq ?_
  refine swp_seq ?_
  refine swp_reg ?_
  refine SRun.ck tbok 5 ⟨27, [(0, vl eSite aA), (1, vl eSite aB), (10, vb ((aA.length : Int) != (aB.length : Int)))], []⟩ ?_
  refine SRun.nil ?_
  refine nx_n ?_
  refine swp_cond (b := ((aA.length : Int) != (aB.length : Int))) (by kernel_rfl) (fun hb => ?_) (fun hb => ?_)
  replace h := cond_t hb h
  refine swp_seq ?_
  refine swp_reg ?_
  refine SRun.ck tbok 1 ⟨27, [(4, vb false)], []⟩ ?_
  refine SRun.nil ?_
  refine nx_n ?_
  refine swp_ret ?_
  replace h := Option.some.inj h
  subst h
  exact nx_r (q_fr (fin1 (by kernel_rfl) (finV rfl SV.flat_of (holds_t (by kernel_rfl)))))
  replace h := cond_f hb h
  refine swp_skip ?_
  refine nx_n ?_
  refine swp_seq ?_
  refine swp_seq ?_
  refine swp_reg ?_
  refine SRun.ck tbok 1 ⟨27, [(0, vl eSite aA), (1, vl eSite aB), (5, vi 0)], []⟩ ?_
  refine SRun.nil ?_
  refine nx_n ?_
  refine swp_seqE (r := r) h (fun j1 => ⟨27, [], []⟩) (fun v2 h => ?_) (fun j1 h => ?_)
  refine swp_blk (a := v2) ?_
  refine swp_lpL (r := v2) (s := (0, ())) _ (fun s3 => ⟨27, [(0, vl eSite aA), (1, vl eSite aB), (5, vi s3.1)], []⟩) _ (Le.sub0) h (fun s3 v4 h => ?_)
  refine swp_seq ?_
  refine swp_seq ?_
  refine swp_reg ?_
  refine SRun.ck tbok 4 ⟨27, [(0, vl eSite aA), (1, vl eSite aB), (5, vi s3.1), (14, vb (decide (s3.1 < (aA.length : Int))))], []⟩ ?_
  refine SRun.nil ?_
  refine nx_n ?_
  refine swp_cond (b := (decide (s3.1 < (aA.length : Int)))) (by kernel_rfl) (fun hb => ?_) (fun hb => ?_)
  replace h := cond_t hb h
  refine swp_skip ?_
  refine nx_n ?_
  refine swp_seq ?_
  refine swp_seqL (r := v4) h (fun j5 => ⟨27, [(0, vl eSite aA), (1, vl eSite aB), (5, vi s3.1)], []⟩) (fun v6 h => ?_) (fun j5 h => ?_)
  refine swp_blk (a := v6) ?_
  refine swp_seq ?_
  refine swp_dr mixed ?_
  refine DGo.chunk' tbok 2 (σ' := ⟨27, [(18, vi s3.1), (17, vl eSite aA), (0, vl eSite aA), (1, vl eSite aB), (5, vi s3.1), (14, vb (decide (s3.1 < (aA.length : Int))))], []⟩) (by kernel_rfl) ?_
  obtain ⟨x7, hx7, h⟩ := bind_some h
  refine DGo.step (x_index (L := aA) (f := eSite) (ti := ti29) (tj := ti60) (e := 60) (k := .i64) tbok rfl hx7) ?_
  refine DGo.chunk' tbok 3 (σ' := ⟨27, [(22, vi s3.1), (21, vl eSite aB), (20, .agg [vs x7.Code, vi x7.At.X, vi x7.At.Y]), (19, .ptr ((eSite x7).map .tr) 0), (18, vi s3.1), (17, vl eSite aA), (0, vl eSite aA), (1, vl eSite aB), (5, vi s3.1), (14, vb (decide (s3.1 < (aA.length : Int))))], []⟩) (by kernel_rfl) ?_
  obtain ⟨x8, hx8, h⟩ := bind_some h
  refine DGo.step (x_index (L := aB) (f := eSite) (ti := ti29) (tj := ti60) (e := 60) (k := .i64) tbok rfl hx8) ?_
  refine DGo.chunk' tbok 1 (σ' := ⟨27, [(24, .agg [vs x8.Code, vi x8.At.X, vi x8.At.Y]), (23, .ptr ((eSite x8).map .tr) 0), (22, vi s3.1), (21, vl eSite aB), (20, .agg [vs x7.Code, vi x7.At.X, vi x7.At.Y]), (19, .ptr ((eSite x7).map .tr) 0), (18, vi s3.1), (17, vl eSite aA), (0, vl eSite aA), (1, vl eSite aB), (5, vi s3.1), (14, vb (decide (s3.1 < (aA.length : Int))))], []⟩) (by kernel_rfl) ?_
  obtain ⟨x9, hx9, h⟩ := bind_some h
  refine DGo.step (x_lstep_call (f := 32) (caps := []) (xs := [.agg [vs x7.Code, vi x7.At.X, vi x7.At.Y], .agg [vs x8.Code, vi x8.At.X, vi x8.At.Y]]) (ys := [.agg [vs x7.Code, vi x7.At.X, vi x7.At.Y], .agg [vs x8.Code, vi x8.At.X, vi x8.At.Y]]) (res := ⟨[.v (vb x9)], [], false⟩) (x := vb x9) (y := none) rfl ents32 (laws_eqSite_run x7 x8 _ hx9) rfl (by intro hc; cases hc)) ?_
  refine DGo.chunk' tbok 1 (σ' := ⟨27, [(26, vb (!x9)), (25, vb x9), (24, .agg [vs x8.Code, vi x8.At.X, vi x8.At.Y]), (23, .ptr ((eSite x8).map .tr) 0), (22, vi s3.1), (21, vl eSite aB), (20, .agg [vs x7.Code, vi x7.At.X, vi x7.At.Y]), (19, .ptr ((eSite x7).map .tr) 0), (18, vi s3.1), (17, vl eSite aA), (0, vl eSite aA), (1, vl eSite aB), (5, vi s3.1), (14, vb (decide (s3.1 < (aA.length : Int))))], []⟩) (by kernel_rfl) ?_
  refine DGo.nil (by kernel_rfl) ?_
  refine nx_n ?_
  refine swp_cond (b := (!x9)) (by kernel_rfl) (fun hb => ?_) (fun hb => ?_)
  replace h := cond_t hb h
  refine swp_seq ?_
  refine swp_reg ?_
  refine SRun.ck tbok 1 ⟨27, [(4, vb false)], []⟩ ?_
  refine SRun.nil ?_
  refine nx_n ?_
  refine swp_ret ?_
  replace h := Option.some.inj h
  subst h
  exact q_br (q_rr (q_rr (q_br (q_rr (q_fr (fin1 (by kernel_rfl) (finV rfl SV.flat_of (holds_t (by kernel_rfl)))))))))
  replace h := cond_f hb h
  refine swp_skip ?_
  replace h := Option.some.inj h
  subst h
  exact q_bn (q_l (Le.sub0))
  refine swp_reg ?_
  refine SRun.ck tbok 3 ⟨27, [(0, vl eSite aA), (1, vl eSite aB), (5, vi (w64 (s3.1 + 1)))], []⟩ ?_
  refine SRun.nil ?_
  replace h := Option.some.inj h
  subst h
  exact q_l (Le.sub0)
  replace h := cond_f hb h
  refine swp_exit ?_
  replace h := Option.some.inj h
  subst h
  exact nx_e (q_re (q_bh (q_l (Le.sub0))))
  refine swp_seq ?_
  refine swp_reg ?_
  refine SRun.ck tbok 1 ⟨27, [(4, vb true)], []⟩ ?_
  refine SRun.nil ?_
  refine nx_n ?_
  refine swp_ret ?_
  replace h := Option.some.inj h
  subst h
  exact q_fr (fin1 (by kernel_rfl) (finV rfl SV.flat_of (holds_t (by kernel_rfl))))
theorem ents18 : Ents Tryd.prog 18 := ents_of Tryd.func18 (by kernel_rfl) rfl
noncomputable def laws_eqDesk (aA : Desk) (aB : Desk) : Option (Bool) :=
  ((laws_eqClaimS aA.Claims aB.Claims).bind fun x1 => (bif (!x1) then some false else ((laws_eqSiteS aA.Sites aB.Sites).bind fun x2 => (bif (!x2) then some false else some true))))
set_option maxRecDepth 100000 in
set_option maxHeartbeats 4000000 in
theorem laws_eqDesk_run (aA : Desk) (aB : Desk) (r : Bool) (h : laws_eqDesk aA aB = some r) : SCall Tryd.prog 8 [.v (.agg [vl eClaim aA.Claims, vl eSite aA.Sites]), .v (.agg [vl eClaim aB.Claims, vl eSite aB.Sites])] ⟨[.v (vb r)], [], false⟩ := by
  refine scall_in Tryd.func8 rfl [(.tmp 4)] rfl (fun r => ⟨[.v (vb r)], [], false⟩) (r := r) ?_
  unfold laws_eqDesk at h
  refine swp_seq ?_
  refine swp_reg ?_
  refine SRun.ck tbok 3 ⟨17, [(2, .ref 2 0), (3, .ref 3 0)], [(2, .box [vl eClaim aA.Claims, vl eSite aA.Sites]), (3, .box [vl eClaim aB.Claims, vl eSite aB.Sites])]⟩ ?_
  refine SRun.nil ?_
  refine nx_n ?_
  refine swp_seq ?_
  refine swp_seq ?_
  refine swp_reg ?_
  refine SRun.ck tbok 4 ⟨17, [(2, .ref 2 0), (3, .ref 3 0), (6, vl eClaim aA.Claims), (8, vl eClaim aB.Claims)], [(2, .box [vl eClaim aA.Claims, vl eSite aA.Sites]), (3, .box [vl eClaim aB.Claims, vl eSite aB.Sites])]⟩ ?_
  obtain ⟨x1, hx1, h⟩ := bind_some h
  refine SRun.ls (x_lstep_call (f := 17) (caps := []) (xs := [vl eClaim aA.Claims, vl eClaim aB.Claims]) (ys := [vl eClaim aA.Claims, vl eClaim aB.Claims]) (res := ⟨[.v (vb x1)], [], false⟩) (x := vb x1) (y := none) rfl ents17 (laws_eqClaimS_run aA.Claims aB.Claims _ hx1) rfl (by intro hc; cases hc)) ?_
  refine SRun.ck tbok 1 ⟨17, [(2, .ref 2 0), (3, .ref 3 0), (10, vb (!x1))], [(2, .box [vl eClaim aA.Claims, vl eSite aA.Sites]), (3, .box [vl eClaim aB.Claims, vl eSite aB.Sites])]⟩ ?_
  refine SRun.nil ?_
  refine nx_n ?_
  refine swp_cond (b := (!x1)) (by kernel_rfl) (fun hb => ?_) (fun hb => ?_)
  replace h := cond_t hb h
  refine swp_seq ?_
  refine swp_reg ?_
  refine SRun.ck tbok 1 ⟨17, [(4, vb false)], []⟩ ?_
  refine SRun.nil ?_
  refine nx_n ?_
  refine swp_ret ?_
  replace h := Option.some.inj h
  subst h
  exact nx_r (q_fr (fin1 (by kernel_rfl) (finV rfl SV.flat_of (holds_t (by kernel_rfl)))))
  replace h := cond_f hb h
  refine swp_skip ?_
  refine nx_n ?_
  refine swp_seq ?_
  refine swp_seq ?_
  refine swp_reg ?_
  refine SRun.ck tbok 4 ⟨17, [(12, vl eSite aA.Sites), (14, vl eSite aB.Sites)], []⟩ ?_
  obtain ⟨x2, hx2, h⟩ := bind_some h
  refine SRun.ls (x_lstep_call (f := 18) (caps := []) (xs := [vl eSite aA.Sites, vl eSite aB.Sites]) (ys := [vl eSite aA.Sites, vl eSite aB.Sites]) (res := ⟨[.v (vb x2)], [], false⟩) (x := vb x2) (y := none) rfl ents18 (laws_eqSiteS_run aA.Sites aB.Sites _ hx2) rfl (by intro hc; cases hc)) ?_
  refine SRun.ck tbok 1 ⟨17, [(16, vb (!x2))], []⟩ ?_
  refine SRun.nil ?_
  refine nx_n ?_
  refine swp_cond (b := (!x2)) (by kernel_rfl) (fun hb => ?_) (fun hb => ?_)
  replace h := cond_t hb h
  refine swp_seq ?_
  refine swp_reg ?_
  refine SRun.ck tbok 1 ⟨17, [(4, vb false)], []⟩ ?_
  refine SRun.nil ?_
  refine nx_n ?_
  refine swp_ret ?_
  replace h := Option.some.inj h
  subst h
  exact nx_r (q_fr (fin1 (by kernel_rfl) (finV rfl SV.flat_of (holds_t (by kernel_rfl)))))
  replace h := cond_f hb h
  refine swp_skip ?_
  refine nx_n ?_
  refine swp_seq ?_
  refine swp_reg ?_
  refine SRun.ck tbok 1 ⟨17, [(4, vb true)], []⟩ ?_
  refine SRun.nil ?_
  refine nx_n ?_
  refine swp_ret ?_
  replace h := Option.some.inj h
  subst h
  exact q_fr (fin1 (by kernel_rfl) (finV rfl SV.flat_of (holds_t (by kernel_rfl))))
theorem ents8 : Ents Tryd.prog 8 := ents_of Tryd.func8 (by kernel_rfl) rfl
noncomputable def laws_FnExactIsDesk (aAD : Desk) : Option (Bool) :=
  ((laws_szDesk aAD 1048576).bind fun x1 => (bif (decide (x1 < 0)) then some true else ((laws_toDesk aAD).bind fun x2 => ((spec_IsDesk x2).bind fun x3 => ((laws_toDesk aAD).bind fun x4 => ((impl_IsDesk x4).bind fun x5 => (bif (!(x5 == x3)) then some false else ((laws_toDesk aAD).bind fun x6 => ((laws_eqDesk x4 x6).bind fun x7 => (bif (!x7) then some false else some true))))))))))
set_option maxRecDepth 100000 in
set_option maxHeartbeats 4000000 in
theorem laws_FnExactIsDesk_run (aAD : Desk) (r : Bool) (h : laws_FnExactIsDesk aAD = some r) : SCall Tryd.prog 3 [.v (.agg [vl eClaim aAD.Claims, vl eSite aAD.Sites])] ⟨[.v (vb r)], [], false⟩ := by
  refine scall_in Tryd.func3 rfl [(.tmp 2)] rfl (fun r => ⟨[.v (vb r)], [], false⟩) (r := r) ?_
  unfold laws_FnExactIsDesk at h
  refine swp_seq ?_
  refine swp_reg ?_
  refine SRun.ck tbok 2 ⟨27, [(1, .ref 1 0)], [(1, .box [vl eClaim aAD.Claims, vl eSite aAD.Sites])]⟩ ?_
  refine SRun.nil ?_
  refine nx_n ?_
  refine swp_seq ?_
  refine swp_reg ?_
  refine SRun.ck tbok 1 ⟨27, [(1, .ref 1 0), (3, vi 1048576)], [(1, .box [vl eClaim aAD.Claims, vl eSite aAD.Sites])]⟩ ?_
  refine SRun.nil ?_
  refine nx_n ?_
  refine swp_seq ?_
  refine swp_reg ?_
  refine SRun.ck tbok 2 ⟨27, [(1, .ref 1 0), (7, .agg [vl eClaim aAD.Claims, vl eSite aAD.Sites]), (8, vi 1048576)], [(1, .box [vl eClaim aAD.Claims, vl eSite aAD.Sites])]⟩ ?_
  obtain ⟨x1, hx1, h⟩ := bind_some h
  refine SRun.ls (x_lstep_call (f := 4) (caps := []) (xs := [.agg [vl eClaim aAD.Claims, vl eSite aAD.Sites], vi 1048576]) (ys := [.agg [vl eClaim aAD.Claims, vl eSite aAD.Sites], vi 1048576]) (res := ⟨[.v (vi x1)], [], false⟩) (x := vi x1) (y := none) rfl ents4 (laws_szDesk_run aAD 1048576 _ hx1) rfl (by intro hc; cases hc)) ?_
  refine SRun.ck tbok 1 ⟨27, [(1, .ref 1 0), (3, vi x1)], [(1, .box [vl eClaim aAD.Claims, vl eSite aAD.Sites])]⟩ ?_
  refine SRun.nil ?_
  refine nx_n ?_
  refine swp_seq ?_
  refine swp_seq ?_
  refine swp_reg ?_
  refine SRun.ck tbok 2 ⟨27, [(1, .ref 1 0), (11, vb (decide (x1 < 0)))], [(1, .box [vl eClaim aAD.Claims, vl eSite aAD.Sites])]⟩ ?_
  refine SRun.nil ?_
  refine nx_n ?_
  refine swp_cond (b := (decide (x1 < 0))) (by kernel_rfl) (fun hb => ?_) (fun hb => ?_)
  replace h := cond_t hb h
  refine swp_seq ?_
  refine swp_reg ?_
  refine SRun.ck tbok 1 ⟨27, [(2, vb true)], []⟩ ?_
  refine SRun.nil ?_
  refine nx_n ?_
  refine swp_ret ?_
  replace h := Option.some.inj h
  subst h
  exact nx_r (q_fr (fin1 (by kernel_rfl) (finV rfl SV.flat_of (holds_t (by kernel_rfl)))))
  replace h := cond_f hb h
  refine swp_skip ?_
  refine nx_n ?_
  refine swp_seq ?_
  refine swp_reg ?_
  refine SRun.ck tbok 1 ⟨27, [(1, .ref 1 0), (12, .agg [vl eClaim aAD.Claims, vl eSite aAD.Sites])], [(1, .box [vl eClaim aAD.Claims, vl eSite aAD.Sites])]⟩ ?_
  obtain ⟨x2, hx2, h⟩ := bind_some h
  refine SRun.ls (x_lstep_call (f := 6) (caps := []) (xs := [.agg [vl eClaim aAD.Claims, vl eSite aAD.Sites]]) (ys := [.agg [vl eClaim aAD.Claims, vl eSite aAD.Sites]]) (res := ⟨[.v (.agg [vl eClaim x2.Claims, vl eSite x2.Sites])], [], true⟩) (x := .agg [vl eClaim x2.Claims, vl eSite x2.Sites]) (y := none) rfl ents6 (laws_toDesk_run aAD _ hx2) rfl (fun _ => rfl)) ?_
  obtain ⟨x3, hx3, h⟩ := bind_some h
  refine SRun.ls (x_lstep_call (f := 5) (caps := []) (xs := [.agg [vl eClaim x2.Claims, vl eSite x2.Sites]]) (ys := [.agg [vl eClaim x2.Claims, vl eSite x2.Sites]]) (res := ⟨[.v (vb x3)], [], false⟩) (x := vb x3) (y := none) rfl ents5 (spec_IsDesk_run x2 _ hx3) rfl (by intro hc; cases hc)) ?_
  refine SRun.ck tbok 1 ⟨27, [(1, .ref 1 0), (4, vb x3)], [(1, .box [vl eClaim aAD.Claims, vl eSite aAD.Sites])]⟩ ?_
  refine SRun.nil ?_
  refine nx_n ?_
  refine swp_seq ?_
  refine swp_reg ?_
  refine SRun.ck tbok 1 ⟨27, [(1, .ref 1 0), (4, vb x3), (15, .agg [vl eClaim aAD.Claims, vl eSite aAD.Sites])], [(1, .box [vl eClaim aAD.Claims, vl eSite aAD.Sites])]⟩ ?_
  obtain ⟨x4, hx4, h⟩ := bind_some h
  refine SRun.ls (x_lstep_call (f := 6) (caps := []) (xs := [.agg [vl eClaim aAD.Claims, vl eSite aAD.Sites]]) (ys := [.agg [vl eClaim aAD.Claims, vl eSite aAD.Sites]]) (res := ⟨[.v (.agg [vl eClaim x4.Claims, vl eSite x4.Sites])], [], true⟩) (x := .agg [vl eClaim x4.Claims, vl eSite x4.Sites]) (y := none) rfl ents6 (laws_toDesk_run aAD _ hx4) rfl (fun _ => rfl)) ?_
  refine SRun.ck tbok 1 ⟨27, [(1, .ref 1 0), (4, vb x3), (5, .ref 5 0), (16, .agg [vl eClaim x4.Claims, vl eSite x4.Sites])], [(1, .box [vl eClaim aAD.Claims, vl eSite aAD.Sites]), (5, .box [vl eClaim ([] : List Claim), vl eSite ([] : List Site)])]⟩ ?_
  refine SRun.estep (x_estep_store (d := 5) (k := 0) (ti := ti31) (cs := [vl eClaim ([] : List Claim), vl eSite ([] : List Site)]) (vs := [vl eClaim x4.Claims, vl eSite x4.Sites]) (v := .agg [vl eClaim x4.Claims, vl eSite x4.Sites]) tbok rfl rfl) ?_
  refine SRun.nil ?_
  refine nx_n ?_
  refine swp_seq ?_
  refine swp_reg ?_
  refine SRun.ck tbok 1 ⟨27, [(1, .ref 1 0), (4, vb x3), (5, .ref 5 0), (17, .agg [vl eClaim x4.Claims, vl eSite x4.Sites])], [(1, .box [vl eClaim aAD.Claims, vl eSite aAD.Sites]), (5, .box [vl eClaim x4.Claims, vl eSite x4.Sites])]⟩ ?_
  obtain ⟨x5, hx5, h⟩ := bind_some h
  refine SRun.ls (x_lstep_call (f := 7) (caps := []) (xs := [.agg [vl eClaim x4.Claims, vl eSite x4.Sites]]) (ys := [.agg [vl eClaim x4.Claims, vl eSite x4.Sites]]) (res := ⟨[.v (vb x5)], [], false⟩) (x := vb x5) (y := none) rfl ents7 (impl_IsDesk_run x4 _ hx5) rfl (by intro hc; cases hc)) ?_
  refine SRun.ck tbok 1 ⟨27, [(1, .ref 1 0), (4, vb x3), (5, .ref 5 0), (6, vb x5)], [(1, .box [vl eClaim aAD.Claims, vl eSite aAD.Sites]), (5, .box [vl eClaim x4.Claims, vl eSite x4.Sites])]⟩ ?_
  refine SRun.nil ?_
  refine nx_n ?_
  refine swp_seq ?_
  refine swp_seq ?_
  refine swp_reg ?_
  refine SRun.ck tbok 2 ⟨27, [(1, .ref 1 0), (5, .ref 5 0), (19, vb x5), (20, vb x3)], [(1, .box [vl eClaim aAD.Claims, vl eSite aAD.Sites]), (5, .box [vl eClaim x4.Claims, vl eSite x4.Sites])]⟩ ?_
  refine SRun.ls (x_lstep_eqb tbok (ti := ti4) (i := x5) (j := x3) true rfl) ?_
  refine SRun.nil ?_
  refine nx_n ?_
  refine swp_cond (b := (!(x5 == x3))) (by kernel_rfl) (fun hb => ?_) (fun hb => ?_)
  replace h := cond_t hb h
  refine swp_seq ?_
  refine swp_reg ?_
  refine SRun.ck tbok 1 ⟨27, [(2, vb false)], []⟩ ?_
  refine SRun.nil ?_
  refine nx_n ?_
  refine swp_ret ?_
  replace h := Option.some.inj h
  subst h
  exact nx_r (q_fr (fin1 (by kernel_rfl) (finV rfl SV.flat_of (holds_t (by kernel_rfl)))))
  replace h := cond_f hb h
  refine swp_skip ?_
  refine nx_n ?_
  refine swp_seq ?_
  refine swp_seq ?_
  refine swp_dr mixed ?_
  refine DGo.chunk' tbok 2 (σ' := ⟨27, [(23, .agg [vl eClaim aAD.Claims, vl eSite aAD.Sites]), (22, .agg [vl eClaim x4.Claims, vl eSite x4.Sites]), (21, vb (!(x5 == x3))), (1, .ref 1 0), (5, .ref 5 0), (19, vb x5), (20, vb x3)], [(1, .box [vl eClaim aAD.Claims, vl eSite aAD.Sites]), (5, .box [vl eClaim x4.Claims, vl eSite x4.Sites])]⟩) (by kernel_rfl) ?_
  obtain ⟨x6, hx6, h⟩ := bind_some h
  refine DGo.step (x_lstep_call (f := 6) (caps := []) (xs := [.agg [vl eClaim aAD.Claims, vl eSite aAD.Sites]]) (ys := [.agg [vl eClaim aAD.Claims, vl eSite aAD.Sites]]) (res := ⟨[.v (.agg [vl eClaim x6.Claims, vl eSite x6.Sites])], [], true⟩) (x := .agg [vl eClaim x6.Claims, vl eSite x6.Sites]) (y := none) rfl ents6 (laws_toDesk_run aAD _ hx6) rfl (fun _ => rfl)) ?_
  obtain ⟨x7, hx7, h⟩ := bind_some h
  refine DGo.step (x_lstep_call (f := 8) (caps := []) (xs := [.agg [vl eClaim x4.Claims, vl eSite x4.Sites], .agg [vl eClaim x6.Claims, vl eSite x6.Sites]]) (ys := [.agg [vl eClaim x4.Claims, vl eSite x4.Sites], .agg [vl eClaim x6.Claims, vl eSite x6.Sites]]) (res := ⟨[.v (vb x7)], [], false⟩) (x := vb x7) (y := none) rfl ents8 (laws_eqDesk_run x4 x6 _ hx7) rfl (by intro hc; cases hc)) ?_
  refine DGo.chunk' tbok 1 (σ' := ⟨27, [(26, vb (!x7)), (25, vb x7), (24, .agg [vl eClaim x6.Claims, vl eSite x6.Sites]), (23, .agg [vl eClaim aAD.Claims, vl eSite aAD.Sites]), (22, .agg [vl eClaim x4.Claims, vl eSite x4.Sites]), (21, vb (!(x5 == x3))), (1, .ref 1 0), (5, .ref 5 0), (19, vb x5), (20, vb x3)], [(1, .box [vl eClaim aAD.Claims, vl eSite aAD.Sites]), (5, .box [vl eClaim x4.Claims, vl eSite x4.Sites])]⟩) (by kernel_rfl) ?_
  refine DGo.nil (by kernel_rfl) ?_
  refine nx_n ?_
  refine swp_cond (b := (!x7)) (by kernel_rfl) (fun hb => ?_) (fun hb => ?_)
  replace h := cond_t hb h
  refine swp_seq ?_
  refine swp_reg ?_
  refine SRun.ck tbok 1 ⟨27, [(2, vb false)], []⟩ ?_
  refine SRun.nil ?_
  refine nx_n ?_
  refine swp_ret ?_
  replace h := Option.some.inj h
  subst h
  exact nx_r (q_fr (fin1 (by kernel_rfl) (finV rfl SV.flat_of (holds_t (by kernel_rfl)))))
  replace h := cond_f hb h
  refine swp_skip ?_
  refine nx_n ?_
  refine swp_seq ?_
  refine swp_reg ?_
  refine SRun.ck tbok 1 ⟨27, [(2, vb true)], []⟩ ?_
  refine SRun.nil ?_
  refine nx_n ?_
  refine swp_ret ?_
  replace h := Option.some.inj h
  subst h
  exact q_fr (fin1 (by kernel_rfl) (finV rfl SV.flat_of (holds_t (by kernel_rfl))))
theorem ents3 : Ents Tryd.prog 3 := ents_of Tryd.func3 (by kernel_rfl) rfl
end Go.Proofs.YtdfkbjnbllmllaaDoor.Sh
