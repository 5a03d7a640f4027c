/- Typed functions and the calls that do what they say. -/
import Derived.Test.YtojhgfkohbfhhaaDoorSE
import Derived.Test.YtojhgfkohbfhhaaDoorKA
import Derived.Test.YtojhgfkohbfhhaaDoorKR
import Derived.Test.YtojhgfkohbfhhaaDoorKS
import Derived.Test.YtojhgfkohbfhhaaDoorH1
namespace Go.Proofs.YtojhgfkohbfhhaaDoor.Sh
open Go.RowKit
structure Tie where
  A : Int
  B : Int
  Same : Bool
  Reason : ByteArray
def eTie (x : Tie) : List Tr := [.int .i64 x.A, .int .i64 x.B, .bool x.Same, .str x.Reason]
theorem eTie_flat (x : Tie) : ∀ t ∈ eTie x, t.flat = true := by simp [eTie, Tr.flat]
structure Point where
  X : Int
  Y : Int
def ePoint (x : Point) : List Tr := [.int .i64 x.X, .int .i64 x.Y]
theorem ePoint_flat (x : Point) : ∀ t ∈ ePoint x, t.flat = true := by simp [ePoint, Tr.flat]
structure Candidate where
  Code : ByteArray
  Text : ByteArray
  At : Point
def eCandidate (x : Candidate) : List Tr := [.str x.Code, .str x.Text, .int .i64 x.At.X, .int .i64 x.At.Y]
theorem eCandidate_flat (x : Candidate) : ∀ t ∈ eCandidate x, t.flat = true := by simp [eCandidate, Tr.flat]
def ti2 : TI := ⟨1, 8, .int .i64, [.int .i64 0]⟩
def ti3 : TI := ⟨1, 8, .int .i64, [.int .i64 0]⟩
def ti4 : TI := ⟨1, 1, .bool, [.bool false]⟩
def ti5 : TI := ⟨1, 1, .int .u8, [.int .u8 0]⟩
def ti9 : TI := ⟨1, 16, .str, [.str (ByteArray.mk #[])]⟩
def ti22 : TI := ⟨1, 24, .slice 44, [.sl ([] : List Tie).length (([] : List Tie).map eTie)]⟩
def ti24 : TI := ⟨1, 24, .slice 50, [.sl ([] : List (List Int)).length (([] : List (List Int)).map (eL (eI .i64)))]⟩
def ti27 : TI := ⟨1, 24, .slice 47, [.sl ([] : List Tie).length (([] : List Tie).map eTie)]⟩
def ti34 : TI := ⟨1, 24, .slice 58, [.sl ([] : List Candidate).length (([] : List Candidate).map eCandidate)]⟩
def ti37 : TI := ⟨1, 24, .slice 61, [.sl ([] : List Candidate).length (([] : List Candidate).map eCandidate)]⟩
def ti44 : TI := ⟨4, 40, .struct [(0, 2), (1, 2), (2, 4), (3, 9)], [.int .i64 0, .int .i64 0, .bool false, .str (ByteArray.mk #[])]⟩
def ti47 : TI := ⟨4, 40, .struct [(0, 2), (1, 2), (2, 4), (3, 9)], [.int .i64 0, .int .i64 0, .bool false, .str (ByteArray.mk #[])]⟩
def ti50 : TI := ⟨1, 24, .slice 2, [.sl ([] : List Int).length (([] : List Int).map (eI .i64))]⟩
def ti56 : TI := ⟨2, 16, .struct [(0, 2), (1, 2)], [.int .i64 0, .int .i64 0]⟩
def ti58 : TI := ⟨4, 48, .struct [(0, 9), (1, 9), (2, 56)], [.str (ByteArray.mk #[]), .str (ByteArray.mk #[]), .int .i64 0, .int .i64 0]⟩
def ti59 : TI := ⟨2, 16, .struct [(0, 2), (1, 2)], [.int .i64 0, .int .i64 0]⟩
def ti61 : TI := ⟨4, 48, .struct [(0, 9), (1, 9), (2, 59)], [.str (ByteArray.mk #[]), .str (ByteArray.mk #[]), .int .i64 0, .int .i64 0]⟩
def ti66 : TI := ⟨1, 24, .slice 9, [.sl ([] : List ByteArray).length (([] : List ByteArray).map eS)]⟩
def ti79 : TI := ⟨1, 24, .slice 5, [.sl ([] : List Int).length (([] : List Int).map (eI .u8))]⟩
def ti94 : TI := ⟨1, 24, .slice 4, [.sl ([] : List Bool).length (([] : List Bool).map eB)]⟩
def ti99 : TI := ⟨2, 16, .array 2 2, [.int .i64 0, .int .i64 0]⟩
def ti100 : TI := ⟨4, 32, .array 2 99, [.int .i64 0, .int .i64 0, .int .i64 0, .int .i64 0]⟩
def tbl : Tb := [(2, ti2), (3, ti3), (4, ti4), (5, ti5), (9, ti9), (22, ti22), (24, ti24), (27, ti27), (34, ti34), (37, ti37), (44, ti44), (47, ti47), (50, ti50), (56, ti56), (58, ti58), (59, ti59), (61, ti61), (66, ti66), (79, ti79), (94, ti94), (99, ti99), (100, ti100)]
theorem tbok : TbOk Tryd.prog tbl := TbOk.cons ⟨by kernel_rfl, show Tryd.prog.underlying 2 = some (.int .i64) from by kernel_rfl⟩ (TbOk.cons ⟨by kernel_rfl, show Tryd.prog.underlying 3 = some (.int .i64) from by kernel_rfl⟩ (TbOk.cons ⟨by kernel_rfl, show Tryd.prog.underlying 4 = some (.bool) from by kernel_rfl⟩ (TbOk.cons ⟨by kernel_rfl, show Tryd.prog.underlying 5 = some (.int .u8) from by kernel_rfl⟩ (TbOk.cons ⟨by kernel_rfl, show Tryd.prog.underlying 9 = some (.string) from by kernel_rfl⟩ (TbOk.cons ⟨by kernel_rfl, show Tryd.prog.underlying 22 = some (.slice 44) from by kernel_rfl⟩ (TbOk.cons ⟨by kernel_rfl, show Tryd.prog.underlying 24 = some (.slice 50) from by kernel_rfl⟩ (TbOk.cons ⟨by kernel_rfl, show Tryd.prog.underlying 27 = some (.slice 47) from by kernel_rfl⟩ (TbOk.cons ⟨by kernel_rfl, show Tryd.prog.underlying 34 = some (.slice 58) from by kernel_rfl⟩ (TbOk.cons ⟨by kernel_rfl, show Tryd.prog.underlying 37 = some (.slice 61) from by kernel_rfl⟩ (TbOk.cons ⟨by kernel_rfl, show structOf Tryd.prog 44 = some [(0, 2), (1, 2), (2, 4), (3, 9)] from by kernel_rfl⟩ (TbOk.cons ⟨by kernel_rfl, show structOf Tryd.prog 47 = some [(0, 2), (1, 2), (2, 4), (3, 9)] from by kernel_rfl⟩ (TbOk.cons ⟨by kernel_rfl, show Tryd.prog.underlying 50 = some (.slice 2) from by kernel_rfl⟩ (TbOk.cons ⟨by kernel_rfl, show structOf Tryd.prog 56 = some [(0, 2), (1, 2)] from by kernel_rfl⟩ (TbOk.cons ⟨by kernel_rfl, show structOf Tryd.prog 58 = some [(0, 9), (1, 9), (2, 56)] from by kernel_rfl⟩ (TbOk.cons ⟨by kernel_rfl, show structOf Tryd.prog 59 = some [(0, 2), (1, 2)] from by kernel_rfl⟩ (TbOk.cons ⟨by kernel_rfl, show structOf Tryd.prog 61 = some [(0, 9), (1, 9), (2, 59)] from by kernel_rfl⟩ (TbOk.cons ⟨by kernel_rfl, show Tryd.prog.underlying 66 = some (.slice 9) from by kernel_rfl⟩ (TbOk.cons ⟨by kernel_rfl, show Tryd.prog.underlying 79 = some (.slice 5) from by kernel_rfl⟩ (TbOk.cons ⟨by kernel_rfl, show Tryd.prog.underlying 94 = some (.slice 4) from by kernel_rfl⟩ (TbOk.cons ⟨by kernel_rfl, show Tryd.prog.underlying 99 = some (.array 2 2) from by kernel_rfl⟩ (TbOk.cons ⟨by kernel_rfl, show Tryd.prog.underlying 100 = some (.array 2 99) from by kernel_rfl⟩ (TbOk.nil _))))))))))))))))))))))
theorem mixed : Tryd.prog.follows .mixedOrders = true := by kernel_rfl
noncomputable def laws_szTie (aA : Tie) (aLeft : Int) : Option (Int) :=
  (bif (decide ((w64 (aLeft - (aA.Reason.size : Int))) < 0)) then some (-1) else some (w64 (aLeft - (aA.Reason.size : Int))))
set_option maxRecDepth 100000 in
set_option maxHeartbeats 4000000 in
theorem laws_szTie_run (aA : Tie) (aLeft : Int) (r : Int) (h : laws_szTie aA aLeft = some r) : SCall Tryd.prog 22 [.v (.agg [vi aA.A, vi aA.B, vb aA.Same, vs aA.Reason]), .v (vi aLeft)] ⟨[.v (vi r)], [], false⟩ := by
  refine scall_in Tryd.func22 rfl [(.tmp 4)] rfl (fun r => ⟨[.v (vi r)], [], false⟩) (r := r) ?_
  unfold laws_szTie at h
  refine swp_seq ?_
  refine swp_reg ?_
  refine SRun.ck tbok 2 ⟨13, [(1, vi aLeft), (2, .ref 2 0)], [(2, .box [vi aA.A, vi aA.B, vb aA.Same, vs aA.Reason])]⟩ ?_
  refine SRun.nil ?_
  refine nx_n ?_
  refine swp_seq ?_
  refine swp_reg ?_
  refine SRun.ck tbok 6 ⟨13, [(1, vi (w64 (aLeft - (aA.Reason.size : Int))))], []⟩ ?_
  refine SRun.nil ?_
  refine nx_n ?_
  refine swp_seq ?_
  refine swp_seq ?_
  refine swp_reg ?_
  refine SRun.ck tbok 2 ⟨13, [(1, vi (w64 (aLeft - (aA.Reason.size : Int)))), (11, vb (decide ((w64 (aLeft - (aA.Reason.size : Int))) < 0)))], []⟩ ?_
  refine SRun.nil ?_
  refine nx_n ?_
  refine swp_cond (b := (decide ((w64 (aLeft - (aA.Reason.size : Int))) < 0))) (by kernel_rfl) (fun hb => ?_) (fun hb => ?_)
  replace h := cond_t hb h
  refine swp_seq ?_
  refine swp_reg ?_
  refine SRun.ck tbok 1 ⟨13, [(4, vi (-1))], []⟩ ?_
  refine SRun.nil ?_
  refine nx_n ?_
  refine swp_ret ?_
  replace h := Option.some.inj h
  subst h
  exact nx_r (q_fr (fin1 (by kernel_rfl) (finV rfl SV.flat_of (holds_t (by kernel_rfl)))))
  replace h := cond_f hb h
  refine swp_skip ?_
  refine nx_n ?_
  refine swp_seq ?_
  refine swp_reg ?_
  refine SRun.ck tbok 2 ⟨13, [(4, vi (w64 (aLeft - (aA.Reason.size : Int))))], []⟩ ?_
  refine SRun.nil ?_
  refine nx_n ?_
  refine swp_ret ?_
  replace h := Option.some.inj h
  subst h
  exact q_fr (fin1 (by kernel_rfl) (finV rfl SV.flat_of (holds_t (by kernel_rfl))))
theorem ents22 : Ents Tryd.prog 22 := ents_of Tryd.func22 (by kernel_rfl) rfl
noncomputable def laws_szTieS (aA : (List Tie)) (aLeft : Int) : Option (Int) :=
  (bif (decide ((w64 (aLeft - (aA.length : Int))) < 0)) then some (-1) else (((forN (aA.length : Int) (fun (i3 : Int) (s3 : Int) => ((at' aA i3).bind fun x7 => ((laws_szTie x7 s3).bind fun x8 => (bif (decide (x8 < 0)) then some (.inr (.inr (-1))) else some (.inl x8))))) (fun (s3 : Int) => .inl s3) 0 (w64 (aLeft - (aA.length : Int))))).bind (Sum.elim (fun (j1 : Int) => some j1) some)))
set_option maxRecDepth 100000 in
set_option maxHeartbeats 4000000 in
theorem laws_szTieS_run (aA : (List Tie)) (aLeft : Int) (r : Int) (h : laws_szTieS aA aLeft = some r) : SCall Tryd.prog 6 [.v (vl eTie aA), .v (vi aLeft)] ⟨[.v (vi r)], [], false⟩ := by
  refine scall_in Tryd.func6 rfl [(.tmp 4)] rfl (fun r => ⟨[.v (vi r)], [], false⟩) (r := r) ?_
  unfold laws_szTieS at h
  refine swp_seq ?_
  refine swp_reg ?_
  refine SRun.ck tbok 1 ⟨27, [(0, vl eTie aA), (1, vi aLeft)], []⟩ ?_
  refine SRun.nil ?_
  refine nx_n ?_
  refine swp_seq ?_
  refine swp_reg ?_
  refine SRun.ck tbok 5 ⟨27, [(0, vl eTie aA), (1, vi (w64 (aLeft - (aA.length : Int))))], []⟩ ?_
  refine SRun.nil ?_
  refine nx_n ?_
  refine swp_seq ?_
  refine swp_seq ?_
  refine swp_reg ?_
  refine SRun.ck tbok 2 ⟨27, [(0, vl eTie aA), (1, vi (w64 (aLeft - (aA.length : Int)))), (11, vb (decide ((w64 (aLeft - (aA.length : Int))) < 0)))], []⟩ ?_
  refine SRun.nil ?_
  refine nx_n ?_
  refine swp_cond (b := (decide ((w64 (aLeft - (aA.length : Int))) < 0))) (by kernel_rfl) (fun hb => ?_) (fun hb => ?_)
  replace h := cond_t hb h
  refine swp_seq ?_
  refine swp_reg ?_
  refine SRun.ck tbok 1 ⟨27, [(4, vi (-1))], []⟩ ?_
  refine SRun.nil ?_
  refine nx_n ?_
  refine swp_ret ?_
  replace h := Option.some.inj h
  subst h
  exact nx_r (q_fr (fin1 (by kernel_rfl) (finV rfl SV.flat_of (holds_t (by kernel_rfl)))))
  replace h := cond_f hb h
  refine swp_skip ?_
  refine nx_n ?_
  refine swp_seq ?_
  refine swp_seq ?_
  refine swp_reg ?_
  refine SRun.ck tbok 1 ⟨27, [(0, vl eTie aA), (1, vi (w64 (aLeft - (aA.length : Int)))), (5, vi 0)], []⟩ ?_
  refine SRun.nil ?_
  refine nx_n ?_
  refine swp_seqE (r := r) h (fun j1 => ⟨27, [(1, vi j1)], []⟩) (fun v2 h => ?_) (fun j1 h => ?_)
  refine swp_blk (a := v2) ?_
  refine swp_lpL (r := v2) (s := (0, (w64 (aLeft - (aA.length : Int))))) _ (fun s3 => ⟨27, [(0, vl eTie aA), (1, vi s3.2), (5, vi s3.1)], []⟩) _ (Le.sub0) h (fun s3 v4 h => ?_)
  refine swp_seq ?_
  refine swp_seq ?_
  refine swp_reg ?_
  refine SRun.ck tbok 4 ⟨27, [(0, vl eTie aA), (1, vi s3.2), (5, vi s3.1), (15, vb (decide (s3.1 < (aA.length : Int))))], []⟩ ?_
  refine SRun.nil ?_
  refine nx_n ?_
  refine swp_cond (b := (decide (s3.1 < (aA.length : Int)))) (by kernel_rfl) (fun hb => ?_) (fun hb => ?_)
  replace h := cond_t hb h
  refine swp_skip ?_
  refine nx_n ?_
  refine swp_seq ?_
  refine swp_seqL (r := v4) h (fun j5 => ⟨27, [(0, vl eTie aA), (1, vi j5), (5, vi s3.1)], []⟩) (fun v6 h => ?_) (fun j5 h => ?_)
  refine swp_blk (a := v6) ?_
  refine swp_seq ?_
  refine swp_reg ?_
  refine SRun.ck tbok 2 ⟨27, [(0, vl eTie aA), (1, vi s3.2), (5, vi s3.1), (18, vl eTie aA), (19, vi s3.1)], []⟩ ?_
  obtain ⟨x7, hx7, h⟩ := bind_some h
  refine SRun.ls (x_index (L := aA) (f := eTie) (ti := ti22) (tj := ti44) (e := 44) (k := .i64) tbok rfl hx7) ?_
  refine SRun.ck tbok 2 ⟨27, [(0, vl eTie aA), (5, vi s3.1), (21, .agg [vi x7.A, vi x7.B, vb x7.Same, vs x7.Reason]), (22, vi s3.2)], []⟩ ?_
  obtain ⟨x8, hx8, h⟩ := bind_some h
  refine SRun.ls (x_lstep_call (f := 22) (caps := []) (xs := [.agg [vi x7.A, vi x7.B, vb x7.Same, vs x7.Reason], vi s3.2]) (ys := [.agg [vi x7.A, vi x7.B, vb x7.Same, vs x7.Reason], vi s3.2]) (res := ⟨[.v (vi x8)], [], false⟩) (x := vi x8) (y := none) rfl ents22 (laws_szTie_run x7 s3.2 _ hx8) rfl (by intro hc; cases hc)) ?_
  refine SRun.ck tbok 1 ⟨27, [(0, vl eTie aA), (1, vi x8), (5, vi s3.1)], []⟩ ?_
  refine SRun.nil ?_
  refine nx_n ?_
  refine swp_seq ?_
  refine swp_reg ?_
  refine SRun.ck tbok 2 ⟨27, [(0, vl eTie aA), (1, vi x8), (5, vi s3.1), (25, vb (decide (x8 < 0)))], []⟩ ?_
  refine SRun.nil ?_
  refine nx_n ?_
  refine swp_cond (b := (decide (x8 < 0))) (by kernel_rfl) (fun hb => ?_) (fun hb => ?_)
  replace h := cond_t hb h
  refine swp_seq ?_
  refine swp_reg ?_
  refine SRun.ck tbok 1 ⟨27, [(4, vi (-1))], []⟩ ?_
  refine SRun.nil ?_
  refine nx_n ?_
  refine swp_ret ?_
  replace h := Option.some.inj h
  subst h
  exact q_br (q_rr (q_rr (q_br (q_rr (q_fr (fin1 (by kernel_rfl) (finV rfl SV.flat_of (holds_t (by kernel_rfl)))))))))
  replace h := cond_f hb h
  refine swp_skip ?_
  replace h := Option.some.inj h
  subst h
  exact q_bn (q_l (Le.sub0))
  refine swp_reg ?_
  refine SRun.ck tbok 3 ⟨27, [(0, vl eTie aA), (1, vi j5), (5, vi (w64 (s3.1 + 1)))], []⟩ ?_
  refine SRun.nil ?_
  replace h := Option.some.inj h
  subst h
  exact q_l (Le.sub0)
  replace h := cond_f hb h
  refine swp_exit ?_
  replace h := Option.some.inj h
  subst h
  exact nx_e (q_re (q_bh (q_l (Le.sub0))))
  refine swp_seq ?_
  refine swp_reg ?_
  refine SRun.ck tbok 2 ⟨27, [(4, vi j1)], []⟩ ?_
  refine SRun.nil ?_
  refine nx_n ?_
  refine swp_ret ?_
  replace h := Option.some.inj h
  subst h
  exact q_fr (fin1 (by kernel_rfl) (finV rfl SV.flat_of (holds_t (by kernel_rfl))))
theorem ents6 : Ents Tryd.prog 6 := ents_of Tryd.func6 (by kernel_rfl) rfl
noncomputable def laws_toTie (aA : Tie) : Option (Tie) :=
  some aA
set_option maxRecDepth 100000 in
set_option maxHeartbeats 4000000 in
theorem laws_toTie_run (aA : Tie) (r : Tie) (h : laws_toTie aA = some r) : SCall Tryd.prog 25 [.v (.agg [vi aA.A, vi aA.B, vb aA.Same, vs aA.Reason])] ⟨[.v (.agg [vi r.A, vi r.B, vb r.Same, vs r.Reason])], [], false⟩ := by
  refine scall_in Tryd.func25 rfl [(.cell 2 47)] rfl (fun r => ⟨[.v (.agg [vi r.A, vi r.B, vb r.Same, vs r.Reason])], [], false⟩) (r := r) ?_
  unfold laws_toTie at h
  refine swp_seq ?_
  refine swp_reg ?_
  refine SRun.ck tbok 2 ⟨17, [(1, .ref 1 0), (2, .ref 2 0)], [(1, .box [vi aA.A, vi aA.B, vb aA.Same, vs aA.Reason]), (2, .box [vi 0, vi 0, vb false, vs (ByteArray.mk #[])])]⟩ ?_
  refine SRun.nil ?_
  refine nx_n ?_
  refine swp_seq ?_
  refine swp_reg ?_
  refine SRun.ck tbok 1 ⟨17, [(1, .ref 1 0), (2, .ref 2 0), (3, .ref 3 0)], [(1, .box [vi aA.A, vi aA.B, vb aA.Same, vs aA.Reason]), (2, .box [vi 0, vi 0, vb false, vs (ByteArray.mk #[])]), (3, .box [vi 0, vi 0, vb false, vs (ByteArray.mk #[])])]⟩ ?_
  refine SRun.nil ?_
  refine nx_n ?_
  refine swp_seq ?_
  refine swp_reg ?_
  refine SRun.ck tbok 3 ⟨17, [(1, .ref 1 0), (2, .ref 2 0), (3, .ref 3 0), (5, vi aA.A), (6, .ref 3 0)], [(1, .box [vi aA.A, vi aA.B, vb aA.Same, vs aA.Reason]), (2, .box [vi 0, vi 0, vb false, vs (ByteArray.mk #[])]), (3, .box [vi 0, vi 0, vb false, vs (ByteArray.mk #[])])]⟩ ?_
  refine SRun.estep (x_estep_store (d := 3) (k := 0) (ti := ti2) (cs := [vi 0, vi 0, vb false, vs (ByteArray.mk #[])]) (vs := [vi aA.A]) (v := vi aA.A) tbok rfl rfl) ?_
  refine SRun.nil ?_
  refine nx_n ?_
  refine swp_seq ?_
  refine swp_reg ?_
  refine SRun.ck tbok 3 ⟨17, [(1, .ref 1 0), (2, .ref 2 0), (3, .ref 3 0), (8, vi aA.B), (9, .ref 3 1)], [(1, .box [vi aA.A, vi aA.B, vb aA.Same, vs aA.Reason]), (2, .box [vi 0, vi 0, vb false, vs (ByteArray.mk #[])]), (3, .box [vi aA.A, vi 0, vb false, vs (ByteArray.mk #[])])]⟩ ?_
  refine SRun.estep (x_estep_store (d := 3) (k := 1) (ti := ti2) (cs := [vi aA.A, vi 0, vb false, vs (ByteArray.mk #[])]) (vs := [vi aA.B]) (v := vi aA.B) tbok rfl rfl) ?_
  refine SRun.nil ?_
  refine nx_n ?_
  refine swp_seq ?_
  refine swp_reg ?_
  refine SRun.ck tbok 3 ⟨17, [(1, .ref 1 0), (2, .ref 2 0), (3, .ref 3 0), (11, vb aA.Same), (12, .ref 3 2)], [(1, .box [vi aA.A, vi aA.B, vb aA.Same, vs aA.Reason]), (2, .box [vi 0, vi 0, vb false, vs (ByteArray.mk #[])]), (3, .box [vi aA.A, vi aA.B, vb false, vs (ByteArray.mk #[])])]⟩ ?_
  refine SRun.estep (x_estep_store (d := 3) (k := 2) (ti := ti4) (cs := [vi aA.A, vi aA.B, vb false, vs (ByteArray.mk #[])]) (vs := [vb aA.Same]) (v := vb aA.Same) tbok rfl rfl) ?_
  refine SRun.nil ?_
  refine nx_n ?_
  refine swp_seq ?_
  refine swp_reg ?_
  refine SRun.ck tbok 3 ⟨17, [(2, .ref 2 0), (3, .ref 3 0), (14, vs aA.Reason), (15, .ref 3 3)], [(2, .box [vi 0, vi 0, vb false, vs (ByteArray.mk #[])]), (3, .box [vi aA.A, vi aA.B, vb aA.Same, vs (ByteArray.mk #[])])]⟩ ?_
  refine SRun.estep (x_estep_store (d := 3) (k := 3) (ti := ti9) (cs := [vi aA.A, vi aA.B, vb aA.Same, vs (ByteArray.mk #[])]) (vs := [vs aA.Reason]) (v := vs aA.Reason) tbok rfl rfl) ?_
  refine SRun.nil ?_
  refine nx_n ?_
  refine swp_seq ?_
  refine swp_reg ?_
  refine SRun.ck tbok 1 ⟨17, [(2, .ref 2 0), (16, .agg [vi aA.A, vi aA.B, vb aA.Same, vs aA.Reason])], [(2, .box [vi 0, vi 0, vb false, vs (ByteArray.mk #[])])]⟩ ?_
  refine SRun.estep (x_estep_store (d := 2) (k := 0) (ti := ti47) (cs := [vi 0, vi 0, vb false, vs (ByteArray.mk #[])]) (vs := [vi aA.A, vi aA.B, vb aA.Same, vs aA.Reason]) (v := .agg [vi aA.A, vi aA.B, vb aA.Same, vs aA.Reason]) tbok rfl rfl) ?_
  refine SRun.nil ?_
  refine nx_n ?_
  refine swp_ret ?_
  replace h := Option.some.inj h
  subst h
  exact q_fr (fin1 (by kernel_rfl) (finV rfl SV.flat_of (holds_c tbok (d := 2) (cs := [vi aA.A, vi aA.B, vb aA.Same, vs aA.Reason]) (ti := ti47) (by kernel_rfl) (by kernel_rfl) (by kernel_rfl) (by kernel_rfl))))
theorem ents25 : Ents Tryd.prog 25 := ents_of Tryd.func25 (by kernel_rfl) rfl
noncomputable def laws_toTieS (aA : (List Tie)) : Option ((List Tie)) :=
  ((make' (Tie.mk 0 0 false (ByteArray.mk #[])) (aA.length : Int)).bind fun x1 => (((forS (aA.length : Int) (fun (i4 : Int) (s4 : (List Tie)) => ((at' aA i4).bind fun x8 => ((laws_toTie x8).bind fun x9 => ((at' s4 i4).bind fun _ => some (List.set s4 (Int.toNat i4) x9))))) (fun (s4 : (List Tie)) => s4) 0 x1)).bind fun (j2 : (List Tie)) => some j2))
set_option maxRecDepth 100000 in
set_option maxHeartbeats 4000000 in
theorem laws_toTieS_run (aA : (List Tie)) (r : (List Tie)) (h : laws_toTieS aA = some r) : SCall Tryd.prog 8 [.v (vl eTie aA)] ⟨[.own 47 4 r.length (r.map eTie)], [], false⟩ := by
  refine scall_in Tryd.func8 rfl [(.tmp 2)] rfl (fun r => ⟨[.own 47 4 r.length (r.map eTie)], [], false⟩) (r := r) ?_
  unfold laws_toTieS at h
  refine swp_seq ?_
  refine swp_reg ?_
  refine SRun.ck tbok 1 ⟨23, [(0, vl eTie aA)], []⟩ ?_
  refine SRun.nil ?_
  refine nx_n ?_
  refine swp_seq ?_
  refine swp_reg ?_
  refine SRun.ck tbok 2 ⟨23, [(0, vl eTie aA), (6, vi (aA.length : Int))], []⟩ ?_
  obtain ⟨x1, hx1, h⟩ := bind_some h
  refine SRun.ls (x_make (z := (Tie.mk 0 0 false (ByteArray.mk #[]))) (f := eTie) (ti := ti27) (tj := ti47) (e := 47) (m := 4) (k := .i64) (k' := .i64) hx1 tbok rfl rfl (zs := [.int .i64 0, .int .i64 0, .bool false, .string (ByteArray.mk #[])])) ?_
  refine SRun.ck tbok 1 ⟨23, [(0, vl eTie aA), (3, .own 7)], [(7, .arr 47 4 x1.length (x1.map eTie))]⟩ ?_
  refine SRun.nil ?_
  refine nx_n ?_
  refine swp_seq ?_
  refine swp_seq ?_
  refine swp_reg ?_
  refine SRun.ck tbok 1 ⟨23, [(0, vl eTie aA), (3, .own 7), (4, vi 0)], [(7, .arr 47 4 x1.length (x1.map eTie))]⟩ ?_
  refine SRun.nil ?_
  refine nx_n ?_
  refine swp_seqJ h (fun j2 => ⟨23, [(3, .own 3)], [(3, .arr 47 4 j2.length (j2.map eTie))]⟩) (fun v3 h => ?_) (fun j2 h => ?_)
  refine swp_blk (a := v3) ?_
  refine swp_lpL (r := v3) (s := (0, x1)) _ (fun s4 => ⟨23, [(0, vl eTie aA), (3, .own 3), (4, vi s4.1)], [(3, .arr 47 4 s4.2.length (s4.2.map eTie))]⟩) _ ((Le.sub' ([(0, vl eTie aA), (3, .own 7), (4, vi 0)] : List (Nat × SV)) ([(7, .arr 47 4 x1.length (x1.map eTie))] : List (Nat × SO)) (by kernel_rfl) (by kernel_rfl)).trans ((Le.ren' (d := 7) (e := 3) (by kernel_rfl) (by kernel_rfl) (by kernel_rfl)).trans (Le.sub0))) h (fun s4 v5 h => ?_)
  refine swp_seq ?_
  refine swp_seq ?_
  refine swp_reg ?_
  refine SRun.ck tbok 4 ⟨23, [(0, vl eTie aA), (3, .own 3), (4, vi s4.1), (11, vb (decide (s4.1 < (aA.length : Int))))], [(3, .arr 47 4 s4.2.length (s4.2.map eTie))]⟩ ?_
  refine SRun.nil ?_
  refine nx_n ?_
  refine swp_cond (b := (decide (s4.1 < (aA.length : Int)))) (by kernel_rfl) (fun hb => ?_) (fun hb => ?_)
  replace h := cond_t hb h
  refine swp_skip ?_
  refine nx_n ?_
  refine swp_seq ?_
  refine swp_seqJ h (fun j6 => ⟨23, [(0, vl eTie aA), (3, .own 3), (4, vi s4.1)], [(3, .arr 47 4 j6.length (j6.map eTie))]⟩) (fun v7 h => ?_) (fun j6 h => ?_)
  refine swp_blk (a := v7) ?_
  refine swp_reg ?_
  refine SRun.ck tbok 4 ⟨23, [(0, vl eTie aA), (3, .own 3), (4, vi s4.1), (14, .own 3), (15, vi s4.1), (16, vl eTie aA), (17, vi s4.1)], [(3, .arr 47 4 s4.2.length (s4.2.map eTie))]⟩ ?_
  obtain ⟨x8, hx8, h⟩ := bind_some h
  refine SRun.ls (x_index (L := aA) (f := eTie) (ti := ti22) (tj := ti44) (e := 44) (k := .i64) tbok rfl hx8) ?_
  refine SRun.ck tbok 1 ⟨23, [(0, vl eTie aA), (3, .own 3), (4, vi s4.1), (14, .own 3), (15, vi s4.1), (19, .agg [vi x8.A, vi x8.B, vb x8.Same, vs x8.Reason])], [(3, .arr 47 4 s4.2.length (s4.2.map eTie))]⟩ ?_
  obtain ⟨x9, hx9, h⟩ := bind_some h
  refine SRun.ls (x_lstep_call (f := 25) (caps := []) (xs := [.agg [vi x8.A, vi x8.B, vb x8.Same, vs x8.Reason]]) (ys := [.agg [vi x8.A, vi x8.B, vb x8.Same, vs x8.Reason]]) (res := ⟨[.v (.agg [vi x9.A, vi x9.B, vb x9.Same, vs x9.Reason])], [], false⟩) (x := .agg [vi x9.A, vi x9.B, vb x9.Same, vs x9.Reason]) (y := none) rfl ents25 (laws_toTie_run x8 _ hx9) rfl (by intro hc; cases hc)) ?_
  obtain ⟨x10, hx10, h⟩ := bind_some h
  refine SRun.ls (x_index_own (d := 3) (L := s4.2) (f := eTie) (ti := ti27) (tj := ti47) (e := 47) (e' := 47) (m := 4) (k := .i64) tbok rfl hx10) ?_
  refine SRun.estep (x_store_own (d := 3) (m := 4) (j := 0) (L := s4.2) (f := eTie) (x := x9) (z := x10) (ti := ti47) (e := 47) (ts := [.int .i64 x9.A, .int .i64 x9.B, .bool x9.Same, .str x9.Reason]) (vs := [vi x9.A, vi x9.B, vb x9.Same, vs x9.Reason]) (v := .agg [vi x9.A, vi x9.B, vb x9.Same, vs x9.Reason]) tbok rfl rfl hx10) ?_
  refine SRun.nil ?_
  replace h := Option.some.inj h
  subst h
  exact q_bn (q_j (Le.sub0))
  refine swp_reg ?_
  refine SRun.ck tbok 3 ⟨23, [(0, vl eTie aA), (3, .own 3), (4, vi (w64 (s4.1 + 1)))], [(3, .arr 47 4 j6.length (j6.map eTie))]⟩ ?_
  refine SRun.nil ?_
  replace h := Option.some.inj h
  subst h
  exact q_l (Le.sub0)
  replace h := cond_f hb h
  refine swp_exit ?_
  replace h := Option.some.inj h
  subst h
  exact nx_e (q_re (q_bh (q_j (Le.sub0))))
  refine swp_seq ?_
  refine swp_reg ?_
  refine SRun.ck tbok 2 ⟨23, [(2, .own 3)], [(3, .arr 47 4 j2.length (j2.map eTie))]⟩ ?_
  refine SRun.nil ?_
  refine nx_n ?_
  refine swp_ret ?_
  replace h := Option.some.inj h
  subst h
  exact q_fr (fin1 (by kernel_rfl) (finO (d := 3) (holds_t (by kernel_rfl)) (by kernel_rfl) (flat_map eTie_flat _) (by kernel_rfl)))
theorem ents8 : Ents Tryd.prog 8 := ents_of Tryd.func8 (by kernel_rfl) rfl
noncomputable def spec_l01In (aN : Int) (aLow : Int) (aHigh : Int) : Option (Bool) :=
  some ((decide (aN ≥ aLow)) && (decide (aN ≤ aHigh)))
set_option maxRecDepth 100000 in
set_option maxHeartbeats 4000000 in
theorem spec_l01In_run (aN : Int) (aLow : Int) (aHigh : Int) (r : Bool) (h : spec_l01In aN aLow aHigh = some r) : SCall Tryd.prog 47 [.v (vi aN), .v (vi aLow), .v (vi aHigh)] ⟨[.v (vb r)], [], false⟩ := by
  refine scall_in Tryd.func47 rfl [(.tmp 6)] rfl (fun r => ⟨[.v (vb r)], [], false⟩) (r := r) ?_
  unfold spec_l01In at h
  refine swp_seq ?_
  refine swp_reg ?_
  refine SRun.ck tbok 1 ⟨15, [(0, vi aN), (1, vi aLow), (2, vi aHigh)], []⟩ ?_
  refine SRun.nil ?_
  refine nx_n ?_
  refine swp_seq ?_
  refine swp_regP ⟨15, [(6, vb ((decide (aN ≥ aLow)) && (decide (aN ≤ aHigh))))], []⟩ ?_ ?_
  refine SRun.ck tbok 4 ⟨15, [(0, vi aN), (2, vi aHigh), (10, vb (decide (aN ≥ aLow)))], []⟩ ?_
  generalize (decide (aN ≥ aLow)) = bb
  cases bb
  refine SRun.ck tbok 5 ⟨15, [(6, vb false)], []⟩ ?_
  exact SRun.nil (Le.sub0)
  refine SRun.ck tbok 5 ⟨15, [(6, vb (decide (aN ≤ aHigh)))], []⟩ ?_
  exact SRun.nil (Le.sub0)
  refine swp_ret ?_
  replace h := Option.some.inj h
  subst h
  exact q_fr (fin1 (by kernel_rfl) (finV rfl SV.flat_of (holds_t (by kernel_rfl))))
theorem ents47 : Ents Tryd.prog 47 := ents_of Tryd.func47 (by kernel_rfl) rfl
noncomputable def spec_IsWord (aS : ByteArray) : Option (Bool) :=
  (((forN (aS.size : Int) (fun (i3 : Int) (_ : Unit) => ((((byte' aS i3).bind fun x7 => (bif (decide (x7 < 97)) then some true else ((byte' aS i3).bind fun x8 => some (decide (x8 > 122)))))).bind fun (j9 : Bool) => (bif j9 then some (.inr (.inr false)) else some (.inl ())))) (fun (_ : Unit) => .inl ()) 0 ())).bind (Sum.elim (fun (_ : Unit) => ((spec_l01In (aS.size : Int) 1 16).bind fun x11 => some x11)) some))
set_option maxRecDepth 100000 in
set_option maxHeartbeats 4000000 in
theorem spec_IsWord_run (aS : ByteArray) (r : Bool) (h : spec_IsWord aS = some r) : SCall Tryd.prog 34 [.v (vs aS)] ⟨[.v (vb r)], [], false⟩ := by
  refine scall_in Tryd.func34 rfl [(.tmp 2)] rfl (fun r => ⟨[.v (vb r)], [], false⟩) (r := r) ?_
  unfold spec_IsWord at h
  refine swp_seq ?_
  refine swp_reg ?_
  refine SRun.ck tbok 1 ⟨23, [(0, vs aS)], []⟩ ?_
  refine SRun.nil ?_
  refine nx_n ?_
  refine swp_seq ?_
  refine swp_seq ?_
  refine swp_reg ?_
  refine SRun.ck tbok 1 ⟨23, [(0, vs aS), (3, vi 0)], []⟩ ?_
  refine SRun.nil ?_
  refine nx_n ?_
  refine swp_seqE (r := r) h (fun j1 => ⟨23, [(0, vs aS)], []⟩) (fun v2 h => ?_) (fun j1 h => ?_)
  refine swp_blk (a := v2) ?_
  refine swp_lpL (r := v2) (s := (0, ())) _ (fun s3 => ⟨23, [(0, vs aS), (3, vi s3.1)], []⟩) _ (Le.sub0) h (fun s3 v4 h => ?_)
  refine swp_seq ?_
  refine swp_seq ?_
  refine swp_reg ?_
  refine SRun.ck tbok 4 ⟨23, [(0, vs aS), (3, vi s3.1), (7, vb (decide (s3.1 < (aS.size : Int))))], []⟩ ?_
  refine SRun.nil ?_
  refine nx_n ?_
  refine swp_cond (b := (decide (s3.1 < (aS.size : Int)))) (by kernel_rfl) (fun hb => ?_) (fun hb => ?_)
  replace h := cond_t hb h
  refine swp_skip ?_
  refine nx_n ?_
  refine swp_seq ?_
  refine swp_seqL (r := v4) h (fun j5 => ⟨23, [(0, vs aS), (3, vi s3.1)], []⟩) (fun v6 h => ?_) (fun j5 h => ?_)
  refine swp_blk (a := v6) ?_
  refine swp_seq ?_
  refine swp_regJ h (fun j9 => ⟨23, [(0, vs aS), (3, vi s3.1), (19, vb j9)], []⟩) (fun v10 h => ?_) (fun j9 h => ?_)
  refine SRun.ck tbok 2 ⟨23, [(0, vs aS), (3, vi s3.1), (10, vs aS), (11, vi s3.1)], []⟩ ?_
  obtain ⟨x7, hx7, h⟩ := bind_some h
  refine SRun.ls (x_byte (ti := ti9) (k := .i64) hx7 tbok rfl) ?_
  refine SRun.ck tbok 2 ⟨23, [(0, vs aS), (3, vi s3.1), (14, vb (decide (x7 < 97)))], []⟩ ?_
  refine SRun.cut [(14, fun b => b)] (b := (decide (x7 < 97))) (by kernel_rfl) (fun hb => ?_) (fun hb => ?_)
  replace h := cond_t hb h
  refine SRun.ck tbok 5 ⟨23, [(0, vs aS), (3, vi s3.1), (19, vb true)], []⟩ ?_
  refine SRun.nil ?_
  replace h := Option.some.inj h
  subst h
  exact Le.sub0
  replace h := cond_f hb h
  refine SRun.ck tbok 2 ⟨23, [(0, vs aS), (3, vi s3.1), (14, vb false), (15, vs aS), (16, vi s3.1)], []⟩ ?_
  obtain ⟨x8, hx8, h⟩ := bind_some h
  refine SRun.ls (x_byte (ti := ti9) (k := .i64) hx8 tbok rfl) ?_
  refine SRun.ck tbok 2 ⟨23, [(0, vs aS), (3, vi s3.1), (19, vb (decide (x8 > 122)))], []⟩ ?_
  refine SRun.nil ?_
  replace h := Option.some.inj h
  subst h
  exact Le.sub0
  refine swp_cond (b := j9) (by kernel_rfl) (fun hb => ?_) (fun hb => ?_)
  replace h := cond_t hb h
  refine swp_seq ?_
  refine swp_reg ?_
  refine SRun.ck tbok 1 ⟨23, [(2, vb false)], []⟩ ?_
  refine SRun.nil ?_
  refine nx_n ?_
  refine swp_ret ?_
  replace h := Option.some.inj h
  subst h
  exact q_br (q_rr (q_rr (q_br (q_rr (q_fr (fin1 (by kernel_rfl) (finV rfl SV.flat_of (holds_t (by kernel_rfl)))))))))
  replace h := cond_f hb h
  refine swp_skip ?_
  replace h := Option.some.inj h
  subst h
  exact q_bn (q_l (Le.sub0))
  refine swp_reg ?_
  refine SRun.ck tbok 3 ⟨23, [(0, vs aS), (3, vi (w64 (s3.1 + 1)))], []⟩ ?_
  refine SRun.nil ?_
  replace h := Option.some.inj h
  subst h
  exact q_l (Le.sub0)
  replace h := cond_f hb h
  refine swp_exit ?_
  replace h := Option.some.inj h
  subst h
  exact nx_e (q_re (q_bh (q_l (Le.sub0))))
  refine swp_seq ?_
  refine swp_reg ?_
  refine SRun.ck tbok 2 ⟨23, [(21, vi (aS.size : Int))], []⟩ ?_
  obtain ⟨x11, hx11, h⟩ := bind_some h
  refine SRun.ls (x_lstep_call (f := 47) (caps := []) (xs := [vi (aS.size : Int), vi 1, vi 16]) (ys := [vi (aS.size : Int), vi 1, vi 16]) (res := ⟨[.v (vb x11)], [], false⟩) (x := vb x11) (y := none) rfl ents47 (spec_l01In_run (aS.size : Int) 1 16 _ hx11) rfl (by intro hc; cases hc)) ?_
  refine SRun.ck tbok 1 ⟨23, [(2, vb x11)], []⟩ ?_
  refine SRun.nil ?_
  refine nx_n ?_
  refine swp_ret ?_
  replace h := Option.some.inj h
  subst h
  exact q_fr (fin1 (by kernel_rfl) (finV rfl SV.flat_of (holds_t (by kernel_rfl))))
theorem ents34 : Ents Tryd.prog 34 := ents_of Tryd.func34 (by kernel_rfl) rfl
noncomputable def spec_AreTies (aN : Int) (aList : (List Tie)) : Option (Bool) :=
  (((forN (aList.length : Int) (fun (i3 : Int) (_ : Unit) => ((at' aList i3).bind fun x7 => (((bif (decide (x7.A < 0)) then some true else (bif (decide (x7.B ≤ x7.A)) then some true else (bif (decide (x7.B ≥ aN)) then some true else ((spec_IsWord x7.Reason).bind fun x8 => some (!x8)))))).bind fun (j9 : Bool) => (bif j9 then some (.inr (.inr false)) else some (.inl ()))))) (fun (_ : Unit) => .inl ()) 0 ())).bind (Sum.elim (fun (_ : Unit) => ((((spec_l01In aN 1 12).bind fun x11 => (bif x11 then some (decide ((aList.length : Int) ≤ 20)) else some false))).bind fun (j12 : Bool) => some j12)) some))
set_option maxRecDepth 100000 in
set_option maxHeartbeats 4000000 in
theorem spec_AreTies_run (aN : Int) (aList : (List Tie)) (r : Bool) (h : spec_AreTies aN aList = some r) : SCall Tryd.prog 23 [.v (vi aN), .v (vl eTie aList)] ⟨[.v (vb r)], [], false⟩ := by
  refine scall_in Tryd.func23 rfl [(.tmp 4)] rfl (fun r => ⟨[.v (vb r)], [], false⟩) (r := r) ?_
  unfold spec_AreTies at h
  refine swp_seq ?_
  refine swp_reg ?_
  refine SRun.ck tbok 1 ⟨46, [(0, vi aN), (1, vl eTie aList)], []⟩ ?_
  refine SRun.nil ?_
  refine nx_n ?_
  refine swp_seq ?_
  refine swp_seq ?_
  refine swp_reg ?_
  refine SRun.ck tbok 1 ⟨46, [(0, vi aN), (1, vl eTie aList), (5, vi 0)], []⟩ ?_
  refine SRun.nil ?_
  refine nx_n ?_
  refine swp_seqE (r := r) h (fun j1 => ⟨46, [(0, vi aN), (1, vl eTie aList)], []⟩) (fun v2 h => ?_) (fun j1 h => ?_)
  refine swp_blk (a := v2) ?_
  refine swp_lpL (r := v2) (s := (0, ())) _ (fun s3 => ⟨46, [(0, vi aN), (1, vl eTie aList), (5, vi s3.1)], []⟩) _ (Le.sub0) h (fun s3 v4 h => ?_)
  refine swp_seq ?_
  refine swp_seq ?_
  refine swp_reg ?_
  refine SRun.ck tbok 4 ⟨46, [(0, vi aN), (1, vl eTie aList), (5, vi s3.1), (10, vb (decide (s3.1 < (aList.length : Int))))], []⟩ ?_
  refine SRun.nil ?_
  refine nx_n ?_
  refine swp_cond (b := (decide (s3.1 < (aList.length : Int)))) (by kernel_rfl) (fun hb => ?_) (fun hb => ?_)
  replace h := cond_t hb h
  refine swp_skip ?_
  refine nx_n ?_
  refine swp_seq ?_
  refine swp_seqL (r := v4) h (fun j5 => ⟨46, [(0, vi aN), (1, vl eTie aList), (5, vi s3.1)], []⟩) (fun v6 h => ?_) (fun j5 h => ?_)
  refine swp_blk (a := v6) ?_
  refine swp_seq ?_
  refine swp_reg ?_
  refine SRun.ck tbok 2 ⟨46, [(0, vi aN), (1, vl eTie aList), (5, vi s3.1), (13, vl eTie aList), (14, vi s3.1)], []⟩ ?_
  obtain ⟨x7, hx7, h⟩ := bind_some h
  refine SRun.ls (x_index (L := aList) (f := eTie) (ti := ti27) (tj := ti47) (e := 47) (k := .i64) tbok rfl hx7) ?_
  refine SRun.ck tbok 2 ⟨46, [(0, vi aN), (1, vl eTie aList), (5, vi s3.1), (6, .ref 6 0), (16, .agg [vi x7.A, vi x7.B, vb x7.Same, vs x7.Reason])], [(6, .box [vi 0, vi 0, vb false, vs (ByteArray.mk #[])])]⟩ ?_
  refine SRun.estep (x_estep_store (d := 6) (k := 0) (ti := ti47) (cs := [vi 0, vi 0, vb false, vs (ByteArray.mk #[])]) (vs := [vi x7.A, vi x7.B, vb x7.Same, vs x7.Reason]) (v := .agg [vi x7.A, vi x7.B, vb x7.Same, vs x7.Reason]) tbok rfl rfl) ?_
  refine SRun.nil ?_
  refine nx_n ?_
  refine swp_seq ?_
  refine swp_regJ h (fun j9 => ⟨46, [(0, vi aN), (1, vl eTie aList), (5, vi s3.1), (38, vb j9)], []⟩) (fun v10 h => ?_) (fun j9 h => ?_)
  refine SRun.ck tbok 4 ⟨46, [(0, vi aN), (1, vl eTie aList), (5, vi s3.1), (6, .ref 6 0), (20, vb (decide (x7.A < 0)))], [(6, .box [vi x7.A, vi x7.B, vb x7.Same, vs x7.Reason])]⟩ ?_
  refine SRun.cut [(20, fun b => b)] (b := (decide (x7.A < 0))) (by kernel_rfl) (fun hb => ?_) (fun hb => ?_)
  replace h := cond_t hb h
  refine SRun.ck tbok 18 ⟨46, [(0, vi aN), (1, vl eTie aList), (5, vi s3.1), (38, vb true)], []⟩ ?_
  refine SRun.nil ?_
  replace h := Option.some.inj h
  subst h
  exact Le.sub0
  replace h := cond_f hb h
  refine SRun.ck tbok 7 ⟨46, [(0, vi aN), (1, vl eTie aList), (5, vi s3.1), (6, .ref 6 0), (27, vb (decide (x7.B ≤ x7.A)))], [(6, .box [vi x7.A, vi x7.B, vb x7.Same, vs x7.Reason])]⟩ ?_
  refine SRun.cut [(27, fun b => b)] (b := (decide (x7.B ≤ x7.A))) (by kernel_rfl) (fun hb => ?_) (fun hb => ?_)
  replace h := cond_t hb h
  refine SRun.ck tbok 11 ⟨46, [(0, vi aN), (1, vl eTie aList), (5, vi s3.1), (38, vb true)], []⟩ ?_
  refine SRun.nil ?_
  replace h := Option.some.inj h
  subst h
  exact Le.sub0
  replace h := cond_f hb h
  refine SRun.ck tbok 6 ⟨46, [(0, vi aN), (1, vl eTie aList), (5, vi s3.1), (6, .ref 6 0), (33, vb (decide (x7.B ≥ aN)))], [(6, .box [vi x7.A, vi x7.B, vb x7.Same, vs x7.Reason])]⟩ ?_
  refine SRun.cut [(33, fun b => b)] (b := (decide (x7.B ≥ aN))) (by kernel_rfl) (fun hb => ?_) (fun hb => ?_)
  replace h := cond_t hb h
  refine SRun.ck tbok 5 ⟨46, [(0, vi aN), (1, vl eTie aList), (5, vi s3.1), (38, vb true)], []⟩ ?_
  refine SRun.nil ?_
  replace h := Option.some.inj h
  subst h
  exact Le.sub0
  replace h := cond_f hb h
  refine SRun.ck tbok 2 ⟨46, [(0, vi aN), (1, vl eTie aList), (5, vi s3.1), (33, vb false), (35, vs x7.Reason)], []⟩ ?_
  obtain ⟨x8, hx8, h⟩ := bind_some h
  refine SRun.ls (x_lstep_call (f := 34) (caps := []) (xs := [vs x7.Reason]) (ys := [vs x7.Reason]) (res := ⟨[.v (vb x8)], [], false⟩) (x := vb x8) (y := none) rfl ents34 (spec_IsWord_run x7.Reason _ hx8) rfl (by intro hc; cases hc)) ?_
  refine SRun.ck tbok 2 ⟨46, [(0, vi aN), (1, vl eTie aList), (5, vi s3.1), (38, vb (!x8))], []⟩ ?_
  refine SRun.nil ?_
  replace h := Option.some.inj h
  subst h
  exact Le.sub0
  refine swp_cond (b := j9) (by kernel_rfl) (fun hb => ?_) (fun hb => ?_)
  replace h := cond_t hb h
  refine swp_seq ?_
  refine swp_reg ?_
  refine SRun.ck tbok 1 ⟨46, [(4, vb false)], []⟩ ?_
  refine SRun.nil ?_
  refine nx_n ?_
  refine swp_ret ?_
  replace h := Option.some.inj h
  subst h
  exact q_br (q_rr (q_rr (q_br (q_rr (q_fr (fin1 (by kernel_rfl) (finV rfl SV.flat_of (holds_t (by kernel_rfl)))))))))
  replace h := cond_f hb h
  refine swp_skip ?_
  replace h := Option.some.inj h
  subst h
  exact q_bn (q_l (Le.sub0))
  refine swp_reg ?_
  refine SRun.ck tbok 3 ⟨46, [(0, vi aN), (1, vl eTie aList), (5, vi (w64 (s3.1 + 1)))], []⟩ ?_
  refine SRun.nil ?_
  replace h := Option.some.inj h
  subst h
  exact q_l (Le.sub0)
  replace h := cond_f hb h
  refine swp_exit ?_
  replace h := Option.some.inj h
  subst h
  exact nx_e (q_re (q_bh (q_l (Le.sub0))))
  refine swp_seq ?_
  refine swp_regJ h (fun j12 => ⟨46, [(4, vb j12)], []⟩) (fun v13 h => ?_) (fun j12 h => ?_)
  refine SRun.ck tbok 1 ⟨46, [(1, vl eTie aList), (39, vi aN)], []⟩ ?_
  obtain ⟨x11, hx11, h⟩ := bind_some h
  refine SRun.ls (x_lstep_call (f := 47) (caps := []) (xs := [vi aN, vi 1, vi 12]) (ys := [vi aN, vi 1, vi 12]) (res := ⟨[.v (vb x11)], [], false⟩) (x := vb x11) (y := none) rfl ents47 (spec_l01In_run aN 1 12 _ hx11) rfl (by intro hc; cases hc)) ?_
  refine SRun.ck tbok 1 ⟨46, [(1, vl eTie aList), (41, vb x11)], []⟩ ?_
  refine SRun.cut [(41, fun b => b)] (b := x11) (by kernel_rfl) (fun hb => ?_) (fun hb => ?_)
  replace h := cond_t hb h
  refine SRun.ck tbok 5 ⟨46, [(4, vb (decide ((aList.length : Int) ≤ 20)))], []⟩ ?_
  refine SRun.nil ?_
  replace h := Option.some.inj h
  subst h
  exact Le.sub0
  replace h := cond_f hb h
  refine SRun.ck tbok 5 ⟨46, [(4, vb false)], []⟩ ?_
  refine SRun.nil ?_
  replace h := Option.some.inj h
  subst h
  exact Le.sub0
  refine swp_ret ?_
  replace h := Option.some.inj h
  subst h
  exact q_fr (fin1 (by kernel_rfl) (finV rfl SV.flat_of (holds_t (by kernel_rfl))))
theorem ents23 : Ents Tryd.prog 23 := ents_of Tryd.func23 (by kernel_rfl) rfl
noncomputable def spec_l31Group (aN : Int) (aList : (List Tie)) (aA : Int) : Option ((List Int)) :=
  ((make' false aN).bind fun x1 => ((at' x1 aA).bind fun _ => (((loop (fun (s5 : Bool × (List Bool)) => (bif s5.1 then (forS (aList.length : Int) (fun (i7 : Int) (s7 : Bool × (List Bool)) => ((at' aList i7).bind fun x11 => (((bif x11.Same then ((at' s7.2 x11.A).bind fun x12 => ((at' s7.2 x11.B).bind fun x13 => some (!(x12 == x13)))) else some false)).bind fun (j14 : Bool) => (bif j14 then ((at' s7.2 x11.A).bind fun _ => ((at' (List.set s7.2 (Int.toNat x11.A) true) x11.B).bind fun _ => some (true, (List.set (List.set s7.2 (Int.toNat x11.A) true) (Int.toNat x11.B) true)))) else some (s7.1, s7.2))))) (fun (s7 : Bool × (List Bool)) => (.inl (s7.1, s7.2))) 0 (false, s5.2)) else some (.inr s5.2))) (true, (List.set x1 (Int.toNat aA) true)))).bind fun (j3 : (List Bool)) => (((forS aN (fun (i20 : Int) (s20 : (List Int)) => ((at' j3 i20).bind fun x24 => (bif x24 then ((app' s20 ([i20] : List Int)).bind fun x25 => some x25) else some s20))) (fun (s20 : (List Int)) => s20) 0 ([] : List Int))).bind fun (j18 : (List Int)) => some j18))))
set_option maxRecDepth 100000 in
set_option maxHeartbeats 4000000 in
theorem spec_l31Group_run (aN : Int) (aList : (List Tie)) (aA : Int) (r : (List Int)) (h : spec_l31Group aN aList aA = some r) : SCall Tryd.prog 48 [.v (vi aN), .v (vl eTie aList), .v (vi aA)] ⟨[.own 2 1 r.length (r.map (eI .i64))], [], false⟩ := by
  refine scall_in Tryd.func48 rfl [(.tmp 6)] rfl (fun r => ⟨[.own 2 1 r.length (r.map (eI .i64))], [], false⟩) (r := r) ?_
  unfold spec_l31Group at h
  refine swp_seq ?_
  refine swp_reg ?_
  refine SRun.ck tbok 1 ⟨67, [(0, vi aN), (1, vl eTie aList), (2, vi aA)], []⟩ ?_
  refine SRun.nil ?_
  refine nx_n ?_
  refine swp_seq ?_
  refine swp_reg ?_
  refine SRun.ck tbok 1 ⟨67, [(0, vi aN), (1, vl eTie aList), (2, vi aA), (13, vi aN)], []⟩ ?_
  obtain ⟨x1, hx1, h⟩ := bind_some h
  refine SRun.ls (x_make (z := false) (f := eB) (ti := ti94) (tj := ti4) (e := 4) (m := 1) (k := .i64) (k' := .i64) hx1 tbok rfl rfl (zs := [.bool false])) ?_
  refine SRun.ck tbok 1 ⟨67, [(0, vi aN), (1, vl eTie aList), (2, vi aA), (7, .own 14)], [(14, .arr 4 1 x1.length (x1.map eB))]⟩ ?_
  refine SRun.nil ?_
  refine nx_n ?_
  refine swp_seq ?_
  refine swp_reg ?_
  refine SRun.ck tbok 2 ⟨67, [(0, vi aN), (1, vl eTie aList), (7, .own 14), (15, .own 14), (16, vi aA)], [(14, .arr 4 1 x1.length (x1.map eB))]⟩ ?_
  obtain ⟨x2, hx2, h⟩ := bind_some h
  refine SRun.ls (x_index_own (d := 14) (L := x1) (f := eB) (ti := ti94) (tj := ti4) (e := 4) (e' := 4) (m := 1) (k := .i64) tbok rfl hx2) ?_
  refine SRun.estep (x_store_own (d := 14) (m := 1) (j := 0) (L := x1) (f := eB) (x := true) (z := x2) (ti := ti4) (e := 4) (ts := [.bool true]) (vs := [vb true]) (v := vb true) tbok rfl rfl hx2) ?_
  refine SRun.nil ?_
  refine nx_n ?_
  refine swp_seq ?_
  refine swp_seq ?_
  refine swp_reg ?_
  refine SRun.ck tbok 1 ⟨67, [(0, vi aN), (1, vl eTie aList), (7, .own 14), (8, vb true)], [(14, .arr 4 1 (List.set x1 (Int.toNat aA) true).length ((List.set x1 (Int.toNat aA) true).map eB))]⟩ ?_
  refine SRun.nil ?_
  refine nx_n ?_
  refine swp_seqJ h (fun j3 => ⟨67, [(0, vi aN), (7, .own 7)], [(7, .arr 4 1 j3.length (j3.map eB))]⟩) (fun v4 h => ?_) (fun j3 h => ?_)
  refine swp_blk (a := v4) ?_
  refine swp_lpL (r := v4) (s := (true, (List.set x1 (Int.toNat aA) true))) _ (fun s5 => ⟨67, [(0, vi aN), (1, vl eTie aList), (7, .own 7), (8, vb s5.1)], [(7, .arr 4 1 s5.2.length (s5.2.map eB))]⟩) _ ((Le.sub' ([(0, vi aN), (1, vl eTie aList), (7, .own 14), (8, vb true)] : List (Nat × SV)) ([(14, .arr 4 1 (List.set x1 (Int.toNat aA) true).length ((List.set x1 (Int.toNat aA) true).map eB))] : List (Nat × SO)) (by kernel_rfl) (by kernel_rfl)).trans ((Le.ren' (d := 14) (e := 7) (by kernel_rfl) (by kernel_rfl) (by kernel_rfl)).trans (Le.sub0))) h (fun s5 v6 h => ?_)
  refine swp_seq ?_
  refine swp_seq ?_
  refine swp_reg ?_
  refine SRun.ck tbok 1 ⟨67, [(0, vi aN), (1, vl eTie aList), (7, .own 7), (18, vb s5.1)], [(7, .arr 4 1 s5.2.length (s5.2.map eB))]⟩ ?_
  refine SRun.nil ?_
  refine nx_n ?_
  refine swp_cond (b := s5.1) (by kernel_rfl) (fun hb => ?_) (fun hb => ?_)
  replace h := cond_t hb h
  refine swp_skip ?_
  refine nx_n ?_
  refine swp_blk (a := v6) ?_
  refine swp_seq ?_
  refine swp_reg ?_
  refine SRun.ck tbok 1 ⟨67, [(0, vi aN), (1, vl eTie aList), (7, .own 7), (8, vb false)], [(7, .arr 4 1 s5.2.length (s5.2.map eB))]⟩ ?_
  refine SRun.nil ?_
  refine nx_n ?_
  refine swp_seq ?_
  refine swp_reg ?_
  refine SRun.ck tbok 1 ⟨67, [(0, vi aN), (1, vl eTie aList), (7, .own 7), (8, vb false), (9, vi 0)], [(7, .arr 4 1 s5.2.length (s5.2.map eB))]⟩ ?_
  refine SRun.nil ?_
  refine nx_n ?_
  refine swp_blk (a := v6) ?_
  refine swp_lpL (r := v6) (s := (0, false, s5.2)) _ (fun s7 => ⟨67, [(0, vi aN), (1, vl eTie aList), (7, .own 7), (8, vb s7.2.1), (9, vi s7.1)], [(7, .arr 4 1 s7.2.2.length (s7.2.2.map eB))]⟩) _ (Le.sub0) h (fun s7 v8 h => ?_)
  refine swp_seq ?_
  refine swp_seq ?_
  refine swp_reg ?_
  refine SRun.ck tbok 4 ⟨67, [(0, vi aN), (1, vl eTie aList), (7, .own 7), (8, vb s7.2.1), (9, vi s7.1), (22, vb (decide (s7.1 < (aList.length : Int))))], [(7, .arr 4 1 s7.2.2.length (s7.2.2.map eB))]⟩ ?_
  refine SRun.nil ?_
  refine nx_n ?_
  refine swp_cond (b := (decide (s7.1 < (aList.length : Int)))) (by kernel_rfl) (fun hb => ?_) (fun hb => ?_)
  replace h := cond_t hb h
  refine swp_skip ?_
  refine nx_n ?_
  refine swp_seq ?_
  refine swp_seqJ h (fun j9 => ⟨67, [(0, vi aN), (1, vl eTie aList), (7, .own 7), (8, vb j9.1), (9, vi s7.1)], [(7, .arr 4 1 j9.2.length (j9.2.map eB))]⟩) (fun v10 h => ?_) (fun j9 h => ?_)
  refine swp_blk (a := v10) ?_
  refine swp_seq ?_
  refine swp_reg ?_
  refine SRun.ck tbok 2 ⟨67, [(0, vi aN), (1, vl eTie aList), (7, .own 7), (8, vb s7.2.1), (9, vi s7.1), (25, vl eTie aList), (26, vi s7.1)], [(7, .arr 4 1 s7.2.2.length (s7.2.2.map eB))]⟩ ?_
  obtain ⟨x11, hx11, h⟩ := bind_some h
  refine SRun.ls (x_index (L := aList) (f := eTie) (ti := ti27) (tj := ti47) (e := 47) (k := .i64) tbok rfl hx11) ?_
  refine SRun.ck tbok 2 ⟨67, [(0, vi aN), (1, vl eTie aList), (7, .own 7), (8, vb s7.2.1), (9, vi s7.1), (10, .ref 10 0), (28, .agg [vi x11.A, vi x11.B, vb x11.Same, vs x11.Reason])], [(7, .arr 4 1 s7.2.2.length (s7.2.2.map eB)), (10, .box [vi 0, vi 0, vb false, vs (ByteArray.mk #[])])]⟩ ?_
  refine SRun.estep (x_estep_store (d := 10) (k := 0) (ti := ti47) (cs := [vi 0, vi 0, vb false, vs (ByteArray.mk #[])]) (vs := [vi x11.A, vi x11.B, vb x11.Same, vs x11.Reason]) (v := .agg [vi x11.A, vi x11.B, vb x11.Same, vs x11.Reason]) tbok rfl rfl) ?_
  refine SRun.nil ?_
  refine nx_n ?_
  refine swp_seq ?_
  refine swp_drJ mixed h (fun j14 => ⟨67, [(0, vi aN), (1, vl eTie aList), (7, .own 7), (8, vb s7.2.1), (9, vi s7.1), (10, .ref 10 0), (43, vb j14)], [(7, .arr 4 1 s7.2.2.length (s7.2.2.map eB)), (10, .box [vi x11.A, vi x11.B, vb x11.Same, vs x11.Reason])]⟩) (fun v15 h => ?_) (fun j14 h => ?_)
  refine DGo.chunk' tbok 3 (σ' := ⟨67, [(31, vb x11.Same), (30, vb x11.Same), (29, .ref 10 2), (0, vi aN), (1, vl eTie aList), (7, .own 7), (8, vb s7.2.1), (9, vi s7.1), (10, .ref 10 0), (28, .agg [vi x11.A, vi x11.B, vb x11.Same, vs x11.Reason])], [(10, .box [vi x11.A, vi x11.B, vb x11.Same, vs x11.Reason]), (7, .arr 4 1 s7.2.2.length (s7.2.2.map eB))]⟩) (by kernel_rfl) ?_
  refine DGo.cut [(31, fun b => b), (30, fun b => b)] (b := x11.Same) (by kernel_rfl) (fun hb => ?_) (fun hb => ?_)
  replace h := cond_t hb h
  refine DGo.chunk' tbok 3 (σ' := ⟨67, [(34, vi x11.A), (33, .ref 10 0), (32, .own 7), (31, vb true), (30, vb true), (29, .ref 10 2), (0, vi aN), (1, vl eTie aList), (7, .own 7), (8, vb s7.2.1), (9, vi s7.1), (10, .ref 10 0), (28, .agg [vi x11.A, vi x11.B, vb x11.Same, vs x11.Reason])], [(10, .box [vi x11.A, vi x11.B, vb x11.Same, vs x11.Reason]), (7, .arr 4 1 s7.2.2.length (s7.2.2.map eB))]⟩) (by kernel_rfl) ?_
  obtain ⟨x12, hx12, h⟩ := bind_some h
  refine DGo.step (x_index_own (d := 7) (L := s7.2.2) (f := eB) (ti := ti94) (tj := ti4) (e := 4) (e' := 4) (m := 1) (k := .i64) tbok rfl hx12) ?_
  refine DGo.step (x_load_own (d := 7) (m := 1) (j := 0) (L := s7.2.2) (f := eB) (ti := ti4) (e := 4) (v := vb x12) tbok rfl hx12) ?_
  refine DGo.chunk' tbok 3 (σ' := ⟨67, [(39, vi x11.B), (38, .ref 10 1), (37, .own 7), (36, vb x12), (35, .eref 7 1 (Int.toNat x11.A) 0), (34, vi x11.A), (33, .ref 10 0), (32, .own 7), (31, vb true), (30, vb true), (29, .ref 10 2), (0, vi aN), (1, vl eTie aList), (7, .own 7), (8, vb s7.2.1), (9, vi s7.1), (10, .ref 10 0), (28, .agg [vi x11.A, vi x11.B, vb x11.Same, vs x11.Reason])], [(10, .box [vi x11.A, vi x11.B, vb x11.Same, vs x11.Reason]), (7, .arr 4 1 s7.2.2.length (s7.2.2.map eB))]⟩) (by kernel_rfl) ?_
  obtain ⟨x13, hx13, h⟩ := bind_some h
  refine DGo.step (x_index_own (d := 7) (L := s7.2.2) (f := eB) (ti := ti94) (tj := ti4) (e := 4) (e' := 4) (m := 1) (k := .i64) tbok rfl hx13) ?_
  refine DGo.step (x_load_own (d := 7) (m := 1) (j := 0) (L := s7.2.2) (f := eB) (ti := ti4) (e := 4) (v := vb x13) tbok rfl hx13) ?_
  refine DGo.step (x_lstep_eqb tbok (ti := ti4) (i := x12) (j := x13) true rfl) ?_
  refine DGo.chunk' tbok 1 (σ' := ⟨67, [(43, vb (!(x12 == x13))), (42, vb (!(x12 == x13))), (41, vb x13), (40, .eref 7 1 (Int.toNat x11.B) 0), (39, vi x11.B), (38, .ref 10 1), (37, .own 7), (36, vb x12), (35, .eref 7 1 (Int.toNat x11.A) 0), (34, vi x11.A), (33, .ref 10 0), (32, .own 7), (31, vb true), (30, vb true), (29, .ref 10 2), (0, vi aN), (1, vl eTie aList), (7, .own 7), (8, vb s7.2.1), (9, vi s7.1), (10, .ref 10 0), (28, .agg [vi x11.A, vi x11.B, vb x11.Same, vs x11.Reason])], [(10, .box [vi x11.A, vi x11.B, vb x11.Same, vs x11.Reason]), (7, .arr 4 1 s7.2.2.length (s7.2.2.map eB))]⟩) (by kernel_rfl) ?_
  refine DGo.nil (by kernel_rfl) ?_
  replace h := Option.some.inj h
  subst h
  exact Le.sub0
  replace h := cond_f hb h
  refine DGo.chunk' tbok 12 (σ' := ⟨67, [(43, vb false), (42, .tup []), (41, .tup []), (40, .tup []), (39, .tup []), (38, .tup []), (37, .tup []), (36, .tup []), (35, .tup []), (34, .tup []), (33, .tup []), (32, .tup []), (31, vb false), (30, vb false), (29, .ref 10 2), (0, vi aN), (1, vl eTie aList), (7, .own 7), (8, vb s7.2.1), (9, vi s7.1), (10, .ref 10 0), (28, .agg [vi x11.A, vi x11.B, vb x11.Same, vs x11.Reason])], [(10, .box [vi x11.A, vi x11.B, vb x11.Same, vs x11.Reason]), (7, .arr 4 1 s7.2.2.length (s7.2.2.map eB))]⟩) (by kernel_rfl) ?_
  refine DGo.nil (by kernel_rfl) ?_
  replace h := Option.some.inj h
  subst h
  exact Le.sub0
  refine swp_cond (b := j14) (by kernel_rfl) (fun hb => ?_) (fun hb => ?_)
  replace h := cond_t hb h
  refine swp_seq ?_
  refine swp_reg ?_
  refine SRun.ck tbok 3 ⟨67, [(0, vi aN), (1, vl eTie aList), (7, .own 7), (9, vi s7.1), (10, .ref 10 0), (44, .own 7), (46, vi x11.A)], [(7, .arr 4 1 s7.2.2.length (s7.2.2.map eB)), (10, .box [vi x11.A, vi x11.B, vb x11.Same, vs x11.Reason])]⟩ ?_
  obtain ⟨x16, hx16, h⟩ := bind_some h
  refine SRun.ls (x_index_own (d := 7) (L := s7.2.2) (f := eB) (ti := ti94) (tj := ti4) (e := 4) (e' := 4) (m := 1) (k := .i64) tbok rfl hx16) ?_
  refine SRun.estep (x_store_own (d := 7) (m := 1) (j := 0) (L := s7.2.2) (f := eB) (x := true) (z := x16) (ti := ti4) (e := 4) (ts := [.bool true]) (vs := [vb true]) (v := vb true) tbok rfl rfl hx16) ?_
  refine SRun.nil ?_
  refine nx_n ?_
  refine swp_seq ?_
  refine swp_reg ?_
  refine SRun.ck tbok 3 ⟨67, [(0, vi aN), (1, vl eTie aList), (7, .own 7), (9, vi s7.1), (48, .own 7), (50, vi x11.B)], [(7, .arr 4 1 (List.set s7.2.2 (Int.toNat x11.A) true).length ((List.set s7.2.2 (Int.toNat x11.A) true).map eB))]⟩ ?_
  obtain ⟨x17, hx17, h⟩ := bind_some h
  refine SRun.ls (x_index_own (d := 7) (L := (List.set s7.2.2 (Int.toNat x11.A) true)) (f := eB) (ti := ti94) (tj := ti4) (e := 4) (e' := 4) (m := 1) (k := .i64) tbok rfl hx17) ?_
  refine SRun.estep (x_store_own (d := 7) (m := 1) (j := 0) (L := (List.set s7.2.2 (Int.toNat x11.A) true)) (f := eB) (x := true) (z := x17) (ti := ti4) (e := 4) (ts := [.bool true]) (vs := [vb true]) (v := vb true) tbok rfl rfl hx17) ?_
  refine SRun.nil ?_
  refine nx_n ?_
  refine swp_reg ?_
  refine SRun.ck tbok 1 ⟨67, [(0, vi aN), (1, vl eTie aList), (7, .own 7), (8, vb true), (9, vi s7.1)], [(7, .arr 4 1 (List.set (List.set s7.2.2 (Int.toNat x11.A) true) (Int.toNat x11.B) true).length ((List.set (List.set s7.2.2 (Int.toNat x11.A) true) (Int.toNat x11.B) true).map eB))]⟩ ?_
  refine SRun.nil ?_
  replace h := Option.some.inj h
  subst h
  exact q_bn (q_j (Le.sub0))
  replace h := cond_f hb h
  refine swp_skip ?_
  replace h := Option.some.inj h
  subst h
  exact q_bn (q_j (Le.sub0))
  refine swp_reg ?_
  refine SRun.ck tbok 3 ⟨67, [(0, vi aN), (1, vl eTie aList), (7, .own 7), (8, vb j9.1), (9, vi (w64 (s7.1 + 1)))], [(7, .arr 4 1 j9.2.length (j9.2.map eB))]⟩ ?_
  refine SRun.nil ?_
  replace h := Option.some.inj h
  subst h
  exact q_l (Le.sub0)
  replace h := cond_f hb h
  refine swp_exit ?_
  replace h := Option.some.inj h
  subst h
  exact nx_e (q_re (q_bh (q_bn (q_l (Le.sub0)))))
  replace h := cond_f hb h
  refine swp_exit ?_
  replace h := Option.some.inj h
  subst h
  exact nx_e (q_re (q_bh (q_j (Le.sub0))))
  refine swp_seq ?_
  refine swp_reg ?_
  refine SRun.ck tbok 2 ⟨67, [(0, vi aN), (7, .own 7), (11, .own 52)], [(7, .arr 4 1 j3.length (j3.map eB)), (52, .arr 2 1 ([] : List Int).length (([] : List Int).map (eI .i64)))]⟩ ?_
  refine SRun.nil ?_
  refine nx_n ?_
  refine swp_seq ?_
  refine swp_seq ?_
  refine swp_reg ?_
  refine SRun.ck tbok 1 ⟨67, [(0, vi aN), (7, .own 7), (11, .own 52), (12, vi 0)], [(7, .arr 4 1 j3.length (j3.map eB)), (52, .arr 2 1 ([] : List Int).length (([] : List Int).map (eI .i64)))]⟩ ?_
  refine SRun.nil ?_
  refine nx_n ?_
  refine swp_seqJ h (fun j18 => ⟨67, [(11, .own 11)], [(11, .arr 2 1 j18.length (j18.map (eI .i64)))]⟩) (fun v19 h => ?_) (fun j18 h => ?_)
  refine swp_blk (a := v19) ?_
  refine swp_lpL (r := v19) (s := (0, ([] : List Int))) _ (fun s20 => ⟨67, [(0, vi aN), (7, .own 7), (11, .own 11), (12, vi s20.1)], [(7, .arr 4 1 j3.length (j3.map eB)), (11, .arr 2 1 s20.2.length (s20.2.map (eI .i64)))]⟩) _ ((Le.sub' ([(0, vi aN), (7, .own 7), (11, .own 52), (12, vi 0)] : List (Nat × SV)) ([(7, .arr 4 1 j3.length (j3.map eB)), (52, .arr 2 1 ([] : List Int).length (([] : List Int).map (eI .i64)))] : List (Nat × SO)) (by kernel_rfl) (by kernel_rfl)).trans ((Le.ren' (d := 52) (e := 11) (by kernel_rfl) (by kernel_rfl) (by kernel_rfl)).trans (Le.sub0))) h (fun s20 v21 h => ?_)
  refine swp_seq ?_
  refine swp_seq ?_
  refine swp_reg ?_
  refine SRun.ck tbok 3 ⟨67, [(0, vi aN), (7, .own 7), (11, .own 11), (12, vi s20.1), (55, vb (decide (s20.1 < aN)))], [(7, .arr 4 1 j3.length (j3.map eB)), (11, .arr 2 1 s20.2.length (s20.2.map (eI .i64)))]⟩ ?_
  refine SRun.nil ?_
  refine nx_n ?_
  refine swp_cond (b := (decide (s20.1 < aN))) (by kernel_rfl) (fun hb => ?_) (fun hb => ?_)
  replace h := cond_t hb h
  refine swp_skip ?_
  refine nx_n ?_
  refine swp_seq ?_
  refine swp_seqJ h (fun j22 => ⟨67, [(0, vi aN), (7, .own 7), (11, .own 11), (12, vi s20.1)], [(7, .arr 4 1 j3.length (j3.map eB)), (11, .arr 2 1 j22.length (j22.map (eI .i64)))]⟩) (fun v23 h => ?_) (fun j22 h => ?_)
  refine swp_blk (a := v23) ?_
  refine swp_seq ?_
  refine swp_reg ?_
  refine SRun.ck tbok 2 ⟨67, [(0, vi aN), (7, .own 7), (11, .own 11), (12, vi s20.1), (58, .own 7), (59, vi s20.1)], [(7, .arr 4 1 j3.length (j3.map eB)), (11, .arr 2 1 s20.2.length (s20.2.map (eI .i64)))]⟩ ?_
  obtain ⟨x24, hx24, h⟩ := bind_some h
  refine SRun.ls (x_index_own (d := 7) (L := j3) (f := eB) (ti := ti94) (tj := ti4) (e := 4) (e' := 4) (m := 1) (k := .i64) tbok rfl hx24) ?_
  refine SRun.ls (x_load_own (d := 7) (m := 1) (j := 0) (L := j3) (f := eB) (ti := ti4) (e := 4) (v := vb x24) tbok rfl hx24) ?_
  refine SRun.nil ?_
  refine nx_n ?_
  refine swp_cond (b := x24) (by kernel_rfl) (fun hb => ?_) (fun hb => ?_)
  replace h := cond_t hb h
  refine swp_reg ?_
  refine SRun.ck tbok 3 ⟨67, [(0, vi aN), (7, .own 7), (12, vi s20.1), (62, .own 11), (64, .own 64)], [(7, .arr 4 1 j3.length (j3.map eB)), (11, .arr 2 1 s20.2.length (s20.2.map (eI .i64))), (64, .arr 2 1 ([s20.1] : List Int).length (([s20.1] : List Int).map (eI .i64)))]⟩ ?_
  obtain ⟨x25, hx25, h⟩ := bind_some h
  refine SRun.estep (x_append (f := (eI .i64)) (t := 50) (ti := ti50) (tj := ti2) (zs := [.int .i64 0]) (e := 2) (m := 1) (d := 11) (xv := .own 64) hx25 tbok rfl rfl rfl rfl (x_src_o (e := 2))) ?_
  refine SRun.ck tbok 1 ⟨67, [(0, vi aN), (7, .own 7), (11, .own 65), (12, vi s20.1)], [(7, .arr 4 1 j3.length (j3.map eB)), (65, .arr 2 1 x25.length (x25.map (eI .i64)))]⟩ ?_
  refine SRun.nil ?_
  replace h := Option.some.inj h
  subst h
  exact q_bn (q_j ((Le.sub' ([(0, vi aN), (7, .own 7), (11, .own 65), (12, vi s20.1)] : List (Nat × SV)) ([(7, .arr 4 1 j3.length (j3.map eB)), (65, .arr 2 1 x25.length (x25.map (eI .i64)))] : List (Nat × SO)) (by kernel_rfl) (by kernel_rfl)).trans ((Le.ren' (d := 65) (e := 11) (by kernel_rfl) (by kernel_rfl) (by kernel_rfl)).trans (Le.sub0))))
  replace h := cond_f hb h
  refine swp_skip ?_
  replace h := Option.some.inj h
  subst h
  exact q_bn (q_j (Le.sub0))
  refine swp_reg ?_
  refine SRun.ck tbok 3 ⟨67, [(0, vi aN), (7, .own 7), (11, .own 11), (12, vi (w64 (s20.1 + 1)))], [(7, .arr 4 1 j3.length (j3.map eB)), (11, .arr 2 1 j22.length (j22.map (eI .i64)))]⟩ ?_
  refine SRun.nil ?_
  replace h := Option.some.inj h
  subst h
  exact q_l (Le.sub0)
  replace h := cond_f hb h
  refine swp_exit ?_
  replace h := Option.some.inj h
  subst h
  exact nx_e (q_re (q_bh (q_j (Le.sub0))))
  refine swp_seq ?_
  refine swp_reg ?_
  refine SRun.ck tbok 2 ⟨67, [(6, .own 11)], [(11, .arr 2 1 j18.length (j18.map (eI .i64)))]⟩ ?_
  refine SRun.nil ?_
  refine nx_n ?_
  refine swp_ret ?_
  replace h := Option.some.inj h
  subst h
  exact q_fr (fin1 (by kernel_rfl) (finO (d := 11) (holds_t (by kernel_rfl)) (by kernel_rfl) (flat_map (eI_flat .i64) _) (by kernel_rfl)))
theorem ents48 : Ents Tryd.prog 48 := ents_of Tryd.func48 (by kernel_rfl) rfl
noncomputable def spec_l31Groups (aN : Int) (aList : (List Tie)) : Option ((List (List Int))) :=
  (((forS aN (fun (i3 : Int) (s3 : (List (List Int))) => ((spec_l31Group aN aList i3).bind fun x7 => ((at' x7 0).bind fun x8 => (bif (x8 == i3) then ((app' s3 ([x7] : List (List Int))).bind fun x9 => some x9) else some s3)))) (fun (s3 : (List (List Int))) => s3) 0 ([] : List (List Int)))).bind fun (j1 : (List (List Int))) => some j1)
set_option maxRecDepth 100000 in
set_option maxHeartbeats 4000000 in
theorem spec_l31Groups_run (aN : Int) (aList : (List Tie)) (r : (List (List Int))) (h : spec_l31Groups aN aList = some r) : SCall Tryd.prog 24 [.v (vi aN), .v (vl eTie aList)] ⟨[.deep 50 1 r.length [(.sl 2 1 [.flat])] (r.map (eL (eI .i64)))], [], false⟩ := by
  refine scall_in Tryd.func24 rfl [(.tmp 4)] rfl (fun r => ⟨[.deep 50 1 r.length [(.sl 2 1 [.flat])] (r.map (eL (eI .i64)))], [], false⟩) (r := r) ?_
  unfold spec_l31Groups at h
  refine swp_seq ?_
  refine swp_reg ?_
  refine SRun.chunk tbok 1 (σ' := ⟨28, [(4, .own 4), (0, vi aN), (1, vl eTie aList)], [(4, .arr 50 1 ([] : List (List Int)).length (([] : List (List Int)).map (eL (eI .i64))))]⟩) (by kernel_rfl) ?_
  refine SRun.le (Le.deep0 (d := 4) (e := 50) (m := 1) (ss := [(.sl 2 1 [.flat])]) (by kernel_rfl) (by kernel_rfl)) ?_
  refine SRun.nil ?_
  refine nx_n ?_
  refine swp_seq ?_
  refine swp_reg ?_
  refine SRun.chunk tbok 1 (σ' := ⟨28, [(8, .own 8), (4, .own 4), (0, vi aN), (1, vl eTie aList)], [(8, .arr 50 1 ([] : List (List Int)).length (([] : List (List Int)).map (eL (eI .i64)))), (4, .deep 50 1 ([] : List (List Int)).length [(.sl 2 1 [.flat])] (([] : List (List Int)).map (eL (eI .i64))))]⟩) (by kernel_rfl) ?_
  refine SRun.le (Le.deep0 (d := 8) (e := 50) (m := 1) (ss := [(.sl 2 1 [.flat])]) (by kernel_rfl) (by kernel_rfl)) ?_
  refine SRun.ck tbok 1 ⟨28, [(0, vi aN), (1, vl eTie aList), (5, .own 8)], [(8, .deep 50 1 ([] : List (List Int)).length [(.sl 2 1 [.flat])] (([] : List (List Int)).map (eL (eI .i64))))]⟩ ?_
  refine SRun.nil ?_
  refine nx_n ?_
  refine swp_seq ?_
  refine swp_seq ?_
  refine swp_reg ?_
  refine SRun.ck tbok 1 ⟨28, [(0, vi aN), (1, vl eTie aList), (5, .own 8), (6, vi 0)], [(8, .deep 50 1 ([] : List (List Int)).length [(.sl 2 1 [.flat])] (([] : List (List Int)).map (eL (eI .i64))))]⟩ ?_
  refine SRun.nil ?_
  refine nx_n ?_
  refine swp_seqJ h (fun j1 => ⟨28, [(5, .own 5)], [(5, .deep 50 1 j1.length [(.sl 2 1 [.flat])] (j1.map (eL (eI .i64))))]⟩) (fun v2 h => ?_) (fun j1 h => ?_)
  refine swp_blk (a := v2) ?_
  refine swp_lpL (r := v2) (s := (0, ([] : List (List Int)))) _ (fun s3 => ⟨28, [(0, vi aN), (1, vl eTie aList), (5, .own 5), (6, vi s3.1)], [(5, .deep 50 1 s3.2.length [(.sl 2 1 [.flat])] (s3.2.map (eL (eI .i64))))]⟩) _ ((Le.sub' ([(0, vi aN), (1, vl eTie aList), (5, .own 8), (6, vi 0)] : List (Nat × SV)) ([(8, .deep 50 1 ([] : List (List Int)).length [(.sl 2 1 [.flat])] (([] : List (List Int)).map (eL (eI .i64))))] : List (Nat × SO)) (by kernel_rfl) (by kernel_rfl)).trans ((Le.ren' (d := 8) (e := 5) (by kernel_rfl) (by kernel_rfl) (by kernel_rfl)).trans (Le.sub0))) h (fun s3 v4 h => ?_)
  refine swp_seq ?_
  refine swp_seq ?_
  refine swp_reg ?_
  refine SRun.ck tbok 3 ⟨28, [(0, vi aN), (1, vl eTie aList), (5, .own 5), (6, vi s3.1), (11, vb (decide (s3.1 < aN)))], [(5, .deep 50 1 s3.2.length [(.sl 2 1 [.flat])] (s3.2.map (eL (eI .i64))))]⟩ ?_
  refine SRun.nil ?_
  refine nx_n ?_
  refine swp_cond (b := (decide (s3.1 < aN))) (by kernel_rfl) (fun hb => ?_) (fun hb => ?_)
  replace h := cond_t hb h
  refine swp_skip ?_
  refine nx_n ?_
  refine swp_seq ?_
  refine swp_seqJ h (fun j5 => ⟨28, [(0, vi aN), (1, vl eTie aList), (5, .own 5), (6, vi s3.1)], [(5, .deep 50 1 j5.length [(.sl 2 1 [.flat])] (j5.map (eL (eI .i64))))]⟩) (fun v6 h => ?_) (fun j5 h => ?_)
  refine swp_blk (a := v6) ?_
  refine swp_seq ?_
  refine swp_reg ?_
  refine SRun.ck tbok 3 ⟨28, [(0, vi aN), (1, vl eTie aList), (5, .own 5), (6, vi s3.1), (14, vi aN), (15, vl eTie aList), (16, vi s3.1)], [(5, .deep 50 1 s3.2.length [(.sl 2 1 [.flat])] (s3.2.map (eL (eI .i64))))]⟩ ?_
  obtain ⟨x7, hx7, h⟩ := bind_some h
  refine SRun.ls (x_lstep_call (f := 48) (caps := []) (xs := [vi aN, vl eTie aList, vi s3.1]) (ys := [vi aN, vl eTie aList, vi s3.1]) (res := ⟨[.own 2 1 x7.length (x7.map (eI .i64))], [], false⟩) (x := .own 17) (y := some (.arr 2 1 x7.length (x7.map (eI .i64)))) rfl ents48 (spec_l31Group_run aN aList s3.1 _ hx7) rfl (by intro hc; cases hc)) ?_
  refine SRun.ck tbok 1 ⟨28, [(0, vi aN), (1, vl eTie aList), (5, .own 5), (6, vi s3.1), (7, .own 17)], [(5, .deep 50 1 s3.2.length [(.sl 2 1 [.flat])] (s3.2.map (eL (eI .i64)))), (17, .arr 2 1 x7.length (x7.map (eI .i64)))]⟩ ?_
  refine SRun.nil ?_
  refine nx_n ?_
  refine swp_seq ?_
  refine swp_reg ?_
  refine SRun.ck tbok 1 ⟨28, [(0, vi aN), (1, vl eTie aList), (5, .own 5), (6, vi s3.1), (7, .own 17), (18, .own 17)], [(5, .deep 50 1 s3.2.length [(.sl 2 1 [.flat])] (s3.2.map (eL (eI .i64)))), (17, .arr 2 1 x7.length (x7.map (eI .i64)))]⟩ ?_
  obtain ⟨x8, hx8, h⟩ := bind_some h
  refine SRun.ls (x_index_own (d := 17) (L := x7) (f := (eI .i64)) (ti := ti50) (tj := ti2) (e := 2) (e' := 2) (m := 1) (k := .i64) tbok rfl hx8) ?_
  refine SRun.ls (x_load_own (d := 17) (m := 1) (j := 0) (L := x7) (f := (eI .i64)) (ti := ti2) (e := 2) (v := vi x8) tbok rfl hx8) ?_
  refine SRun.ck tbok 2 ⟨28, [(0, vi aN), (1, vl eTie aList), (5, .own 5), (6, vi s3.1), (7, .own 17), (22, vb (x8 == s3.1))], [(5, .deep 50 1 s3.2.length [(.sl 2 1 [.flat])] (s3.2.map (eL (eI .i64)))), (17, .arr 2 1 x7.length (x7.map (eI .i64)))]⟩ ?_
  refine SRun.nil ?_
  refine nx_n ?_
  refine swp_cond (b := (x8 == s3.1)) (by kernel_rfl) (fun hb => ?_) (fun hb => ?_)
  replace h := cond_t hb h
  refine swp_reg ?_
  refine SRun.ck tbok 2 ⟨28, [(0, vi aN), (1, vl eTie aList), (6, vi s3.1), (23, .own 5), (24, .own 17)], [(5, .deep 50 1 s3.2.length [(.sl 2 1 [.flat])] (s3.2.map (eL (eI .i64)))), (17, .arr 2 1 x7.length (x7.map (eI .i64)))]⟩ ?_
  refine SRun.estep (x_build_deep (ti := ti24) (tj := ti50) (e := 50) (m := 1) (zs := [.slice none 0 0]) (v := .own 17) (cs := [.own 17]) (ss := [(.sl 2 1 [.flat])]) (ts := [.sl x7.length (x7.map (eI .i64))]) (ds := [17]) tbok rfl rfl rfl (.cons _ _ _ [17] _ _ _ _ (cD_arr (d := 17) (e := 2) (m := 1) (n := x7.length) (es := x7.map (eI .i64)) (ss := [.flat]) (flat_map (eI_flat .i64) _)) .nil (by decide))) ?_
  obtain ⟨x9, hx9, h⟩ := bind_some h
  refine SRun.estep (x_append_deep (f := (eL (eI .i64))) (L := s3.2) (M := ([x7] : List (List Int))) (t := 24) (ti := ti24) (tj := ti50) (zs := [.slice none 0 0]) (e := 50) (m := 1) (d := 5) (dx := 25) (ss := [(.sl 2 1 [.flat])]) hx9 tbok rfl rfl rfl rfl) ?_
  refine SRun.ck tbok 1 ⟨28, [(0, vi aN), (1, vl eTie aList), (5, .own 26), (6, vi s3.1)], [(26, .deep 50 1 x9.length [(.sl 2 1 [.flat])] (x9.map (eL (eI .i64))))]⟩ ?_
  refine SRun.nil ?_
  replace h := Option.some.inj h
  subst h
  exact q_bn (q_j ((Le.sub' ([(0, vi aN), (1, vl eTie aList), (5, .own 26), (6, vi s3.1)] : List (Nat × SV)) ([(26, .deep 50 1 x9.length [(.sl 2 1 [.flat])] (x9.map (eL (eI .i64))))] : List (Nat × SO)) (by kernel_rfl) (by kernel_rfl)).trans ((Le.ren' (d := 26) (e := 5) (by kernel_rfl) (by kernel_rfl) (by kernel_rfl)).trans (Le.sub0))))
  replace h := cond_f hb h
  refine swp_skip ?_
  replace h := Option.some.inj h
  subst h
  exact q_bn (q_j (Le.sub0))
  refine swp_reg ?_
  refine SRun.ck tbok 3 ⟨28, [(0, vi aN), (1, vl eTie aList), (5, .own 5), (6, vi (w64 (s3.1 + 1)))], [(5, .deep 50 1 j5.length [(.sl 2 1 [.flat])] (j5.map (eL (eI .i64))))]⟩ ?_
  refine SRun.nil ?_
  replace h := Option.some.inj h
  subst h
  exact q_l (Le.sub0)
  replace h := cond_f hb h
  refine swp_exit ?_
  replace h := Option.some.inj h
  subst h
  exact nx_e (q_re (q_bh (q_j (Le.sub0))))
  refine swp_seq ?_
  refine swp_reg ?_
  refine SRun.ck tbok 2 ⟨28, [(4, .own 5)], [(5, .deep 50 1 j1.length [(.sl 2 1 [.flat])] (j1.map (eL (eI .i64))))]⟩ ?_
  refine SRun.nil ?_
  refine nx_n ?_
  refine swp_ret ?_
  replace h := Option.some.inj h
  subst h
  exact q_fr (fin1 (by kernel_rfl) (finD (d := 5) (holds_t (by kernel_rfl)) (by kernel_rfl) (by kernel_rfl)))
theorem ents24 : Ents Tryd.prog 24 := ents_of Tryd.func24 (by kernel_rfl) rfl
noncomputable def spec_GroupsOf (aN : Int) (aList : (List Tie)) : Option ((List (List Int)) × Int) :=
  ((spec_AreTies aN aList).bind fun x1 => (bif (!x1) then some (([] : List (List Int)), 1) else ((spec_l31Groups aN aList).bind fun x2 => some (x2, 0))))
set_option maxRecDepth 100000 in
set_option maxHeartbeats 4000000 in
theorem spec_GroupsOf_run (aN : Int) (aList : (List Tie)) (r : (List (List Int)) × Int) (h : spec_GroupsOf aN aList = some r) : SCall Tryd.prog 7 [.v (vi aN), .v (vl eTie aList)] ⟨[.deep 50 1 r.1.length [(.sl 2 1 [.flat])] (r.1.map (eL (eI .i64))), .v (vi r.2)], [], false⟩ := by
  refine scall_in Tryd.func7 rfl [(.tmp 4), (.tmp 5)] rfl (fun r => ⟨[.deep 50 1 r.1.length [(.sl 2 1 [.flat])] (r.1.map (eL (eI .i64))), .v (vi r.2)], [], false⟩) (r := r) ?_
  unfold spec_GroupsOf at h
  refine swp_seq ?_
  refine swp_reg ?_
  refine SRun.chunk tbok 1 (σ' := ⟨13, [(4, .own 4), (0, vi aN), (1, vl eTie aList)], [(4, .arr 50 1 ([] : List (List Int)).length (([] : List (List Int)).map (eL (eI .i64))))]⟩) (by kernel_rfl) ?_
  refine SRun.le (Le.deep0 (d := 4) (e := 50) (m := 1) (ss := [(.sl 2 1 [.flat])]) (by kernel_rfl) (by kernel_rfl)) ?_
  refine SRun.ck tbok 1 ⟨13, [(0, vi aN), (1, vl eTie aList)], []⟩ ?_
  refine SRun.nil ?_
  refine nx_n ?_
  refine swp_seq ?_
  refine swp_seq ?_
  refine swp_reg ?_
  refine SRun.ck tbok 2 ⟨13, [(0, vi aN), (1, vl eTie aList), (6, vi aN), (7, vl eTie aList)], []⟩ ?_
  obtain ⟨x1, hx1, h⟩ := bind_some h
  refine SRun.ls (x_lstep_call (f := 23) (caps := []) (xs := [vi aN, vl eTie aList]) (ys := [vi aN, vl eTie aList]) (res := ⟨[.v (vb x1)], [], false⟩) (x := vb x1) (y := none) rfl ents23 (spec_AreTies_run aN aList _ hx1) rfl (by intro hc; cases hc)) ?_
  refine SRun.ck tbok 1 ⟨13, [(0, vi aN), (1, vl eTie aList), (9, vb (!x1))], []⟩ ?_
  refine SRun.nil ?_
  refine nx_n ?_
  refine swp_cond (b := (!x1)) (by kernel_rfl) (fun hb => ?_) (fun hb => ?_)
  replace h := cond_t hb h
  refine swp_seq ?_
  refine swp_reg ?_
  refine SRun.chunk tbok 1 (σ' := ⟨13, [(4, .own 4), (0, vi aN), (1, vl eTie aList), (9, vb (!x1))], [(4, .arr 50 1 ([] : List (List Int)).length (([] : List (List Int)).map (eL (eI .i64))))]⟩) (by kernel_rfl) ?_
  refine SRun.le (Le.deep0 (d := 4) (e := 50) (m := 1) (ss := [(.sl 2 1 [.flat])]) (by kernel_rfl) (by kernel_rfl)) ?_
  refine SRun.ck tbok 1 ⟨13, [(4, .own 4), (5, vi 1)], [(4, .deep 50 1 ([] : List (List Int)).length [(.sl 2 1 [.flat])] (([] : List (List Int)).map (eL (eI .i64))))]⟩ ?_
  refine SRun.nil ?_
  refine nx_n ?_
  refine swp_ret ?_
  replace h := Option.some.inj h
  subst h
  exact nx_r (q_fr (fin2 (by kernel_rfl) (finD (d := 4) (holds_t (by kernel_rfl)) (by kernel_rfl) (by kernel_rfl)) (finV rfl SV.flat_of (holds_t (by kernel_rfl)))))
  replace h := cond_f hb h
  refine swp_skip ?_
  refine nx_n ?_
  refine swp_seq ?_
  refine swp_reg ?_
  refine SRun.ck tbok 2 ⟨13, [(10, vi aN), (11, vl eTie aList)], []⟩ ?_
  obtain ⟨x2, hx2, h⟩ := bind_some h
  refine SRun.ls (x_lstep_call (f := 24) (caps := []) (xs := [vi aN, vl eTie aList]) (ys := [vi aN, vl eTie aList]) (res := ⟨[.deep 50 1 x2.length [(.sl 2 1 [.flat])] (x2.map (eL (eI .i64)))], [], false⟩) (x := .own 12) (y := some (.deep 50 1 x2.length [(.sl 2 1 [.flat])] (x2.map (eL (eI .i64))))) rfl ents24 (spec_l31Groups_run aN aList _ hx2) rfl (by intro hc; cases hc)) ?_
  refine SRun.ck tbok 2 ⟨13, [(4, .own 12), (5, vi 0)], [(12, .deep 50 1 x2.length [(.sl 2 1 [.flat])] (x2.map (eL (eI .i64))))]⟩ ?_
  refine SRun.nil ?_
  refine nx_n ?_
  refine swp_ret ?_
  replace h := Option.some.inj h
  subst h
  exact q_fr (fin2 (by kernel_rfl) (finD (d := 12) (holds_t (by kernel_rfl)) (by kernel_rfl) (by kernel_rfl)) (finV rfl SV.flat_of (holds_t (by kernel_rfl))))
theorem ents7 : Ents Tryd.prog 7 := ents_of Tryd.func7 (by kernel_rfl) rfl
noncomputable def impl_within (aX : Int) (aLow : Int) (aHigh : Int) : Option (Bool) :=
  some ((decide (aX ≥ aLow)) && (decide (aX ≤ aHigh)))
set_option maxRecDepth 100000 in
set_option maxHeartbeats 4000000 in
theorem impl_within_run (aX : Int) (aLow : Int) (aHigh : Int) (r : Bool) (h : impl_within aX aLow aHigh = some r) : SCall Tryd.prog 49 [.v (vi aX), .v (vi aLow), .v (vi aHigh)] ⟨[.v (vb r)], [], false⟩ := by
  refine scall_in Tryd.func49 rfl [(.tmp 6)] rfl (fun r => ⟨[.v (vb r)], [], false⟩) (r := r) ?_
  unfold impl_within at h
  refine swp_seq ?_
  refine swp_reg ?_
  refine SRun.ck tbok 1 ⟨15, [(0, vi aX), (1, vi aLow), (2, vi aHigh)], []⟩ ?_
  refine SRun.nil ?_
  refine nx_n ?_
  refine swp_seq ?_
  refine swp_regP ⟨15, [(6, vb ((decide (aX ≥ aLow)) && (decide (aX ≤ aHigh))))], []⟩ ?_ ?_
  refine SRun.ck tbok 4 ⟨15, [(0, vi aX), (2, vi aHigh), (10, vb (decide (aX ≥ aLow)))], []⟩ ?_
  generalize (decide (aX ≥ aLow)) = bb
  cases bb
  refine SRun.ck tbok 5 ⟨15, [(6, vb false)], []⟩ ?_
  exact SRun.nil (Le.sub0)
  refine SRun.ck tbok 5 ⟨15, [(6, vb (decide (aX ≤ aHigh)))], []⟩ ?_
  exact SRun.nil (Le.sub0)
  refine swp_ret ?_
  replace h := Option.some.inj h
  subst h
  exact q_fr (fin1 (by kernel_rfl) (finV rfl SV.flat_of (holds_t (by kernel_rfl))))
theorem ents49 : Ents Tryd.prog 49 := ents_of Tryd.func49 (by kernel_rfl) rfl
theorem strings_Trim_run (s c r : ByteArray) (h : strings_Trim s c = some r) : SCall Tryd.prog 76 [.v (.tr (.str s)), .v (.tr (.str c))] ⟨[.v (.tr (.str r))], [], false⟩ := trim_run Tryd.lays160 (by kernel_rfl) 76 rfl s c r h
theorem ents76 : Ents Tryd.prog 76 := ents_of Tryd.func76 (by kernel_rfl) rfl
noncomputable def impl_isSmall (aS : ByteArray) (aLeast : Int) (aMost : Int) : Option (Bool) :=
  ((((impl_within (aS.size : Int) aLeast aMost).bind fun x1 => (bif x1 then ((strings_Trim aS (ByteArray.mk #[97, 98, 99, 100, 101, 102, 103, 104, 105, 106, 107, 108, 109, 110, 111, 112, 113, 114, 115, 116, 117, 118, 119, 120, 121, 122])).bind fun x2 => some (x2.toList == (ByteArray.mk #[]).toList)) else some false))).bind fun (j3 : Bool) => some j3)
set_option maxRecDepth 100000 in
set_option maxHeartbeats 4000000 in
theorem impl_isSmall_run (aS : ByteArray) (aLeast : Int) (aMost : Int) (r : Bool) (h : impl_isSmall aS aLeast aMost = some r) : SCall Tryd.prog 59 [.v (vs aS), .v (vi aLeast), .v (vi aMost)] ⟨[.v (vb r)], [], false⟩ := by
  refine scall_in Tryd.func59 rfl [(.tmp 6)] rfl (fun r => ⟨[.v (vb r)], [], false⟩) (r := r) ?_
  unfold impl_isSmall at h
  refine swp_seq ?_
  refine swp_reg ?_
  refine SRun.ck tbok 1 ⟨17, [(0, vs aS), (1, vi aLeast), (2, vi aMost)], []⟩ ?_
  refine SRun.nil ?_
  refine nx_n ?_
  refine swp_seq ?_
  refine swp_regJ h (fun j3 => ⟨17, [(6, vb j3)], []⟩) (fun v4 h => ?_) (fun j3 h => ?_)
  refine SRun.ck tbok 4 ⟨17, [(0, vs aS), (8, vi (aS.size : Int)), (9, vi aLeast), (10, vi aMost)], []⟩ ?_
  obtain ⟨x1, hx1, h⟩ := bind_some h
  refine SRun.ls (x_lstep_call (f := 49) (caps := []) (xs := [vi (aS.size : Int), vi aLeast, vi aMost]) (ys := [vi (aS.size : Int), vi aLeast, vi aMost]) (res := ⟨[.v (vb x1)], [], false⟩) (x := vb x1) (y := none) rfl ents49 (impl_within_run (aS.size : Int) aLeast aMost _ hx1) rfl (by intro hc; cases hc)) ?_
  refine SRun.ck tbok 1 ⟨17, [(0, vs aS), (12, vb x1)], []⟩ ?_
  refine SRun.cut [(12, fun b => b)] (b := x1) (by kernel_rfl) (fun hb => ?_) (fun hb => ?_)
  replace h := cond_t hb h
  refine SRun.ck tbok 1 ⟨17, [(12, vb true), (13, vs aS)], []⟩ ?_
  obtain ⟨x2, hx2, h⟩ := bind_some h
  refine SRun.ls (x_lstep_call (f := 76) (caps := []) (xs := [vs aS, vs (ByteArray.mk #[97, 98, 99, 100, 101, 102, 103, 104, 105, 106, 107, 108, 109, 110, 111, 112, 113, 114, 115, 116, 117, 118, 119, 120, 121, 122])]) (ys := [vs aS, vs (ByteArray.mk #[97, 98, 99, 100, 101, 102, 103, 104, 105, 106, 107, 108, 109, 110, 111, 112, 113, 114, 115, 116, 117, 118, 119, 120, 121, 122])]) (res := ⟨[.v (vs x2)], [], false⟩) (x := vs x2) (y := none) rfl ents76 (strings_Trim_run aS (ByteArray.mk #[97, 98, 99, 100, 101, 102, 103, 104, 105, 106, 107, 108, 109, 110, 111, 112, 113, 114, 115, 116, 117, 118, 119, 120, 121, 122]) _ hx2) rfl (by intro hc; cases hc)) ?_
  refine SRun.ck tbok 3 ⟨17, [(6, vb (x2.toList == (ByteArray.mk #[]).toList))], []⟩ ?_
  refine SRun.nil ?_
  replace h := Option.some.inj h
  subst h
  exact Le.sub0
  replace h := cond_f hb h
  refine SRun.ck tbok 5 ⟨17, [(6, vb false)], []⟩ ?_
  refine SRun.nil ?_
  replace h := Option.some.inj h
  subst h
  exact Le.sub0
  refine swp_ret ?_
  replace h := Option.some.inj h
  subst h
  exact q_fr (fin1 (by kernel_rfl) (finV rfl SV.flat_of (holds_t (by kernel_rfl))))
theorem ents59 : Ents Tryd.prog 59 := ents_of Tryd.func59 (by kernel_rfl) rfl
noncomputable def impl_IsWord (aS : ByteArray) : Option (Bool) :=
  ((impl_isSmall aS 1 16).bind fun x1 => some x1)
set_option maxRecDepth 100000 in
set_option maxHeartbeats 4000000 in
theorem impl_IsWord_run (aS : ByteArray) (r : Bool) (h : impl_IsWord aS = some r) : SCall Tryd.prog 39 [.v (vs aS)] ⟨[.v (vb r)], [], false⟩ := by
  refine scall_in Tryd.func39 rfl [(.tmp 2)] rfl (fun r => ⟨[.v (vb r)], [], false⟩) (r := r) ?_
  unfold impl_IsWord at h
  refine swp_seq ?_
  refine swp_reg ?_
  refine SRun.ck tbok 1 ⟨5, [(0, vs aS)], []⟩ ?_
  refine SRun.nil ?_
  refine nx_n ?_
  refine swp_seq ?_
  refine swp_reg ?_
  refine SRun.ck tbok 1 ⟨5, [(3, vs aS)], []⟩ ?_
  obtain ⟨x1, hx1, h⟩ := bind_some h
  refine SRun.ls (x_lstep_call (f := 59) (caps := []) (xs := [vs aS, vi 1, vi 16]) (ys := [vs aS, vi 1, vi 16]) (res := ⟨[.v (vb x1)], [], false⟩) (x := vb x1) (y := none) rfl ents59 (impl_isSmall_run aS 1 16 _ hx1) rfl (by intro hc; cases hc)) ?_
  refine SRun.ck tbok 1 ⟨5, [(2, vb x1)], []⟩ ?_
  refine SRun.nil ?_
  refine nx_n ?_
  refine swp_ret ?_
  replace h := Option.some.inj h
  subst h
  exact q_fr (fin1 (by kernel_rfl) (finV rfl SV.flat_of (holds_t (by kernel_rfl))))
theorem ents39 : Ents Tryd.prog 39 := ents_of Tryd.func39 (by kernel_rfl) rfl
noncomputable def impl_isTie (aN : Int) (aT : Tie) : Option (Bool) :=
  ((((impl_within aT.B 0 (w64 (aN - 1))).bind fun x1 => (bif x1 then ((impl_within aT.A 0 (w64 (aT.B - 1))).bind fun x2 => (bif x2 then ((impl_IsWord aT.Reason).bind fun x3 => some x3) else some false)) else some false))).bind fun (j4 : Bool) => some j4)
set_option maxRecDepth 100000 in
set_option maxHeartbeats 4000000 in
theorem impl_isTie_run (aN : Int) (aT : Tie) (r : Bool) (h : impl_isTie aN aT = some r) : SCall Tryd.prog 52 [.v (vi aN), .v (.agg [vi aT.A, vi aT.B, vb aT.Same, vs aT.Reason])] ⟨[.v (vb r)], [], false⟩ := by
  refine scall_in Tryd.func52 rfl [(.tmp 4)] rfl (fun r => ⟨[.v (vb r)], [], false⟩) (r := r) ?_
  unfold impl_isTie at h
  refine swp_seq ?_
  refine swp_reg ?_
  refine SRun.ck tbok 2 ⟨23, [(0, vi aN), (3, .ref 3 0)], [(3, .box [vi aT.A, vi aT.B, vb aT.Same, vs aT.Reason])]⟩ ?_
  refine SRun.nil ?_
  refine nx_n ?_
  refine swp_seq ?_
  refine swp_regJ h (fun j4 => ⟨23, [(4, vb j4)], []⟩) (fun v5 h => ?_) (fun j4 h => ?_)
  refine SRun.ck tbok 4 ⟨23, [(3, .ref 3 0), (6, vi aT.B), (8, vi (w64 (aN - 1)))], [(3, .box [vi aT.A, vi aT.B, vb aT.Same, vs aT.Reason])]⟩ ?_
  obtain ⟨x1, hx1, h⟩ := bind_some h
  refine SRun.ls (x_lstep_call (f := 49) (caps := []) (xs := [vi aT.B, vi 0, vi (w64 (aN - 1))]) (ys := [vi aT.B, vi 0, vi (w64 (aN - 1))]) (res := ⟨[.v (vb x1)], [], false⟩) (x := vb x1) (y := none) rfl ents49 (impl_within_run aT.B 0 (w64 (aN - 1)) _ hx1) rfl (by intro hc; cases hc)) ?_
  refine SRun.ck tbok 1 ⟨23, [(3, .ref 3 0), (10, vb x1)], [(3, .box [vi aT.A, vi aT.B, vb aT.Same, vs aT.Reason])]⟩ ?_
  refine SRun.cut [(10, fun b => b)] (b := x1) (by kernel_rfl) (fun hb => ?_) (fun hb => ?_)
  replace h := cond_t hb h
  refine SRun.ck tbok 5 ⟨23, [(3, .ref 3 0), (10, vb true), (12, vi aT.A), (15, vi (w64 (aT.B - 1)))], [(3, .box [vi aT.A, vi aT.B, vb aT.Same, vs aT.Reason])]⟩ ?_
  obtain ⟨x2, hx2, h⟩ := bind_some h
  refine SRun.ls (x_lstep_call (f := 49) (caps := []) (xs := [vi aT.A, vi 0, vi (w64 (aT.B - 1))]) (ys := [vi aT.A, vi 0, vi (w64 (aT.B - 1))]) (res := ⟨[.v (vb x2)], [], false⟩) (x := vb x2) (y := none) rfl ents49 (impl_within_run aT.A 0 (w64 (aT.B - 1)) _ hx2) rfl (by intro hc; cases hc)) ?_
  refine SRun.ck tbok 2 ⟨23, [(3, .ref 3 0), (18, vb x2)], [(3, .box [vi aT.A, vi aT.B, vb aT.Same, vs aT.Reason])]⟩ ?_
  refine SRun.cut [(18, fun b => b)] (b := x2) (by kernel_rfl) (fun hb => ?_) (fun hb => ?_)
  replace h := cond_t hb h
  refine SRun.ck tbok 2 ⟨23, [(18, vb true), (20, vs aT.Reason)], []⟩ ?_
  obtain ⟨x3, hx3, h⟩ := bind_some h
  refine SRun.ls (x_lstep_call (f := 39) (caps := []) (xs := [vs aT.Reason]) (ys := [vs aT.Reason]) (res := ⟨[.v (vb x3)], [], false⟩) (x := vb x3) (y := none) rfl ents39 (impl_IsWord_run aT.Reason _ hx3) rfl (by intro hc; cases hc)) ?_
  refine SRun.ck tbok 2 ⟨23, [(4, vb x3)], []⟩ ?_
  refine SRun.nil ?_
  replace h := Option.some.inj h
  subst h
  exact Le.sub0
  replace h := cond_f hb h
  refine SRun.ck tbok 5 ⟨23, [(4, vb false)], []⟩ ?_
  refine SRun.nil ?_
  replace h := Option.some.inj h
  subst h
  exact Le.sub0
  replace h := cond_f hb h
  refine SRun.ck tbok 13 ⟨23, [(4, vb false)], []⟩ ?_
  refine SRun.nil ?_
  replace h := Option.some.inj h
  subst h
  exact Le.sub0
  refine swp_ret ?_
  replace h := Option.some.inj h
  subst h
  exact q_fr (fin1 (by kernel_rfl) (finV rfl SV.flat_of (holds_t (by kernel_rfl))))
theorem ents52 : Ents Tryd.prog 52 := ents_of Tryd.func52 (by kernel_rfl) rfl
noncomputable def impl_AreTies_1 (aT : Tie) (c0 : Int) : Option (Bool) :=
  ((impl_isTie c0 aT).bind fun x1 => some (!x1))
set_option maxRecDepth 100000 in
set_option maxHeartbeats 4000000 in
theorem impl_AreTies_1_run (aT : Tie) (c0 : Int) (r : Bool) (h : impl_AreTies_1 aT c0 = some r) : SCall Tryd.prog 51 [.v (.agg [vi aT.A, vi aT.B, vb aT.Same, vs aT.Reason]), .v (.ptr [vi c0] 0)] ⟨[.v (vb r)], [], false⟩ := by
  refine scall_in Tryd.func51 rfl [(.tmp 3)] rfl (fun r => ⟨[.v (vb r)], [], false⟩) (r := r) ?_
  unfold impl_AreTies_1 at h
  refine swp_seq ?_
  refine swp_reg ?_
  refine SRun.ck tbok 2 ⟨8, [(1, .ptr [vi c0] 0), (2, .ref 2 0)], [(2, .box [vi aT.A, vi aT.B, vb aT.Same, vs aT.Reason])]⟩ ?_
  refine SRun.nil ?_
  refine nx_n ?_
  refine swp_seq ?_
  refine swp_reg ?_
  refine SRun.ck tbok 2 ⟨8, [(4, vi c0), (5, .agg [vi aT.A, vi aT.B, vb aT.Same, vs aT.Reason])], []⟩ ?_
  obtain ⟨x1, hx1, h⟩ := bind_some h
  refine SRun.ls (x_lstep_call (f := 52) (caps := []) (xs := [vi c0, .agg [vi aT.A, vi aT.B, vb aT.Same, vs aT.Reason]]) (ys := [vi c0, .agg [vi aT.A, vi aT.B, vb aT.Same, vs aT.Reason]]) (res := ⟨[.v (vb x1)], [], false⟩) (x := vb x1) (y := none) rfl ents52 (impl_isTie_run c0 aT _ hx1) rfl (by intro hc; cases hc)) ?_
  refine SRun.ck tbok 2 ⟨8, [(3, vb (!x1))], []⟩ ?_
  refine SRun.nil ?_
  refine nx_n ?_
  refine swp_ret ?_
  replace h := Option.some.inj h
  subst h
  exact q_fr (fin1 (by kernel_rfl) (finV rfl SV.flat_of (holds_t (by kernel_rfl))))
theorem ents51 : Ents Tryd.prog 51 := ents_of Tryd.func51 (by kernel_rfl) rfl
noncomputable def slices_IndexFunc_Tie_impl_AreTies_1 (aS : (List Tie)) (aF0 : Int) : Option (Int) :=
  (((forN (aS.length : Int) (fun (i3 : Int) (_ : Unit) => ((at' aS i3).bind fun x7 => ((impl_AreTies_1 x7 aF0).bind fun x8 => (bif x8 then some (.inr (.inr i3)) else some (.inl ()))))) (fun (_ : Unit) => .inl ()) 0 ())).bind (Sum.elim (fun (_ : Unit) => some (-1)) some))
set_option maxRecDepth 100000 in
set_option maxHeartbeats 4000000 in
theorem slices_IndexFunc_Tie_impl_AreTies_1_run (aS : (List Tie)) (aF0 : Int) (r : Int) (h : slices_IndexFunc_Tie_impl_AreTies_1 aS aF0 = some r) : SCall Tryd.prog 72 [.v (vl eTie aS), .v (.clo 51 [.ptr [vi aF0] 0])] ⟨[.v (vi r)], [], false⟩ := by
  refine scall_in Tryd.func72 rfl [(.tmp 4)] rfl (fun r => ⟨[.v (vi r)], [], false⟩) (r := r) ?_
  unfold slices_IndexFunc_Tie_impl_AreTies_1 at h
  refine swp_seq ?_
  refine swp_reg ?_
  refine SRun.ck tbok 1 ⟨19, [(0, vl eTie aS), (1, .clo 51 [.ptr [vi aF0] 0])], []⟩ ?_
  refine SRun.nil ?_
  refine nx_n ?_
  refine swp_seq ?_
  refine swp_seq ?_
  refine swp_reg ?_
  refine SRun.ck tbok 3 ⟨19, [(0, vl eTie aS), (1, .clo 51 [.ptr [vi aF0] 0]), (7, vi (aS.length : Int)), (8, vi 0)], []⟩ ?_
  refine SRun.nil ?_
  refine nx_n ?_
  refine swp_seqE (r := r) h (fun j1 => ⟨19, [], []⟩) (fun v2 h => ?_) (fun j1 h => ?_)
  refine swp_blk (a := v2) ?_
  refine swp_lpL (r := v2) (s := (0, ())) _ (fun s3 => ⟨19, [(0, vl eTie aS), (1, .clo 51 [.ptr [vi aF0] 0]), (7, vi (aS.length : Int)), (8, vi s3.1)], []⟩) _ (Le.sub0) h (fun s3 v4 h => ?_)
  refine swp_seq ?_
  refine swp_reg ?_
  refine SRun.ck tbok 1 ⟨19, [(0, vl eTie aS), (1, .clo 51 [.ptr [vi aF0] 0]), (7, vi (aS.length : Int)), (8, vi s3.1), (9, vb (decide (s3.1 < (aS.length : Int))))], []⟩ ?_
  refine SRun.nil ?_
  refine nx_n ?_
  refine swp_seq ?_
  refine swp_cond (b := (decide (s3.1 < (aS.length : Int)))) (by kernel_rfl) (fun hb => ?_) (fun hb => ?_)
  replace h := cond_t hb h
  refine swp_skip ?_
  refine nx_n ?_
  refine swp_seq ?_
  refine swp_seqL (r := v4) h (fun j5 => ⟨19, [(0, vl eTie aS), (1, .clo 51 [.ptr [vi aF0] 0]), (7, vi (aS.length : Int)), (8, vi s3.1)], []⟩) (fun v6 h => ?_) (fun j5 h => ?_)
  refine swp_blk (a := v6) ?_
  refine swp_seq ?_
  refine swp_reg ?_
  refine SRun.ck tbok 2 ⟨19, [(0, vl eTie aS), (1, .clo 51 [.ptr [vi aF0] 0]), (5, vi s3.1), (7, vi (aS.length : Int)), (8, vi s3.1)], []⟩ ?_
  refine SRun.nil ?_
  refine nx_n ?_
  refine swp_seq ?_
  refine swp_reg ?_
  refine SRun.ck tbok 3 ⟨19, [(0, vl eTie aS), (1, .clo 51 [.ptr [vi aF0] 0]), (5, vi s3.1), (7, vi (aS.length : Int)), (8, vi s3.1), (11, .clo 51 [.ptr [vi aF0] 0]), (12, vl eTie aS), (13, vi s3.1)], []⟩ ?_
  obtain ⟨x7, hx7, h⟩ := bind_some h
  refine SRun.ls (x_index (L := aS) (f := eTie) (ti := ti27) (tj := ti47) (e := 47) (k := .i64) tbok rfl hx7) ?_
  refine SRun.ck tbok 1 ⟨19, [(0, vl eTie aS), (1, .clo 51 [.ptr [vi aF0] 0]), (5, vi s3.1), (7, vi (aS.length : Int)), (8, vi s3.1), (11, .clo 51 [.ptr [vi aF0] 0]), (15, .agg [vi x7.A, vi x7.B, vb x7.Same, vs x7.Reason])], []⟩ ?_
  obtain ⟨x8, hx8, h⟩ := bind_some h
  refine SRun.ls (x_lstep_call (f := 51) (caps := [.ptr [vi aF0] 0]) (xs := [.agg [vi x7.A, vi x7.B, vb x7.Same, vs x7.Reason]]) (ys := [.agg [vi x7.A, vi x7.B, vb x7.Same, vs x7.Reason], .ptr [vi aF0] 0]) (res := ⟨[.v (vb x8)], [], false⟩) (x := vb x8) (y := none) rfl ents51 (impl_AreTies_1_run x7 aF0 _ hx8) rfl (by intro hc; cases hc)) ?_
  refine SRun.nil ?_
  refine nx_n ?_
  refine swp_cond (b := x8) (by kernel_rfl) (fun hb => ?_) (fun hb => ?_)
  replace h := cond_t hb h
  refine swp_seq ?_
  refine swp_reg ?_
  refine SRun.ck tbok 2 ⟨19, [(4, vi s3.1)], []⟩ ?_
  refine SRun.nil ?_
  refine nx_n ?_
  refine swp_ret ?_
  replace h := Option.some.inj h
  subst h
  exact q_br (q_rr (q_rr (q_br (q_rr (q_fr (fin1 (by kernel_rfl) (finV rfl SV.flat_of (holds_t (by kernel_rfl)))))))))
  replace h := cond_f hb h
  refine swp_skip ?_
  replace h := Option.some.inj h
  subst h
  exact q_bn (q_l (Le.sub0))
  refine swp_reg ?_
  refine SRun.ck tbok 2 ⟨19, [(0, vl eTie aS), (1, .clo 51 [.ptr [vi aF0] 0]), (7, vi (aS.length : Int)), (8, vi (w64 (s3.1 + 1)))], []⟩ ?_
  refine SRun.nil ?_
  replace h := Option.some.inj h
  subst h
  exact q_l (Le.sub0)
  replace h := cond_f hb h
  refine swp_exit ?_
  replace h := Option.some.inj h
  subst h
  exact nx_e (q_re (q_bh (q_l (Le.sub0))))
  refine swp_seq ?_
  refine swp_reg ?_
  refine SRun.ck tbok 1 ⟨19, [(4, vi (-1))], []⟩ ?_
  refine SRun.nil ?_
  refine nx_n ?_
  refine swp_ret ?_
  replace h := Option.some.inj h
  subst h
  exact q_fr (fin1 (by kernel_rfl) (finV rfl SV.flat_of (holds_t (by kernel_rfl))))
theorem ents72 : Ents Tryd.prog 72 := ents_of Tryd.func72 (by kernel_rfl) rfl
noncomputable def slices_ContainsFunc_Tie_impl_AreTies_1 (aS : (List Tie)) (aF0 : Int) : Option (Bool) :=
  ((slices_IndexFunc_Tie_impl_AreTies_1 aS aF0).bind fun x1 => some (decide (x1 ≥ 0)))
set_option maxRecDepth 100000 in
set_option maxHeartbeats 4000000 in
theorem slices_ContainsFunc_Tie_impl_AreTies_1_run (aS : (List Tie)) (aF0 : Int) (r : Bool) (h : slices_ContainsFunc_Tie_impl_AreTies_1 aS aF0 = some r) : SCall Tryd.prog 50 [.v (vl eTie aS), .v (.clo 51 [.ptr [vi aF0] 0])] ⟨[.v (vb r)], [], false⟩ := by
  refine scall_in Tryd.func50 rfl [(.tmp 4)] rfl (fun r => ⟨[.v (vb r)], [], false⟩) (r := r) ?_
  unfold slices_ContainsFunc_Tie_impl_AreTies_1 at h
  refine swp_seq ?_
  refine swp_reg ?_
  refine SRun.ck tbok 1 ⟨9, [(0, vl eTie aS), (1, .clo 51 [.ptr [vi aF0] 0])], []⟩ ?_
  refine SRun.nil ?_
  refine nx_n ?_
  refine swp_seq ?_
  refine swp_reg ?_
  refine SRun.ck tbok 2 ⟨9, [(5, vl eTie aS), (6, .clo 51 [.ptr [vi aF0] 0])], []⟩ ?_
  obtain ⟨x1, hx1, h⟩ := bind_some h
  refine SRun.ls (x_lstep_call (f := 72) (caps := []) (xs := [vl eTie aS, .clo 51 [.ptr [vi aF0] 0]]) (ys := [vl eTie aS, .clo 51 [.ptr [vi aF0] 0]]) (res := ⟨[.v (vi x1)], [], false⟩) (x := vi x1) (y := none) rfl ents72 (slices_IndexFunc_Tie_impl_AreTies_1_run aS aF0 _ hx1) rfl (by intro hc; cases hc)) ?_
  refine SRun.ck tbok 2 ⟨9, [(4, vb (decide (x1 ≥ 0)))], []⟩ ?_
  refine SRun.nil ?_
  refine nx_n ?_
  refine swp_ret ?_
  replace h := Option.some.inj h
  subst h
  exact q_fr (fin1 (by kernel_rfl) (finV rfl SV.flat_of (holds_t (by kernel_rfl))))
theorem ents50 : Ents Tryd.prog 50 := ents_of Tryd.func50 (by kernel_rfl) rfl
noncomputable def impl_AreTies (aN : Int) (aList : (List Tie)) : Option (Bool) :=
  ((((impl_within aN 1 12).bind fun x1 => (bif x1 then (bif (decide ((aList.length : Int) ≤ 20)) then ((slices_ContainsFunc_Tie_impl_AreTies_1 aList aN).bind fun x2 => some (!x2)) else some false) else some false))).bind fun (j3 : Bool) => some j3)
set_option maxRecDepth 100000 in
set_option maxHeartbeats 4000000 in
theorem impl_AreTies_run (aN : Int) (aList : (List Tie)) (r : Bool) (h : impl_AreTies aN aList = some r) : SCall Tryd.prog 26 [.v (vi aN), .v (vl eTie aList)] ⟨[.v (vb r)], [], false⟩ := by
  refine scall_in Tryd.func26 rfl [(.tmp 4)] rfl (fun r => ⟨[.v (vb r)], [], false⟩) (r := r) ?_
  unfold impl_AreTies at h
  refine swp_seq ?_
  refine swp_reg ?_
  refine SRun.ck tbok 2 ⟨18, [(1, vl eTie aList), (2, .ref 2 0)], [(2, .box [vi aN])]⟩ ?_
  refine SRun.nil ?_
  refine nx_n ?_
  refine swp_seq ?_
  refine swp_regJ h (fun j3 => ⟨18, [(4, vb j3)], []⟩) (fun v4 h => ?_) (fun j3 h => ?_)
  refine SRun.ck tbok 1 ⟨18, [(1, vl eTie aList), (2, .ref 2 0), (5, vi aN)], [(2, .box [vi aN])]⟩ ?_
  obtain ⟨x1, hx1, h⟩ := bind_some h
  refine SRun.ls (x_lstep_call (f := 49) (caps := []) (xs := [vi aN, vi 1, vi 12]) (ys := [vi aN, vi 1, vi 12]) (res := ⟨[.v (vb x1)], [], false⟩) (x := vb x1) (y := none) rfl ents49 (impl_within_run aN 1 12 _ hx1) rfl (by intro hc; cases hc)) ?_
  refine SRun.ck tbok 1 ⟨18, [(1, vl eTie aList), (2, .ref 2 0), (7, vb x1)], [(2, .box [vi aN])]⟩ ?_
  refine SRun.cut [(7, fun b => b)] (b := x1) (by kernel_rfl) (fun hb => ?_) (fun hb => ?_)
  replace h := cond_t hb h
  refine SRun.ck tbok 5 ⟨18, [(1, vl eTie aList), (2, .ref 2 0), (12, vb (decide ((aList.length : Int) ≤ 20)))], [(2, .box [vi aN])]⟩ ?_
  refine SRun.cut [(12, fun b => b)] (b := (decide ((aList.length : Int) ≤ 20))) (by kernel_rfl) (fun hb => ?_) (fun hb => ?_)
  replace h := cond_t hb h
  refine SRun.ck tbok 2 ⟨18, [(12, vb true), (13, vl eTie aList), (14, .clo 51 [.ref 2 0])], [(2, .box [vi aN])]⟩ ?_
  obtain ⟨x2, hx2, h⟩ := bind_some h
  refine SRun.ls (x_lstep_call (f := 50) (caps := []) (xs := [vl eTie aList, .clo 51 [.ref 2 0]]) (ys := [vl eTie aList, .clo 51 [.ptr [vi aN] 0]]) (res := ⟨[.v (vb x2)], [], false⟩) (x := vb x2) (y := none) rfl ents50 (slices_ContainsFunc_Tie_impl_AreTies_1_run aList aN _ hx2) rfl (by intro hc; cases hc)) ?_
  refine SRun.ck tbok 3 ⟨18, [(4, vb (!x2))], []⟩ ?_
  refine SRun.nil ?_
  replace h := Option.some.inj h
  subst h
  exact Le.sub0
  replace h := cond_f hb h
  refine SRun.ck tbok 6 ⟨18, [(4, vb false)], []⟩ ?_
  refine SRun.nil ?_
  replace h := Option.some.inj h
  subst h
  exact Le.sub0
  replace h := cond_f hb h
  refine SRun.ck tbok 11 ⟨18, [(4, vb false)], []⟩ ?_
  refine SRun.nil ?_
  replace h := Option.some.inj h
  subst h
  exact Le.sub0
  refine swp_ret ?_
  replace h := Option.some.inj h
  subst h
  exact q_fr (fin1 (by kernel_rfl) (finV rfl SV.flat_of (holds_t (by kernel_rfl))))
theorem ents26 : Ents Tryd.prog 26 := ents_of Tryd.func26 (by kernel_rfl) rfl
noncomputable def slices_Index_int64 (aS : (List Int)) (aV : Int) : Option (Int) :=
  (((forN (aS.length : Int) (fun (i3 : Int) (_ : Unit) => ((at' aS i3).bind fun x7 => (bif (aV == x7) then some (.inr (.inr i3)) else some (.inl ())))) (fun (_ : Unit) => .inl ()) 0 ())).bind (Sum.elim (fun (_ : Unit) => some (-1)) some))
set_option maxRecDepth 100000 in
set_option maxHeartbeats 4000000 in
theorem slices_Index_int64_run (aS : (List Int)) (aV : Int) (r : Int) (h : slices_Index_int64 aS aV = some r) : SCall Tryd.prog 74 [.v (vl (eI .i64) aS), .v (vi aV)] ⟨[.v (vi r)], [], false⟩ := by
  refine scall_in Tryd.func74 rfl [(.tmp 4)] rfl (fun r => ⟨[.v (vi r)], [], false⟩) (r := r) ?_
  unfold slices_Index_int64 at h
  refine swp_seq ?_
  refine swp_reg ?_
  refine SRun.ck tbok 1 ⟨19, [(0, vl (eI .i64) aS), (1, vi aV)], []⟩ ?_
  refine SRun.nil ?_
  refine nx_n ?_
  refine swp_seq ?_
  refine swp_seq ?_
  refine swp_reg ?_
  refine SRun.ck tbok 3 ⟨19, [(0, vl (eI .i64) aS), (1, vi aV), (7, vi (aS.length : Int)), (8, vi 0)], []⟩ ?_
  refine SRun.nil ?_
  refine nx_n ?_
  refine swp_seqE (r := r) h (fun j1 => ⟨19, [], []⟩) (fun v2 h => ?_) (fun j1 h => ?_)
  refine swp_blk (a := v2) ?_
  refine swp_lpL (r := v2) (s := (0, ())) _ (fun s3 => ⟨19, [(0, vl (eI .i64) aS), (1, vi aV), (7, vi (aS.length : Int)), (8, vi s3.1)], []⟩) _ (Le.sub0) h (fun s3 v4 h => ?_)
  refine swp_seq ?_
  refine swp_reg ?_
  refine SRun.ck tbok 1 ⟨19, [(0, vl (eI .i64) aS), (1, vi aV), (7, vi (aS.length : Int)), (8, vi s3.1), (9, vb (decide (s3.1 < (aS.length : Int))))], []⟩ ?_
  refine SRun.nil ?_
  refine nx_n ?_
  refine swp_seq ?_
  refine swp_cond (b := (decide (s3.1 < (aS.length : Int)))) (by kernel_rfl) (fun hb => ?_) (fun hb => ?_)
  replace h := cond_t hb h
  refine swp_skip ?_
  refine nx_n ?_
  refine swp_seq ?_
  refine swp_seqL (r := v4) h (fun j5 => ⟨19, [(0, vl (eI .i64) aS), (1, vi aV), (7, vi (aS.length : Int)), (8, vi s3.1)], []⟩) (fun v6 h => ?_) (fun j5 h => ?_)
  refine swp_blk (a := v6) ?_
  refine swp_seq ?_
  refine swp_reg ?_
  refine SRun.ck tbok 2 ⟨19, [(0, vl (eI .i64) aS), (1, vi aV), (5, vi s3.1), (7, vi (aS.length : Int)), (8, vi s3.1)], []⟩ ?_
  refine SRun.nil ?_
  refine nx_n ?_
  refine swp_seq ?_
  refine swp_reg ?_
  refine SRun.ck tbok 3 ⟨19, [(0, vl (eI .i64) aS), (1, vi aV), (5, vi s3.1), (7, vi (aS.length : Int)), (8, vi s3.1), (11, vi aV), (12, vl (eI .i64) aS), (13, vi s3.1)], []⟩ ?_
  obtain ⟨x7, hx7, h⟩ := bind_some h
  refine SRun.ls (x_index (L := aS) (f := (eI .i64)) (ti := ti50) (tj := ti2) (e := 2) (k := .i64) tbok rfl hx7) ?_
  refine SRun.ck tbok 2 ⟨19, [(0, vl (eI .i64) aS), (1, vi aV), (5, vi s3.1), (7, vi (aS.length : Int)), (8, vi s3.1), (16, vb (aV == x7))], []⟩ ?_
  refine SRun.nil ?_
  refine nx_n ?_
  refine swp_cond (b := (aV == x7)) (by kernel_rfl) (fun hb => ?_) (fun hb => ?_)
  replace h := cond_t hb h
  refine swp_seq ?_
  refine swp_reg ?_
  refine SRun.ck tbok 2 ⟨19, [(4, vi s3.1)], []⟩ ?_
  refine SRun.nil ?_
  refine nx_n ?_
  refine swp_ret ?_
  replace h := Option.some.inj h
  subst h
  exact q_br (q_rr (q_rr (q_br (q_rr (q_fr (fin1 (by kernel_rfl) (finV rfl SV.flat_of (holds_t (by kernel_rfl)))))))))
  replace h := cond_f hb h
  refine swp_skip ?_
  replace h := Option.some.inj h
  subst h
  exact q_bn (q_l (Le.sub0))
  refine swp_reg ?_
  refine SRun.ck tbok 2 ⟨19, [(0, vl (eI .i64) aS), (1, vi aV), (7, vi (aS.length : Int)), (8, vi (w64 (s3.1 + 1)))], []⟩ ?_
  refine SRun.nil ?_
  replace h := Option.some.inj h
  subst h
  exact q_l (Le.sub0)
  replace h := cond_f hb h
  refine swp_exit ?_
  replace h := Option.some.inj h
  subst h
  exact nx_e (q_re (q_bh (q_l (Le.sub0))))
  refine swp_seq ?_
  refine swp_reg ?_
  refine SRun.ck tbok 1 ⟨19, [(4, vi (-1))], []⟩ ?_
  refine SRun.nil ?_
  refine nx_n ?_
  refine swp_ret ?_
  replace h := Option.some.inj h
  subst h
  exact q_fr (fin1 (by kernel_rfl) (finV rfl SV.flat_of (holds_t (by kernel_rfl))))
theorem ents74 : Ents Tryd.prog 74 := ents_of Tryd.func74 (by kernel_rfl) rfl
noncomputable def slices_Contains_int64 (aS : (List Int)) (aV : Int) : Option (Bool) :=
  ((slices_Index_int64 aS aV).bind fun x1 => some (decide (x1 ≥ 0)))
set_option maxRecDepth 100000 in
set_option maxHeartbeats 4000000 in
theorem slices_Contains_int64_run (aS : (List Int)) (aV : Int) (r : Bool) (h : slices_Contains_int64 aS aV = some r) : SCall Tryd.prog 55 [.v (vl (eI .i64) aS), .v (vi aV)] ⟨[.v (vb r)], [], false⟩ := by
  refine scall_in Tryd.func55 rfl [(.tmp 4)] rfl (fun r => ⟨[.v (vb r)], [], false⟩) (r := r) ?_
  unfold slices_Contains_int64 at h
  refine swp_seq ?_
  refine swp_reg ?_
  refine SRun.ck tbok 1 ⟨9, [(0, vl (eI .i64) aS), (1, vi aV)], []⟩ ?_
  refine SRun.nil ?_
  refine nx_n ?_
  refine swp_seq ?_
  refine swp_reg ?_
  refine SRun.ck tbok 2 ⟨9, [(5, vl (eI .i64) aS), (6, vi aV)], []⟩ ?_
  obtain ⟨x1, hx1, h⟩ := bind_some h
  refine SRun.ls (x_lstep_call (f := 74) (caps := []) (xs := [vl (eI .i64) aS, vi aV]) (ys := [vl (eI .i64) aS, vi aV]) (res := ⟨[.v (vi x1)], [], false⟩) (x := vi x1) (y := none) rfl ents74 (slices_Index_int64_run aS aV _ hx1) rfl (by intro hc; cases hc)) ?_
  refine SRun.ck tbok 2 ⟨9, [(4, vb (decide (x1 ≥ 0)))], []⟩ ?_
  refine SRun.nil ?_
  refine nx_n ?_
  refine swp_ret ?_
  replace h := Option.some.inj h
  subst h
  exact q_fr (fin1 (by kernel_rfl) (finV rfl SV.flat_of (holds_t (by kernel_rfl))))
theorem ents55 : Ents Tryd.prog 55 := ents_of Tryd.func55 (by kernel_rfl) rfl
noncomputable def impl_groupsOf_1 (aG : (List Int)) (c0 : Int) : Option (Bool) :=
  ((slices_Contains_int64 aG c0).bind fun x1 => some x1)
set_option maxRecDepth 100000 in
set_option maxHeartbeats 4000000 in
theorem impl_groupsOf_1_run (aG : (List Int)) (c0 : Int) (r : Bool) (h : impl_groupsOf_1 aG c0 = some r) : SCall Tryd.prog 54 [.v (vl (eI .i64) aG), .v (.ptr [vi c0] 0)] ⟨[.v (vb r)], [], false⟩ := by
  refine scall_in Tryd.func54 rfl [(.tmp 3)] rfl (fun r => ⟨[.v (vb r)], [], false⟩) (r := r) ?_
  unfold impl_groupsOf_1 at h
  refine swp_seq ?_
  refine swp_reg ?_
  refine SRun.ck tbok 1 ⟨7, [(0, vl (eI .i64) aG), (1, .ptr [vi c0] 0)], []⟩ ?_
  refine SRun.nil ?_
  refine nx_n ?_
  refine swp_seq ?_
  refine swp_reg ?_
  refine SRun.ck tbok 2 ⟨7, [(4, vl (eI .i64) aG), (5, vi c0)], []⟩ ?_
  obtain ⟨x1, hx1, h⟩ := bind_some h
  refine SRun.ls (x_lstep_call (f := 55) (caps := []) (xs := [vl (eI .i64) aG, vi c0]) (ys := [vl (eI .i64) aG, vi c0]) (res := ⟨[.v (vb x1)], [], false⟩) (x := vb x1) (y := none) rfl ents55 (slices_Contains_int64_run aG c0 _ hx1) rfl (by intro hc; cases hc)) ?_
  refine SRun.ck tbok 1 ⟨7, [(3, vb x1)], []⟩ ?_
  refine SRun.nil ?_
  refine nx_n ?_
  refine swp_ret ?_
  replace h := Option.some.inj h
  subst h
  exact q_fr (fin1 (by kernel_rfl) (finV rfl SV.flat_of (holds_t (by kernel_rfl))))
theorem ents54 : Ents Tryd.prog 54 := ents_of Tryd.func54 (by kernel_rfl) rfl
noncomputable def slices_IndexFunc_int64_impl_groupsOf_1 (aS : (List (List Int))) (aF0 : Int) : Option (Int) :=
  (((forN (aS.length : Int) (fun (i3 : Int) (_ : Unit) => ((at' aS i3).bind fun x7 => ((impl_groupsOf_1 x7 aF0).bind fun x8 => (bif x8 then some (.inr (.inr i3)) else some (.inl ()))))) (fun (_ : Unit) => .inl ()) 0 ())).bind (Sum.elim (fun (_ : Unit) => some (-1)) some))
set_option maxRecDepth 100000 in
set_option maxHeartbeats 4000000 in
theorem slices_IndexFunc_int64_impl_groupsOf_1_run (aS : (List (List Int))) (aF0 : Int) (r : Int) (h : slices_IndexFunc_int64_impl_groupsOf_1 aS aF0 = some r) : SCall Tryd.prog 73 [.v (vl (eL (eI .i64)) aS), .v (.clo 54 [.ptr [vi aF0] 0])] ⟨[.v (vi r)], [], false⟩ := by
  refine scall_in Tryd.func73 rfl [(.tmp 4)] rfl (fun r => ⟨[.v (vi r)], [], false⟩) (r := r) ?_
  unfold slices_IndexFunc_int64_impl_groupsOf_1 at h
  refine swp_seq ?_
  refine swp_reg ?_
  refine SRun.ck tbok 1 ⟨19, [(0, vl (eL (eI .i64)) aS), (1, .clo 54 [.ptr [vi aF0] 0])], []⟩ ?_
  refine SRun.nil ?_
  refine nx_n ?_
  refine swp_seq ?_
  refine swp_seq ?_
  refine swp_reg ?_
  refine SRun.ck tbok 3 ⟨19, [(0, vl (eL (eI .i64)) aS), (1, .clo 54 [.ptr [vi aF0] 0]), (7, vi (aS.length : Int)), (8, vi 0)], []⟩ ?_
  refine SRun.nil ?_
  refine nx_n ?_
  refine swp_seqE (r := r) h (fun j1 => ⟨19, [], []⟩) (fun v2 h => ?_) (fun j1 h => ?_)
  refine swp_blk (a := v2) ?_
  refine swp_lpL (r := v2) (s := (0, ())) _ (fun s3 => ⟨19, [(0, vl (eL (eI .i64)) aS), (1, .clo 54 [.ptr [vi aF0] 0]), (7, vi (aS.length : Int)), (8, vi s3.1)], []⟩) _ (Le.sub0) h (fun s3 v4 h => ?_)
  refine swp_seq ?_
  refine swp_reg ?_
  refine SRun.ck tbok 1 ⟨19, [(0, vl (eL (eI .i64)) aS), (1, .clo 54 [.ptr [vi aF0] 0]), (7, vi (aS.length : Int)), (8, vi s3.1), (9, vb (decide (s3.1 < (aS.length : Int))))], []⟩ ?_
  refine SRun.nil ?_
  refine nx_n ?_
  refine swp_seq ?_
  refine swp_cond (b := (decide (s3.1 < (aS.length : Int)))) (by kernel_rfl) (fun hb => ?_) (fun hb => ?_)
  replace h := cond_t hb h
  refine swp_skip ?_
  refine nx_n ?_
  refine swp_seq ?_
  refine swp_seqL (r := v4) h (fun j5 => ⟨19, [(0, vl (eL (eI .i64)) aS), (1, .clo 54 [.ptr [vi aF0] 0]), (7, vi (aS.length : Int)), (8, vi s3.1)], []⟩) (fun v6 h => ?_) (fun j5 h => ?_)
  refine swp_blk (a := v6) ?_
  refine swp_seq ?_
  refine swp_reg ?_
  refine SRun.ck tbok 2 ⟨19, [(0, vl (eL (eI .i64)) aS), (1, .clo 54 [.ptr [vi aF0] 0]), (5, vi s3.1), (7, vi (aS.length : Int)), (8, vi s3.1)], []⟩ ?_
  refine SRun.nil ?_
  refine nx_n ?_
  refine swp_seq ?_
  refine swp_reg ?_
  refine SRun.ck tbok 3 ⟨19, [(0, vl (eL (eI .i64)) aS), (1, .clo 54 [.ptr [vi aF0] 0]), (5, vi s3.1), (7, vi (aS.length : Int)), (8, vi s3.1), (11, .clo 54 [.ptr [vi aF0] 0]), (12, vl (eL (eI .i64)) aS), (13, vi s3.1)], []⟩ ?_
  obtain ⟨x7, hx7, h⟩ := bind_some h
  refine SRun.ls (x_index (L := aS) (f := (eL (eI .i64))) (ti := ti24) (tj := ti50) (e := 50) (k := .i64) tbok rfl hx7) ?_
  refine SRun.ck tbok 1 ⟨19, [(0, vl (eL (eI .i64)) aS), (1, .clo 54 [.ptr [vi aF0] 0]), (5, vi s3.1), (7, vi (aS.length : Int)), (8, vi s3.1), (11, .clo 54 [.ptr [vi aF0] 0]), (15, vl (eI .i64) x7)], []⟩ ?_
  obtain ⟨x8, hx8, h⟩ := bind_some h
  refine SRun.ls (x_lstep_call (f := 54) (caps := [.ptr [vi aF0] 0]) (xs := [vl (eI .i64) x7]) (ys := [vl (eI .i64) x7, .ptr [vi aF0] 0]) (res := ⟨[.v (vb x8)], [], false⟩) (x := vb x8) (y := none) rfl ents54 (impl_groupsOf_1_run x7 aF0 _ hx8) rfl (by intro hc; cases hc)) ?_
  refine SRun.nil ?_
  refine nx_n ?_
  refine swp_cond (b := x8) (by kernel_rfl) (fun hb => ?_) (fun hb => ?_)
  replace h := cond_t hb h
  refine swp_seq ?_
  refine swp_reg ?_
  refine SRun.ck tbok 2 ⟨19, [(4, vi s3.1)], []⟩ ?_
  refine SRun.nil ?_
  refine nx_n ?_
  refine swp_ret ?_
  replace h := Option.some.inj h
  subst h
  exact q_br (q_rr (q_rr (q_br (q_rr (q_fr (fin1 (by kernel_rfl) (finV rfl SV.flat_of (holds_t (by kernel_rfl)))))))))
  replace h := cond_f hb h
  refine swp_skip ?_
  replace h := Option.some.inj h
  subst h
  exact q_bn (q_l (Le.sub0))
  refine swp_reg ?_
  refine SRun.ck tbok 2 ⟨19, [(0, vl (eL (eI .i64)) aS), (1, .clo 54 [.ptr [vi aF0] 0]), (7, vi (aS.length : Int)), (8, vi (w64 (s3.1 + 1)))], []⟩ ?_
  refine SRun.nil ?_
  replace h := Option.some.inj h
  subst h
  exact q_l (Le.sub0)
  replace h := cond_f hb h
  refine swp_exit ?_
  replace h := Option.some.inj h
  subst h
  exact nx_e (q_re (q_bh (q_l (Le.sub0))))
  refine swp_seq ?_
  refine swp_reg ?_
  refine SRun.ck tbok 1 ⟨19, [(4, vi (-1))], []⟩ ?_
  refine SRun.nil ?_
  refine nx_n ?_
  refine swp_ret ?_
  replace h := Option.some.inj h
  subst h
  exact q_fr (fin1 (by kernel_rfl) (finV rfl SV.flat_of (holds_t (by kernel_rfl))))
theorem ents73 : Ents Tryd.prog 73 := ents_of Tryd.func73 (by kernel_rfl) rfl
noncomputable def slices_ContainsFunc_int64_impl_groupsOf_1 (aS : (List (List Int))) (aF0 : Int) : Option (Bool) :=
  ((slices_IndexFunc_int64_impl_groupsOf_1 aS aF0).bind fun x1 => some (decide (x1 ≥ 0)))
set_option maxRecDepth 100000 in
set_option maxHeartbeats 4000000 in
theorem slices_ContainsFunc_int64_impl_groupsOf_1_run (aS : (List (List Int))) (aF0 : Int) (r : Bool) (h : slices_ContainsFunc_int64_impl_groupsOf_1 aS aF0 = some r) : SCall Tryd.prog 53 [.v (vl (eL (eI .i64)) aS), .v (.clo 54 [.ptr [vi aF0] 0])] ⟨[.v (vb r)], [], false⟩ := by
  refine scall_in Tryd.func53 rfl [(.tmp 4)] rfl (fun r => ⟨[.v (vb r)], [], false⟩) (r := r) ?_
  unfold slices_ContainsFunc_int64_impl_groupsOf_1 at h
  refine swp_seq ?_
  refine swp_reg ?_
  refine SRun.ck tbok 1 ⟨9, [(0, vl (eL (eI .i64)) aS), (1, .clo 54 [.ptr [vi aF0] 0])], []⟩ ?_
  refine SRun.nil ?_
  refine nx_n ?_
  refine swp_seq ?_
  refine swp_reg ?_
  refine SRun.ck tbok 2 ⟨9, [(5, vl (eL (eI .i64)) aS), (6, .clo 54 [.ptr [vi aF0] 0])], []⟩ ?_
  obtain ⟨x1, hx1, h⟩ := bind_some h
  refine SRun.ls (x_lstep_call (f := 73) (caps := []) (xs := [vl (eL (eI .i64)) aS, .clo 54 [.ptr [vi aF0] 0]]) (ys := [vl (eL (eI .i64)) aS, .clo 54 [.ptr [vi aF0] 0]]) (res := ⟨[.v (vi x1)], [], false⟩) (x := vi x1) (y := none) rfl ents73 (slices_IndexFunc_int64_impl_groupsOf_1_run aS aF0 _ hx1) rfl (by intro hc; cases hc)) ?_
  refine SRun.ck tbok 2 ⟨9, [(4, vb (decide (x1 ≥ 0)))], []⟩ ?_
  refine SRun.nil ?_
  refine nx_n ?_
  refine swp_ret ?_
  replace h := Option.some.inj h
  subst h
  exact q_fr (fin1 (by kernel_rfl) (finV rfl SV.flat_of (holds_t (by kernel_rfl))))
theorem ents53 : Ents Tryd.prog 53 := ents_of Tryd.func53 (by kernel_rfl) rfl

theorem ents75 : Ents Tryd.prog 75 := ents_of Tryd.func75 (by kernel_rfl) rfl
noncomputable def impl_far (aN : Int) (aList : (List Tie)) (aTo : Int) : Option ((List Int)) :=
  ((slices_Repeat_int64 ([(-1)] : List Int) aN).bind fun x1 => ((at' x1 aTo).bind fun _ => (((forS aN (fun (i5 : Int) (s5 : (List Int)) => (forS (aList.length : Int) (fun (i9 : Int) (s9 : (List Int)) => ((at' aList i9).bind fun x13 => (forS 2 (fun (i14 : Int) (s14 : (List Int)) => ((two' i14).bind fun _ => (((bif x13.Same then ((at' s14 (cond (i14 == 0) x13.A x13.B)).bind fun x19 => (bif (x19 == i5) then ((at' s14 (cond (i14 == 0) x13.B x13.A)).bind fun x20 => some (decide (x20 < 0))) else some false)) else some false)).bind fun (j21 : Bool) => (bif j21 then ((at' s14 (cond (i14 == 0) x13.B x13.A)).bind fun _ => some (List.set s14 (Int.toNat (cond (i14 == 0) x13.B x13.A)) (w64 (i5 + 1)))) else some s14)))) (fun (s14 : (List Int)) => s14) 0 s9))) (fun (s9 : (List Int)) => s9) 0 s5)) (fun (s5 : (List Int)) => s5) 0 (List.set x1 (Int.toNat aTo) 0))).bind fun (j3 : (List Int)) => some j3)))
set_option maxRecDepth 100000 in
set_option maxHeartbeats 4000000 in
theorem impl_far_run (aN : Int) (aList : (List Tie)) (aTo : Int) (r : (List Int)) (h : impl_far aN aList aTo = some r) : SCall Tryd.prog 56 [.v (vi aN), .v (vl eTie aList), .v (vi aTo)] ⟨[.own 2 1 r.length (r.map (eI .i64))], [], false⟩ := by
  refine scall_in Tryd.func56 rfl [(.tmp 6)] rfl (fun r => ⟨[.own 2 1 r.length (r.map (eI .i64))], [], false⟩) (r := r) ?_
  unfold impl_far at h
  refine swp_seq ?_
  refine swp_reg ?_
  refine SRun.ck tbok 1 ⟨72, [(0, vi aN), (1, vl eTie aList), (2, vi aTo)], []⟩ ?_
  refine SRun.nil ?_
  refine nx_n ?_
  refine swp_seq ?_
  refine swp_reg ?_
  refine SRun.ck tbok 2 ⟨72, [(0, vi aN), (1, vl eTie aList), (2, vi aTo), (13, .own 13), (14, vi aN)], [(13, .arr 2 1 ([(-1)] : List Int).length (([(-1)] : List Int).map (eI .i64)))]⟩ ?_
  obtain ⟨x1, hx1, h⟩ := bind_some h
  refine SRun.ls (x_lstep_call (f := 75) (caps := []) (xs := [.own 13, vi aN]) (ys := [vl (eI .i64) ([(-1)] : List Int), vi aN]) (res := ⟨[.own 2 1 x1.length (x1.map (eI .i64))], [], false⟩) (x := .own 15) (y := some (.arr 2 1 x1.length (x1.map (eI .i64)))) rfl ents75 (slices_Repeat_int64_run ([(-1)] : List Int) aN _ hx1) rfl (by intro hc; cases hc)) ?_
  refine SRun.ck tbok 1 ⟨72, [(0, vi aN), (1, vl eTie aList), (2, vi aTo), (7, .own 15)], [(15, .arr 2 1 x1.length (x1.map (eI .i64)))]⟩ ?_
  refine SRun.nil ?_
  refine nx_n ?_
  refine swp_seq ?_
  refine swp_reg ?_
  refine SRun.ck tbok 2 ⟨72, [(0, vi aN), (1, vl eTie aList), (7, .own 15), (16, .own 15), (17, vi aTo)], [(15, .arr 2 1 x1.length (x1.map (eI .i64)))]⟩ ?_
  obtain ⟨x2, hx2, h⟩ := bind_some h
  refine SRun.ls (x_index_own (d := 15) (L := x1) (f := (eI .i64)) (ti := ti50) (tj := ti2) (e := 2) (e' := 2) (m := 1) (k := .i64) tbok rfl hx2) ?_
  refine SRun.estep (x_store_own (d := 15) (m := 1) (j := 0) (L := x1) (f := (eI .i64)) (x := 0) (z := x2) (ti := ti2) (e := 2) (ts := [.int .i64 0]) (vs := [vi 0]) (v := vi 0) tbok rfl rfl hx2) ?_
  refine SRun.nil ?_
  refine nx_n ?_
  refine swp_seq ?_
  refine swp_seq ?_
  refine swp_reg ?_
  refine SRun.ck tbok 2 ⟨72, [(1, vl eTie aList), (7, .own 15), (19, vi aN), (20, vi 0)], [(15, .arr 2 1 (List.set x1 (Int.toNat aTo) 0).length ((List.set x1 (Int.toNat aTo) 0).map (eI .i64)))]⟩ ?_
  refine SRun.nil ?_
  refine nx_n ?_
  refine swp_seqJ h (fun j3 => ⟨72, [(7, .own 7)], [(7, .arr 2 1 j3.length (j3.map (eI .i64)))]⟩) (fun v4 h => ?_) (fun j3 h => ?_)
  refine swp_blk (a := v4) ?_
  refine swp_lpL (r := v4) (s := (0, (List.set x1 (Int.toNat aTo) 0))) _ (fun s5 => ⟨72, [(1, vl eTie aList), (7, .own 7), (19, vi aN), (20, vi s5.1)], [(7, .arr 2 1 s5.2.length (s5.2.map (eI .i64)))]⟩) _ ((Le.sub' ([(1, vl eTie aList), (7, .own 15), (19, vi aN), (20, vi 0)] : List (Nat × SV)) ([(15, .arr 2 1 (List.set x1 (Int.toNat aTo) 0).length ((List.set x1 (Int.toNat aTo) 0).map (eI .i64)))] : List (Nat × SO)) (by kernel_rfl) (by kernel_rfl)).trans ((Le.ren' (d := 15) (e := 7) (by kernel_rfl) (by kernel_rfl) (by kernel_rfl)).trans (Le.sub0))) h (fun s5 v6 h => ?_)
  refine swp_seq ?_
  refine swp_reg ?_
  refine SRun.ck tbok 1 ⟨72, [(1, vl eTie aList), (7, .own 7), (19, vi aN), (20, vi s5.1), (21, vb (decide (s5.1 < aN)))], [(7, .arr 2 1 s5.2.length (s5.2.map (eI .i64)))]⟩ ?_
  refine SRun.nil ?_
  refine nx_n ?_
  refine swp_seq ?_
  refine swp_cond (b := (decide (s5.1 < aN))) (by kernel_rfl) (fun hb => ?_) (fun hb => ?_)
  replace h := cond_t hb h
  refine swp_skip ?_
  refine nx_n ?_
  refine swp_seq ?_
  refine swp_seqJ h (fun j7 => ⟨72, [(1, vl eTie aList), (7, .own 7), (19, vi aN), (20, vi s5.1)], [(7, .arr 2 1 j7.length (j7.map (eI .i64)))]⟩) (fun v8 h => ?_) (fun j7 h => ?_)
  refine swp_blk (a := v8) ?_
  refine swp_seq ?_
  refine swp_reg ?_
  refine SRun.ck tbok 2 ⟨72, [(1, vl eTie aList), (7, .own 7), (8, vi s5.1), (19, vi aN), (20, vi s5.1)], [(7, .arr 2 1 s5.2.length (s5.2.map (eI .i64)))]⟩ ?_
  refine SRun.nil ?_
  refine nx_n ?_
  refine swp_seq ?_
  refine swp_reg ?_
  refine SRun.ck tbok 3 ⟨72, [(1, vl eTie aList), (7, .own 7), (8, vi s5.1), (19, vi aN), (20, vi s5.1), (23, vl eTie aList), (24, vi (aList.length : Int)), (25, vi 0)], [(7, .arr 2 1 s5.2.length (s5.2.map (eI .i64)))]⟩ ?_
  refine SRun.nil ?_
  refine nx_n ?_
  refine swp_blk (a := v8) ?_
  refine swp_lpL (r := v8) (s := (0, s5.2)) _ (fun s9 => ⟨72, [(1, vl eTie aList), (7, .own 7), (8, vi s5.1), (19, vi aN), (20, vi s5.1), (23, vl eTie aList), (24, vi (aList.length : Int)), (25, vi s9.1)], [(7, .arr 2 1 s9.2.length (s9.2.map (eI .i64)))]⟩) _ (Le.sub0) h (fun s9 v10 h => ?_)
  refine swp_seq ?_
  refine swp_reg ?_
  refine SRun.ck tbok 1 ⟨72, [(1, vl eTie aList), (7, .own 7), (8, vi s5.1), (19, vi aN), (20, vi s5.1), (23, vl eTie aList), (24, vi (aList.length : Int)), (25, vi s9.1), (26, vb (decide (s9.1 < (aList.length : Int))))], [(7, .arr 2 1 s9.2.length (s9.2.map (eI .i64)))]⟩ ?_
  refine SRun.nil ?_
  refine nx_n ?_
  refine swp_seq ?_
  refine swp_cond (b := (decide (s9.1 < (aList.length : Int)))) (by kernel_rfl) (fun hb => ?_) (fun hb => ?_)
  replace h := cond_t hb h
  refine swp_skip ?_
  refine nx_n ?_
  refine swp_seq ?_
  refine swp_seqJ h (fun j11 => ⟨72, [(1, vl eTie aList), (7, .own 7), (8, vi s5.1), (19, vi aN), (20, vi s5.1), (23, vl eTie aList), (24, vi (aList.length : Int)), (25, vi s9.1)], [(7, .arr 2 1 j11.length (j11.map (eI .i64)))]⟩) (fun v12 h => ?_) (fun j11 h => ?_)
  refine swp_blk (a := v12) ?_
  refine swp_seq ?_
  refine swp_reg ?_
  obtain ⟨x13, hx13, h⟩ := bind_some h
  refine SRun.ls (x_index (L := aList) (f := eTie) (ti := ti27) (tj := ti47) (e := 47) (k := .i64) tbok rfl hx13) ?_
  refine SRun.ck tbok 2 ⟨72, [(1, vl eTie aList), (7, .own 7), (8, vi s5.1), (10, .ref 10 0), (19, vi aN), (20, vi s5.1), (23, vl eTie aList), (24, vi (aList.length : Int)), (25, vi s9.1), (28, .agg [vi x13.A, vi x13.B, vb x13.Same, vs x13.Reason])], [(7, .arr 2 1 s9.2.length (s9.2.map (eI .i64))), (10, .box [vi 0, vi 0, vb false, vs (ByteArray.mk #[])])]⟩ ?_
  refine SRun.estep (x_estep_store (d := 10) (k := 0) (ti := ti47) (cs := [vi 0, vi 0, vb false, vs (ByteArray.mk #[])]) (vs := [vi x13.A, vi x13.B, vb x13.Same, vs x13.Reason]) (v := .agg [vi x13.A, vi x13.B, vb x13.Same, vs x13.Reason]) tbok rfl rfl) ?_
  refine SRun.nil ?_
  refine nx_n ?_
  refine swp_seq ?_
  refine swp_reg ?_
  refine SRun.ck tbok 4 ⟨72, [(1, vl eTie aList), (7, .own 7), (8, vi s5.1), (10, .ref 10 0), (19, vi aN), (20, vi s5.1), (23, vl eTie aList), (24, vi (aList.length : Int)), (25, vi s9.1), (30, vi x13.A), (32, vi x13.B)], [(7, .arr 2 1 s9.2.length (s9.2.map (eI .i64))), (10, .box [vi x13.A, vi x13.B, vb x13.Same, vs x13.Reason])]⟩ ?_
  refine SRun.ls (x_lstep_build (v := .agg [vi x13.A, vi x13.B]) tbok rfl) ?_
  refine SRun.ck tbok 4 ⟨72, [(1, vl eTie aList), (7, .own 7), (8, vi s5.1), (10, .ref 10 0), (19, vi aN), (20, vi s5.1), (23, vl eTie aList), (24, vi (aList.length : Int)), (25, vi s9.1), (33, .agg [vi x13.A, vi x13.B]), (35, vi x13.B), (37, vi x13.A)], [(7, .arr 2 1 s9.2.length (s9.2.map (eI .i64))), (10, .box [vi x13.A, vi x13.B, vb x13.Same, vs x13.Reason])]⟩ ?_
  refine SRun.ls (x_lstep_build (v := .agg [vi x13.B, vi x13.A]) tbok rfl) ?_
  refine SRun.ls (x_lstep_build (v := .agg [vi x13.A, vi x13.B, vi x13.B, vi x13.A]) tbok rfl) ?_
  refine SRun.ck tbok 1 ⟨72, [(1, vl eTie aList), (7, .own 7), (8, vi s5.1), (10, .ref 10 0), (19, vi aN), (20, vi s5.1), (23, vl eTie aList), (24, vi (aList.length : Int)), (25, vi s9.1), (39, .agg [vi x13.A, vi x13.B, vi x13.B, vi x13.A]), (40, vi 0)], [(7, .arr 2 1 s9.2.length (s9.2.map (eI .i64))), (10, .box [vi x13.A, vi x13.B, vb x13.Same, vs x13.Reason])]⟩ ?_
  refine SRun.nil ?_
  refine nx_n ?_
  refine swp_blk (a := v12) ?_
  refine swp_lpL (r := v12) (s := (0, s9.2)) _ (fun s14 => ⟨72, [(1, vl eTie aList), (7, .own 7), (8, vi s5.1), (10, .ref 10 0), (19, vi aN), (20, vi s5.1), (23, vl eTie aList), (24, vi (aList.length : Int)), (25, vi s9.1), (39, .agg [vi x13.A, vi x13.B, vi x13.B, vi x13.A]), (40, vi s14.1)], [(7, .arr 2 1 s14.2.length (s14.2.map (eI .i64))), (10, .box [vi x13.A, vi x13.B, vb x13.Same, vs x13.Reason])]⟩) _ (Le.sub0) h (fun s14 v15 h => ?_)
  refine swp_seq ?_
  refine swp_reg ?_
  refine SRun.ck tbok 1 ⟨72, [(1, vl eTie aList), (7, .own 7), (8, vi s5.1), (10, .ref 10 0), (19, vi aN), (20, vi s5.1), (23, vl eTie aList), (24, vi (aList.length : Int)), (25, vi s9.1), (39, .agg [vi x13.A, vi x13.B, vi x13.B, vi x13.A]), (40, vi s14.1), (41, vb (decide (s14.1 < 2)))], [(7, .arr 2 1 s14.2.length (s14.2.map (eI .i64))), (10, .box [vi x13.A, vi x13.B, vb x13.Same, vs x13.Reason])]⟩ ?_
  refine SRun.nil ?_
  refine nx_n ?_
  refine swp_seq ?_
  refine swp_cond (b := (decide (s14.1 < 2))) (by kernel_rfl) (fun hb => ?_) (fun hb => ?_)
  replace h := cond_t hb h
  refine swp_skip ?_
  refine nx_n ?_
  refine swp_seq ?_
  refine swp_seqJ h (fun j16 => ⟨72, [(1, vl eTie aList), (7, .own 7), (8, vi s5.1), (10, .ref 10 0), (19, vi aN), (20, vi s5.1), (23, vl eTie aList), (24, vi (aList.length : Int)), (25, vi s9.1), (39, .agg [vi x13.A, vi x13.B, vi x13.B, vi x13.A]), (40, vi s14.1)], [(7, .arr 2 1 j16.length (j16.map (eI .i64))), (10, .box [vi x13.A, vi x13.B, vb x13.Same, vs x13.Reason])]⟩) (fun v17 h => ?_) (fun j16 h => ?_)
  refine swp_blk (a := v17) ?_
  refine swp_seq ?_
  refine swp_reg ?_
  obtain ⟨x18, hx18, h⟩ := bind_some h
  refine SRun.ls (x_two tbok hx18 rfl (k := .i64) (e := 99) (m := 2) (ti := ti100) (tj := ti99) (cs := [vi x13.A, vi x13.B, vi x13.B, vi x13.A]) (v := .agg [vi (cond (s14.1 == 0) x13.A x13.B), vi (cond (s14.1 == 0) x13.B x13.A)]) (fun b => .agg [vi (cond b x13.A x13.B), vi (cond b x13.B x13.A)]) rfl) ?_
  refine SRun.ck tbok 1 ⟨72, [(1, vl eTie aList), (7, .own 7), (8, vi s5.1), (10, .ref 10 0), (12, .ref 12 0), (19, vi aN), (20, vi s5.1), (23, vl eTie aList), (24, vi (aList.length : Int)), (25, vi s9.1), (39, .agg [vi x13.A, vi x13.B, vi x13.B, vi x13.A]), (40, vi s14.1), (42, .agg [vi (cond (s14.1 == 0) x13.A x13.B), vi (cond (s14.1 == 0) x13.B x13.A)])], [(7, .arr 2 1 s14.2.length (s14.2.map (eI .i64))), (10, .box [vi x13.A, vi x13.B, vb x13.Same, vs x13.Reason]), (12, .box [vi 0, vi 0])]⟩ ?_
  refine SRun.estep (x_estep_store (d := 12) (k := 0) (ti := ti99) (cs := [vi 0, vi 0]) (vs := [vi (cond (s14.1 == 0) x13.A x13.B), vi (cond (s14.1 == 0) x13.B x13.A)]) (v := .agg [vi (cond (s14.1 == 0) x13.A x13.B), vi (cond (s14.1 == 0) x13.B x13.A)]) tbok rfl rfl) ?_
  refine SRun.nil ?_
  refine nx_n ?_
  refine swp_seq ?_
  refine swp_regJ h (fun j21 => ⟨72, [(1, vl eTie aList), (7, .own 7), (8, vi s5.1), (10, .ref 10 0), (12, .ref 12 0), (19, vi aN), (20, vi s5.1), (23, vl eTie aList), (24, vi (aList.length : Int)), (25, vi s9.1), (39, .agg [vi x13.A, vi x13.B, vi x13.B, vi x13.A]), (40, vi s14.1), (61, vb j21)], [(7, .arr 2 1 s14.2.length (s14.2.map (eI .i64))), (10, .box [vi x13.A, vi x13.B, vb x13.Same, vs x13.Reason]), (12, .box [vi (cond (s14.1 == 0) x13.A x13.B), vi (cond (s14.1 == 0) x13.B x13.A)])]⟩) (fun v22 h => ?_) (fun j21 h => ?_)
  refine SRun.ck tbok 3 ⟨72, [(1, vl eTie aList), (7, .own 7), (8, vi s5.1), (10, .ref 10 0), (12, .ref 12 0), (19, vi aN), (20, vi s5.1), (23, vl eTie aList), (24, vi (aList.length : Int)), (25, vi s9.1), (39, .agg [vi x13.A, vi x13.B, vi x13.B, vi x13.A]), (40, vi s14.1), (45, vb x13.Same)], [(7, .arr 2 1 s14.2.length (s14.2.map (eI .i64))), (10, .box [vi x13.A, vi x13.B, vb x13.Same, vs x13.Reason]), (12, .box [vi (cond (s14.1 == 0) x13.A x13.B), vi (cond (s14.1 == 0) x13.B x13.A)])]⟩ ?_
  refine SRun.cut [(45, fun b => b)] (b := x13.Same) (by kernel_rfl) (fun hb => ?_) (fun hb => ?_)
  replace h := cond_t hb h
  refine SRun.ck tbok 3 ⟨72, [(1, vl eTie aList), (7, .own 7), (8, vi s5.1), (10, .ref 10 0), (12, .ref 12 0), (19, vi aN), (20, vi s5.1), (23, vl eTie aList), (24, vi (aList.length : Int)), (25, vi s9.1), (39, .agg [vi x13.A, vi x13.B, vi x13.B, vi x13.A]), (40, vi s14.1), (45, vb true), (46, .own 7), (48, vi (cond (s14.1 == 0) x13.A x13.B))], [(7, .arr 2 1 s14.2.length (s14.2.map (eI .i64))), (10, .box [vi x13.A, vi x13.B, vb x13.Same, vs x13.Reason]), (12, .box [vi (cond (s14.1 == 0) x13.A x13.B), vi (cond (s14.1 == 0) x13.B x13.A)])]⟩ ?_
  obtain ⟨x19, hx19, h⟩ := bind_some h
  refine SRun.ls (x_index_own (d := 7) (L := s14.2) (f := (eI .i64)) (ti := ti50) (tj := ti2) (e := 2) (e' := 2) (m := 1) (k := .i64) tbok rfl hx19) ?_
  refine SRun.ls (x_load_own (d := 7) (m := 1) (j := 0) (L := s14.2) (f := (eI .i64)) (ti := ti2) (e := 2) (v := vi x19) tbok rfl hx19) ?_
  refine SRun.ck tbok 4 ⟨72, [(1, vl eTie aList), (7, .own 7), (8, vi s5.1), (10, .ref 10 0), (12, .ref 12 0), (19, vi aN), (20, vi s5.1), (23, vl eTie aList), (24, vi (aList.length : Int)), (25, vi s9.1), (39, .agg [vi x13.A, vi x13.B, vi x13.B, vi x13.A]), (40, vi s14.1), (54, vb (x19 == s5.1))], [(7, .arr 2 1 s14.2.length (s14.2.map (eI .i64))), (10, .box [vi x13.A, vi x13.B, vb x13.Same, vs x13.Reason]), (12, .box [vi (cond (s14.1 == 0) x13.A x13.B), vi (cond (s14.1 == 0) x13.B x13.A)])]⟩ ?_
  refine SRun.cut [(54, fun b => b)] (b := (x19 == s5.1)) (by kernel_rfl) (fun hb => ?_) (fun hb => ?_)
  replace h := cond_t hb h
  refine SRun.ck tbok 3 ⟨72, [(1, vl eTie aList), (7, .own 7), (8, vi s5.1), (10, .ref 10 0), (12, .ref 12 0), (19, vi aN), (20, vi s5.1), (23, vl eTie aList), (24, vi (aList.length : Int)), (25, vi s9.1), (39, .agg [vi x13.A, vi x13.B, vi x13.B, vi x13.A]), (40, vi s14.1), (54, vb true), (55, .own 7), (57, vi (cond (s14.1 == 0) x13.B x13.A))], [(7, .arr 2 1 s14.2.length (s14.2.map (eI .i64))), (10, .box [vi x13.A, vi x13.B, vb x13.Same, vs x13.Reason]), (12, .box [vi (cond (s14.1 == 0) x13.A x13.B), vi (cond (s14.1 == 0) x13.B x13.A)])]⟩ ?_
  obtain ⟨x20, hx20, h⟩ := bind_some h
  refine SRun.ls (x_index_own (d := 7) (L := s14.2) (f := (eI .i64)) (ti := ti50) (tj := ti2) (e := 2) (e' := 2) (m := 1) (k := .i64) tbok rfl hx20) ?_
  refine SRun.ls (x_load_own (d := 7) (m := 1) (j := 0) (L := s14.2) (f := (eI .i64)) (ti := ti2) (e := 2) (v := vi x20) tbok rfl hx20) ?_
  refine SRun.ck tbok 2 ⟨72, [(1, vl eTie aList), (7, .own 7), (8, vi s5.1), (10, .ref 10 0), (12, .ref 12 0), (19, vi aN), (20, vi s5.1), (23, vl eTie aList), (24, vi (aList.length : Int)), (25, vi s9.1), (39, .agg [vi x13.A, vi x13.B, vi x13.B, vi x13.A]), (40, vi s14.1), (61, vb (decide (x20 < 0)))], [(7, .arr 2 1 s14.2.length (s14.2.map (eI .i64))), (10, .box [vi x13.A, vi x13.B, vb x13.Same, vs x13.Reason]), (12, .box [vi (cond (s14.1 == 0) x13.A x13.B), vi (cond (s14.1 == 0) x13.B x13.A)])]⟩ ?_
  refine SRun.nil ?_
  replace h := Option.some.inj h
  subst h
  exact Le.sub0
  replace h := cond_f hb h
  refine SRun.ck tbok 7 ⟨72, [(1, vl eTie aList), (7, .own 7), (8, vi s5.1), (10, .ref 10 0), (12, .ref 12 0), (19, vi aN), (20, vi s5.1), (23, vl eTie aList), (24, vi (aList.length : Int)), (25, vi s9.1), (39, .agg [vi x13.A, vi x13.B, vi x13.B, vi x13.A]), (40, vi s14.1), (61, vb false)], [(7, .arr 2 1 s14.2.length (s14.2.map (eI .i64))), (10, .box [vi x13.A, vi x13.B, vb x13.Same, vs x13.Reason]), (12, .box [vi (cond (s14.1 == 0) x13.A x13.B), vi (cond (s14.1 == 0) x13.B x13.A)])]⟩ ?_
  refine SRun.nil ?_
  replace h := Option.some.inj h
  subst h
  exact Le.sub0
  replace h := cond_f hb h
  refine SRun.ck tbok 16 ⟨72, [(1, vl eTie aList), (7, .own 7), (8, vi s5.1), (10, .ref 10 0), (12, .ref 12 0), (19, vi aN), (20, vi s5.1), (23, vl eTie aList), (24, vi (aList.length : Int)), (25, vi s9.1), (39, .agg [vi x13.A, vi x13.B, vi x13.B, vi x13.A]), (40, vi s14.1), (61, vb false)], [(7, .arr 2 1 s14.2.length (s14.2.map (eI .i64))), (10, .box [vi x13.A, vi x13.B, vb x13.Same, vs x13.Reason]), (12, .box [vi (cond (s14.1 == 0) x13.A x13.B), vi (cond (s14.1 == 0) x13.B x13.A)])]⟩ ?_
  refine SRun.nil ?_
  replace h := Option.some.inj h
  subst h
  exact Le.sub0
  refine swp_cond (b := j21) (by kernel_rfl) (fun hb => ?_) (fun hb => ?_)
  replace h := cond_t hb h
  refine swp_reg ?_
  refine SRun.ck tbok 5 ⟨72, [(1, vl eTie aList), (7, .own 7), (8, vi s5.1), (10, .ref 10 0), (19, vi aN), (20, vi s5.1), (23, vl eTie aList), (24, vi (aList.length : Int)), (25, vi s9.1), (39, .agg [vi x13.A, vi x13.B, vi x13.B, vi x13.A]), (40, vi s14.1), (62, .own 7), (64, vi (cond (s14.1 == 0) x13.B x13.A)), (66, vi (w64 (s5.1 + 1)))], [(7, .arr 2 1 s14.2.length (s14.2.map (eI .i64))), (10, .box [vi x13.A, vi x13.B, vb x13.Same, vs x13.Reason])]⟩ ?_
  obtain ⟨x23, hx23, h⟩ := bind_some h
  refine SRun.ls (x_index_own (d := 7) (L := s14.2) (f := (eI .i64)) (ti := ti50) (tj := ti2) (e := 2) (e' := 2) (m := 1) (k := .i64) tbok rfl hx23) ?_
  refine SRun.estep (x_store_own (d := 7) (m := 1) (j := 0) (L := s14.2) (f := (eI .i64)) (x := (w64 (s5.1 + 1))) (z := x23) (ti := ti2) (e := 2) (ts := [.int .i64 (w64 (s5.1 + 1))]) (vs := [vi (w64 (s5.1 + 1))]) (v := vi (w64 (s5.1 + 1))) tbok rfl rfl hx23) ?_
  refine SRun.nil ?_
  replace h := Option.some.inj h
  subst h
  exact q_bn (q_j (Le.sub0))
  replace h := cond_f hb h
  refine swp_skip ?_
  replace h := Option.some.inj h
  subst h
  exact q_bn (q_j (Le.sub0))
  refine swp_reg ?_
  refine SRun.ck tbok 2 ⟨72, [(1, vl eTie aList), (7, .own 7), (8, vi s5.1), (10, .ref 10 0), (19, vi aN), (20, vi s5.1), (23, vl eTie aList), (24, vi (aList.length : Int)), (25, vi s9.1), (39, .agg [vi x13.A, vi x13.B, vi x13.B, vi x13.A]), (40, vi (w64 (s14.1 + 1)))], [(7, .arr 2 1 j16.length (j16.map (eI .i64))), (10, .box [vi x13.A, vi x13.B, vb x13.Same, vs x13.Reason])]⟩ ?_
  refine SRun.nil ?_
  replace h := Option.some.inj h
  subst h
  exact q_l (Le.sub0)
  replace h := cond_f hb h
  refine swp_exit ?_
  replace h := Option.some.inj h
  subst h
  exact nx_e (q_re (q_bh (q_bn (q_j (Le.sub0)))))
  refine swp_reg ?_
  refine SRun.ck tbok 2 ⟨72, [(1, vl eTie aList), (7, .own 7), (8, vi s5.1), (19, vi aN), (20, vi s5.1), (23, vl eTie aList), (24, vi (aList.length : Int)), (25, vi (w64 (s9.1 + 1)))], [(7, .arr 2 1 j11.length (j11.map (eI .i64)))]⟩ ?_
  refine SRun.nil ?_
  replace h := Option.some.inj h
  subst h
  exact q_l (Le.sub0)
  replace h := cond_f hb h
  refine swp_exit ?_
  replace h := Option.some.inj h
  subst h
  exact nx_e (q_re (q_bh (q_bn (q_j (Le.sub0)))))
  refine swp_reg ?_
  refine SRun.ck tbok 2 ⟨72, [(1, vl eTie aList), (7, .own 7), (19, vi aN), (20, vi (w64 (s5.1 + 1)))], [(7, .arr 2 1 j7.length (j7.map (eI .i64)))]⟩ ?_
  refine SRun.nil ?_
  replace h := Option.some.inj h
  subst h
  exact q_l (Le.sub0)
  replace h := cond_f hb h
  refine swp_exit ?_
  replace h := Option.some.inj h
  subst h
  exact nx_e (q_re (q_bh (q_j (Le.sub0))))
  refine swp_seq ?_
  refine swp_reg ?_
  refine SRun.ck tbok 2 ⟨72, [(6, .own 7)], [(7, .arr 2 1 j3.length (j3.map (eI .i64)))]⟩ ?_
  refine SRun.nil ?_
  refine nx_n ?_
  refine swp_ret ?_
  replace h := Option.some.inj h
  subst h
  exact q_fr (fin1 (by kernel_rfl) (finO (d := 7) (holds_t (by kernel_rfl)) (by kernel_rfl) (flat_map (eI_flat .i64) _) (by kernel_rfl)))
theorem ents56 : Ents Tryd.prog 56 := ents_of Tryd.func56 (by kernel_rfl) rfl
noncomputable def impl_groupsOf (aN : Int) (aList : (List Tie)) : Option ((List (List Int))) :=
  (((forS aN (fun (i3 : Int) (s3 : (List (List Int))) => ((slices_ContainsFunc_int64_impl_groupsOf_1 s3 i3).bind fun x7 => (bif x7 then some s3 else ((impl_far aN aList i3).bind fun x8 => (((forS (x8.length : Int) (fun (i11 : Int) (s11 : (List Int)) => ((at' x8 i11).bind fun x15 => (bif (decide (x15 ≥ 0)) then ((app' s11 ([i11] : List Int)).bind fun x16 => some x16) else some s11))) (fun (s11 : (List Int)) => s11) 0 ([] : List Int))).bind fun (j9 : (List Int)) => ((app' s3 ([j9] : List (List Int))).bind fun x17 => some x17)))))) (fun (s3 : (List (List Int))) => s3) 0 ([] : List (List Int)))).bind fun (j1 : (List (List Int))) => some j1)
set_option maxRecDepth 100000 in
set_option maxHeartbeats 4000000 in
theorem impl_groupsOf_run (aN : Int) (aList : (List Tie)) (r : (List (List Int))) (h : impl_groupsOf aN aList = some r) : SCall Tryd.prog 27 [.v (vi aN), .v (vl eTie aList)] ⟨[.deep 50 1 r.length [(.sl 2 1 [.flat])] (r.map (eL (eI .i64)))], [], false⟩ := by
  refine scall_in Tryd.func27 rfl [(.tmp 4)] rfl (fun r => ⟨[.deep 50 1 r.length [(.sl 2 1 [.flat])] (r.map (eL (eI .i64)))], [], false⟩) (r := r) ?_
  unfold impl_groupsOf at h
  refine swp_seq ?_
  refine swp_reg ?_
  refine SRun.chunk tbok 1 (σ' := ⟨40, [(4, .own 4), (0, vi aN), (1, vl eTie aList)], [(4, .arr 50 1 ([] : List (List Int)).length (([] : List (List Int)).map (eL (eI .i64))))]⟩) (by kernel_rfl) ?_
  refine SRun.le (Le.deep0 (d := 4) (e := 50) (m := 1) (ss := [(.sl 2 1 [.flat])]) (by kernel_rfl) (by kernel_rfl)) ?_
  refine SRun.nil ?_
  refine nx_n ?_
  refine swp_seq ?_
  refine swp_reg ?_
  refine SRun.chunk tbok 1 (σ' := ⟨40, [(5, .own 5), (4, .own 4), (0, vi aN), (1, vl eTie aList)], [(5, .arr 50 1 ([] : List (List Int)).length (([] : List (List Int)).map (eL (eI .i64)))), (4, .deep 50 1 ([] : List (List Int)).length [(.sl 2 1 [.flat])] (([] : List (List Int)).map (eL (eI .i64))))]⟩) (by kernel_rfl) ?_
  refine SRun.le (Le.deep0 (d := 5) (e := 50) (m := 1) (ss := [(.sl 2 1 [.flat])]) (by kernel_rfl) (by kernel_rfl)) ?_
  refine SRun.nil ?_
  refine nx_n ?_
  refine swp_seq ?_
  refine swp_seq ?_
  refine swp_reg ?_
  refine SRun.ck tbok 2 ⟨40, [(0, vi aN), (1, vl eTie aList), (5, .own 5), (10, vi aN), (11, vi 0)], [(5, .deep 50 1 ([] : List (List Int)).length [(.sl 2 1 [.flat])] (([] : List (List Int)).map (eL (eI .i64))))]⟩ ?_
  refine SRun.nil ?_
  refine nx_n ?_
  refine swp_seqJ h (fun j1 => ⟨40, [(5, .own 5)], [(5, .deep 50 1 j1.length [(.sl 2 1 [.flat])] (j1.map (eL (eI .i64))))]⟩) (fun v2 h => ?_) (fun j1 h => ?_)
  refine swp_blk (a := v2) ?_
  refine swp_lpL (r := v2) (s := (0, ([] : List (List Int)))) _ (fun s3 => ⟨40, [(0, vi aN), (1, vl eTie aList), (5, .own 5), (10, vi aN), (11, vi s3.1)], [(5, .deep 50 1 s3.2.length [(.sl 2 1 [.flat])] (s3.2.map (eL (eI .i64))))]⟩) _ (Le.sub0) h (fun s3 v4 h => ?_)
  refine swp_seq ?_
  refine swp_reg ?_
  refine SRun.ck tbok 1 ⟨40, [(0, vi aN), (1, vl eTie aList), (5, .own 5), (10, vi aN), (11, vi s3.1), (12, vb (decide (s3.1 < aN)))], [(5, .deep 50 1 s3.2.length [(.sl 2 1 [.flat])] (s3.2.map (eL (eI .i64))))]⟩ ?_
  refine SRun.nil ?_
  refine nx_n ?_
  refine swp_seq ?_
  refine swp_cond (b := (decide (s3.1 < aN))) (by kernel_rfl) (fun hb => ?_) (fun hb => ?_)
  replace h := cond_t hb h
  refine swp_skip ?_
  refine nx_n ?_
  refine swp_seq ?_
  refine swp_seqJ h (fun j5 => ⟨40, [(0, vi aN), (1, vl eTie aList), (5, .own 5), (10, vi aN), (11, vi s3.1)], [(5, .deep 50 1 j5.length [(.sl 2 1 [.flat])] (j5.map (eL (eI .i64))))]⟩) (fun v6 h => ?_) (fun j5 h => ?_)
  refine swp_blk (a := v6) ?_
  refine swp_seq ?_
  refine swp_reg ?_
  refine SRun.ck tbok 2 ⟨40, [(0, vi aN), (1, vl eTie aList), (5, .own 5), (6, .ref 6 0), (10, vi aN), (11, vi s3.1), (13, vi s3.1)], [(5, .deep 50 1 s3.2.length [(.sl 2 1 [.flat])] (s3.2.map (eL (eI .i64)))), (6, .box [vi 0])]⟩ ?_
  refine SRun.estep (x_estep_store (d := 6) (k := 0) (ti := ti2) (cs := [vi 0]) (vs := [vi s3.1]) (v := vi s3.1) tbok rfl rfl) ?_
  refine SRun.nil ?_
  refine nx_n ?_
  refine swp_seq ?_
  refine swp_seq ?_
  refine swp_reg ?_
  refine SRun.ck tbok 2 ⟨40, [(0, vi aN), (1, vl eTie aList), (5, .own 5), (6, .ref 6 0), (10, vi aN), (11, vi s3.1), (14, .own 5), (15, .clo 54 [.ref 6 0])], [(5, .deep 50 1 s3.2.length [(.sl 2 1 [.flat])] (s3.2.map (eL (eI .i64)))), (6, .box [vi s3.1])]⟩ ?_
  obtain ⟨x7, hx7, h⟩ := bind_some h
  refine SRun.ls (x_lstep_call (f := 53) (caps := []) (xs := [.own 5, .clo 54 [.ref 6 0]]) (ys := [vl (eL (eI .i64)) s3.2, .clo 54 [.ptr [vi s3.1] 0]]) (res := ⟨[.v (vb x7)], [], false⟩) (x := vb x7) (y := none) rfl ents53 (slices_ContainsFunc_int64_impl_groupsOf_1_run s3.2 s3.1 _ hx7) rfl (by intro hc; cases hc)) ?_
  refine SRun.nil ?_
  refine nx_n ?_
  refine swp_cond (b := x7) (by kernel_rfl) (fun hb => ?_) (fun hb => ?_)
  replace h := cond_t hb h
  refine swp_exit ?_
  replace h := Option.some.inj h
  subst h
  exact nx_e (q_bh (q_j (Le.sub0)))
  replace h := cond_f hb h
  refine swp_skip ?_
  refine nx_n ?_
  refine swp_seq ?_
  refine swp_reg ?_
  refine SRun.ck tbok 1 ⟨40, [(0, vi aN), (1, vl eTie aList), (5, .own 5), (6, .ref 6 0), (7, .own 7), (10, vi aN), (11, vi s3.1)], [(5, .deep 50 1 s3.2.length [(.sl 2 1 [.flat])] (s3.2.map (eL (eI .i64)))), (6, .box [vi s3.1]), (7, .arr 2 1 ([] : List Int).length (([] : List Int).map (eI .i64)))]⟩ ?_
  refine SRun.nil ?_
  refine nx_n ?_
  refine swp_seq ?_
  refine swp_seq ?_
  refine swp_reg ?_
  refine SRun.ck tbok 3 ⟨40, [(0, vi aN), (1, vl eTie aList), (5, .own 5), (7, .own 7), (10, vi aN), (11, vi s3.1), (17, vi aN), (18, vl eTie aList), (19, vi s3.1)], [(5, .deep 50 1 s3.2.length [(.sl 2 1 [.flat])] (s3.2.map (eL (eI .i64)))), (7, .arr 2 1 ([] : List Int).length (([] : List Int).map (eI .i64)))]⟩ ?_
  obtain ⟨x8, hx8, h⟩ := bind_some h
  refine SRun.ls (x_lstep_call (f := 56) (caps := []) (xs := [vi aN, vl eTie aList, vi s3.1]) (ys := [vi aN, vl eTie aList, vi s3.1]) (res := ⟨[.own 2 1 x8.length (x8.map (eI .i64))], [], false⟩) (x := .own 20) (y := some (.arr 2 1 x8.length (x8.map (eI .i64)))) rfl ents56 (impl_far_run aN aList s3.1 _ hx8) rfl (by intro hc; cases hc)) ?_
  refine SRun.ck tbok 2 ⟨40, [(0, vi aN), (1, vl eTie aList), (5, .own 5), (7, .own 7), (10, vi aN), (11, vi s3.1), (20, .own 20), (21, vi (x8.length : Int)), (22, vi 0)], [(5, .deep 50 1 s3.2.length [(.sl 2 1 [.flat])] (s3.2.map (eL (eI .i64)))), (7, .arr 2 1 ([] : List Int).length (([] : List Int).map (eI .i64))), (20, .arr 2 1 x8.length (x8.map (eI .i64)))]⟩ ?_
  refine SRun.nil ?_
  refine nx_n ?_
  refine swp_seqJ h (fun j9 => ⟨40, [(0, vi aN), (1, vl eTie aList), (5, .own 5), (7, .own 7), (10, vi aN), (11, vi s3.1)], [(5, .deep 50 1 s3.2.length [(.sl 2 1 [.flat])] (s3.2.map (eL (eI .i64)))), (7, .arr 2 1 j9.length (j9.map (eI .i64)))]⟩) (fun v10 h => ?_) (fun j9 h => ?_)
  refine swp_blk (a := v10) ?_
  refine swp_lpL (r := v10) (s := (0, ([] : List Int))) _ (fun s11 => ⟨40, [(0, vi aN), (1, vl eTie aList), (5, .own 5), (7, .own 7), (10, vi aN), (11, vi s3.1), (20, .own 20), (21, vi (x8.length : Int)), (22, vi s11.1)], [(5, .deep 50 1 s3.2.length [(.sl 2 1 [.flat])] (s3.2.map (eL (eI .i64)))), (7, .arr 2 1 s11.2.length (s11.2.map (eI .i64))), (20, .arr 2 1 x8.length (x8.map (eI .i64)))]⟩) _ (Le.sub0) h (fun s11 v12 h => ?_)
  refine swp_seq ?_
  refine swp_reg ?_
  refine SRun.ck tbok 1 ⟨40, [(0, vi aN), (1, vl eTie aList), (5, .own 5), (7, .own 7), (10, vi aN), (11, vi s3.1), (20, .own 20), (21, vi (x8.length : Int)), (22, vi s11.1), (23, vb (decide (s11.1 < (x8.length : Int))))], [(5, .deep 50 1 s3.2.length [(.sl 2 1 [.flat])] (s3.2.map (eL (eI .i64)))), (7, .arr 2 1 s11.2.length (s11.2.map (eI .i64))), (20, .arr 2 1 x8.length (x8.map (eI .i64)))]⟩ ?_
  refine SRun.nil ?_
  refine nx_n ?_
  refine swp_seq ?_
  refine swp_cond (b := (decide (s11.1 < (x8.length : Int)))) (by kernel_rfl) (fun hb => ?_) (fun hb => ?_)
  replace h := cond_t hb h
  refine swp_skip ?_
  refine nx_n ?_
  refine swp_seq ?_
  refine swp_seqJ h (fun j13 => ⟨40, [(0, vi aN), (1, vl eTie aList), (5, .own 5), (7, .own 7), (10, vi aN), (11, vi s3.1), (20, .own 20), (21, vi (x8.length : Int)), (22, vi s11.1)], [(5, .deep 50 1 s3.2.length [(.sl 2 1 [.flat])] (s3.2.map (eL (eI .i64)))), (7, .arr 2 1 j13.length (j13.map (eI .i64))), (20, .arr 2 1 x8.length (x8.map (eI .i64)))]⟩) (fun v14 h => ?_) (fun j13 h => ?_)
  refine swp_blk (a := v14) ?_
  refine swp_seq ?_
  refine swp_reg ?_
  refine SRun.ck tbok 1 ⟨40, [(0, vi aN), (1, vl eTie aList), (5, .own 5), (7, .own 7), (10, vi aN), (11, vi s3.1), (20, .own 20), (21, vi (x8.length : Int)), (22, vi s11.1), (24, vi s11.1)], [(5, .deep 50 1 s3.2.length [(.sl 2 1 [.flat])] (s3.2.map (eL (eI .i64)))), (7, .arr 2 1 s11.2.length (s11.2.map (eI .i64))), (20, .arr 2 1 x8.length (x8.map (eI .i64)))]⟩ ?_
  obtain ⟨x15, hx15, h⟩ := bind_some h
  refine SRun.ls (x_index_own (d := 20) (L := x8) (f := (eI .i64)) (ti := ti50) (tj := ti2) (e := 2) (e' := 2) (m := 1) (k := .i64) tbok rfl hx15) ?_
  refine SRun.ls (x_load_own (d := 20) (m := 1) (j := 0) (L := x8) (f := (eI .i64)) (ti := ti2) (e := 2) (v := vi x15) tbok rfl hx15) ?_
  refine SRun.ck tbok 2 ⟨40, [(0, vi aN), (1, vl eTie aList), (5, .own 5), (7, .own 7), (8, vi s11.1), (9, vi x15), (10, vi aN), (11, vi s3.1), (20, .own 20), (21, vi (x8.length : Int)), (22, vi s11.1)], [(5, .deep 50 1 s3.2.length [(.sl 2 1 [.flat])] (s3.2.map (eL (eI .i64)))), (7, .arr 2 1 s11.2.length (s11.2.map (eI .i64))), (20, .arr 2 1 x8.length (x8.map (eI .i64)))]⟩ ?_
  refine SRun.nil ?_
  refine nx_n ?_
  refine swp_seq ?_
  refine swp_reg ?_
  refine SRun.ck tbok 2 ⟨40, [(0, vi aN), (1, vl eTie aList), (5, .own 5), (7, .own 7), (8, vi s11.1), (10, vi aN), (11, vi s3.1), (20, .own 20), (21, vi (x8.length : Int)), (22, vi s11.1), (28, vb (decide (x15 ≥ 0)))], [(5, .deep 50 1 s3.2.length [(.sl 2 1 [.flat])] (s3.2.map (eL (eI .i64)))), (7, .arr 2 1 s11.2.length (s11.2.map (eI .i64))), (20, .arr 2 1 x8.length (x8.map (eI .i64)))]⟩ ?_
  refine SRun.nil ?_
  refine nx_n ?_
  refine swp_cond (b := (decide (x15 ≥ 0))) (by kernel_rfl) (fun hb => ?_) (fun hb => ?_)
  replace h := cond_t hb h
  refine swp_reg ?_
  refine SRun.ck tbok 3 ⟨40, [(0, vi aN), (1, vl eTie aList), (5, .own 5), (10, vi aN), (11, vi s3.1), (20, .own 20), (21, vi (x8.length : Int)), (22, vi s11.1), (29, .own 7), (31, .own 31)], [(5, .deep 50 1 s3.2.length [(.sl 2 1 [.flat])] (s3.2.map (eL (eI .i64)))), (7, .arr 2 1 s11.2.length (s11.2.map (eI .i64))), (20, .arr 2 1 x8.length (x8.map (eI .i64))), (31, .arr 2 1 ([s11.1] : List Int).length (([s11.1] : List Int).map (eI .i64)))]⟩ ?_
  obtain ⟨x16, hx16, h⟩ := bind_some h
  refine SRun.estep (x_append (f := (eI .i64)) (t := 50) (ti := ti50) (tj := ti2) (zs := [.int .i64 0]) (e := 2) (m := 1) (d := 7) (xv := .own 31) hx16 tbok rfl rfl rfl rfl (x_src_o (e := 2))) ?_
  refine SRun.ck tbok 1 ⟨40, [(0, vi aN), (1, vl eTie aList), (5, .own 5), (7, .own 32), (10, vi aN), (11, vi s3.1), (20, .own 20), (21, vi (x8.length : Int)), (22, vi s11.1)], [(5, .deep 50 1 s3.2.length [(.sl 2 1 [.flat])] (s3.2.map (eL (eI .i64)))), (20, .arr 2 1 x8.length (x8.map (eI .i64))), (32, .arr 2 1 x16.length (x16.map (eI .i64)))]⟩ ?_
  refine SRun.nil ?_
  replace h := Option.some.inj h
  subst h
  exact q_bn (q_j ((Le.sub' ([(0, vi aN), (1, vl eTie aList), (5, .own 5), (7, .own 32), (10, vi aN), (11, vi s3.1), (20, .own 20), (21, vi (x8.length : Int)), (22, vi s11.1)] : List (Nat × SV)) ([(5, .deep 50 1 s3.2.length [(.sl 2 1 [.flat])] (s3.2.map (eL (eI .i64)))), (20, .arr 2 1 x8.length (x8.map (eI .i64))), (32, .arr 2 1 x16.length (x16.map (eI .i64)))] : List (Nat × SO)) (by kernel_rfl) (by kernel_rfl)).trans ((Le.ren' (d := 32) (e := 7) (by kernel_rfl) (by kernel_rfl) (by kernel_rfl)).trans (Le.sub0))))
  replace h := cond_f hb h
  refine swp_skip ?_
  replace h := Option.some.inj h
  subst h
  exact q_bn (q_j (Le.sub0))
  refine swp_reg ?_
  refine SRun.ck tbok 2 ⟨40, [(0, vi aN), (1, vl eTie aList), (5, .own 5), (7, .own 7), (10, vi aN), (11, vi s3.1), (20, .own 20), (21, vi (x8.length : Int)), (22, vi (w64 (s11.1 + 1)))], [(5, .deep 50 1 s3.2.length [(.sl 2 1 [.flat])] (s3.2.map (eL (eI .i64)))), (7, .arr 2 1 j13.length (j13.map (eI .i64))), (20, .arr 2 1 x8.length (x8.map (eI .i64)))]⟩ ?_
  refine SRun.nil ?_
  replace h := Option.some.inj h
  subst h
  exact q_l (Le.sub0)
  replace h := cond_f hb h
  refine swp_exit ?_
  replace h := Option.some.inj h
  subst h
  exact nx_e (q_re (q_bh (q_j (Le.sub0))))
  refine swp_reg ?_
  refine SRun.ck tbok 2 ⟨40, [(0, vi aN), (1, vl eTie aList), (10, vi aN), (11, vi s3.1), (34, .own 5), (35, .own 7)], [(5, .deep 50 1 s3.2.length [(.sl 2 1 [.flat])] (s3.2.map (eL (eI .i64)))), (7, .arr 2 1 j9.length (j9.map (eI .i64)))]⟩ ?_
  refine SRun.estep (x_build_deep (ti := ti24) (tj := ti50) (e := 50) (m := 1) (zs := [.slice none 0 0]) (v := .own 7) (cs := [.own 7]) (ss := [(.sl 2 1 [.flat])]) (ts := [.sl j9.length (j9.map (eI .i64))]) (ds := [7]) tbok rfl rfl rfl (.cons _ _ _ [7] _ _ _ _ (cD_arr (d := 7) (e := 2) (m := 1) (n := j9.length) (es := j9.map (eI .i64)) (ss := [.flat]) (flat_map (eI_flat .i64) _)) .nil (by decide))) ?_
  obtain ⟨x17, hx17, h⟩ := bind_some h
  refine SRun.estep (x_append_deep (f := (eL (eI .i64))) (L := s3.2) (M := ([j9] : List (List Int))) (t := 24) (ti := ti24) (tj := ti50) (zs := [.slice none 0 0]) (e := 50) (m := 1) (d := 5) (dx := 36) (ss := [(.sl 2 1 [.flat])]) hx17 tbok rfl rfl rfl rfl) ?_
  refine SRun.ck tbok 1 ⟨40, [(0, vi aN), (1, vl eTie aList), (5, .own 37), (10, vi aN), (11, vi s3.1)], [(37, .deep 50 1 x17.length [(.sl 2 1 [.flat])] (x17.map (eL (eI .i64))))]⟩ ?_
  refine SRun.nil ?_
  replace h := Option.some.inj h
  subst h
  exact q_bn (q_j ((Le.sub' ([(0, vi aN), (1, vl eTie aList), (5, .own 37), (10, vi aN), (11, vi s3.1)] : List (Nat × SV)) ([(37, .deep 50 1 x17.length [(.sl 2 1 [.flat])] (x17.map (eL (eI .i64))))] : List (Nat × SO)) (by kernel_rfl) (by kernel_rfl)).trans ((Le.ren' (d := 37) (e := 5) (by kernel_rfl) (by kernel_rfl) (by kernel_rfl)).trans (Le.sub0))))
  refine swp_reg ?_
  refine SRun.ck tbok 2 ⟨40, [(0, vi aN), (1, vl eTie aList), (5, .own 5), (10, vi aN), (11, vi (w64 (s3.1 + 1)))], [(5, .deep 50 1 j5.length [(.sl 2 1 [.flat])] (j5.map (eL (eI .i64))))]⟩ ?_
  refine SRun.nil ?_
  replace h := Option.some.inj h
  subst h
  exact q_l (Le.sub0)
  replace h := cond_f hb h
  refine swp_exit ?_
  replace h := Option.some.inj h
  subst h
  exact nx_e (q_re (q_bh (q_j (Le.sub0))))
  refine swp_seq ?_
  refine swp_reg ?_
  refine SRun.ck tbok 2 ⟨40, [(4, .own 5)], [(5, .deep 50 1 j1.length [(.sl 2 1 [.flat])] (j1.map (eL (eI .i64))))]⟩ ?_
  refine SRun.nil ?_
  refine nx_n ?_
  refine swp_ret ?_
  replace h := Option.some.inj h
  subst h
  exact q_fr (fin1 (by kernel_rfl) (finD (d := 5) (holds_t (by kernel_rfl)) (by kernel_rfl) (by kernel_rfl)))
theorem ents27 : Ents Tryd.prog 27 := ents_of Tryd.func27 (by kernel_rfl) rfl
noncomputable def impl_GroupsOf (aN : Int) (aList : (List Tie)) : Option ((List (List Int)) × Int) :=
  ((impl_AreTies aN aList).bind fun x1 => (bif (!x1) then some (([] : List (List Int)), 1) else ((impl_groupsOf aN aList).bind fun x2 => some (x2, 0))))
set_option maxRecDepth 100000 in
set_option maxHeartbeats 4000000 in
theorem impl_GroupsOf_run (aN : Int) (aList : (List Tie)) (r : (List (List Int)) × Int) (h : impl_GroupsOf aN aList = some r) : SCall Tryd.prog 9 [.v (vi aN), .v (vl eTie aList)] ⟨[.deep 50 1 r.1.length [(.sl 2 1 [.flat])] (r.1.map (eL (eI .i64))), .v (vi r.2)], [], false⟩ := by
  refine scall_in Tryd.func9 rfl [(.tmp 4), (.tmp 5)] rfl (fun r => ⟨[.deep 50 1 r.1.length [(.sl 2 1 [.flat])] (r.1.map (eL (eI .i64))), .v (vi r.2)], [], false⟩) (r := r) ?_
  unfold impl_GroupsOf at h
  refine swp_seq ?_
  refine swp_reg ?_
  refine SRun.chunk tbok 1 (σ' := ⟨13, [(4, .own 4), (0, vi aN), (1, vl eTie aList)], [(4, .arr 50 1 ([] : List (List Int)).length (([] : List (List Int)).map (eL (eI .i64))))]⟩) (by kernel_rfl) ?_
  refine SRun.le (Le.deep0 (d := 4) (e := 50) (m := 1) (ss := [(.sl 2 1 [.flat])]) (by kernel_rfl) (by kernel_rfl)) ?_
  refine SRun.ck tbok 1 ⟨13, [(0, vi aN), (1, vl eTie aList)], []⟩ ?_
  refine SRun.nil ?_
  refine nx_n ?_
  refine swp_seq ?_
  refine swp_seq ?_
  refine swp_reg ?_
  refine SRun.ck tbok 2 ⟨13, [(0, vi aN), (1, vl eTie aList), (6, vi aN), (7, vl eTie aList)], []⟩ ?_
  obtain ⟨x1, hx1, h⟩ := bind_some h
  refine SRun.ls (x_lstep_call (f := 26) (caps := []) (xs := [vi aN, vl eTie aList]) (ys := [vi aN, vl eTie aList]) (res := ⟨[.v (vb x1)], [], false⟩) (x := vb x1) (y := none) rfl ents26 (impl_AreTies_run aN aList _ hx1) rfl (by intro hc; cases hc)) ?_
  refine SRun.ck tbok 1 ⟨13, [(0, vi aN), (1, vl eTie aList), (9, vb (!x1))], []⟩ ?_
  refine SRun.nil ?_
  refine nx_n ?_
  refine swp_cond (b := (!x1)) (by kernel_rfl) (fun hb => ?_) (fun hb => ?_)
  replace h := cond_t hb h
  refine swp_seq ?_
  refine swp_reg ?_
  refine SRun.chunk tbok 1 (σ' := ⟨13, [(4, .own 4), (0, vi aN), (1, vl eTie aList), (9, vb (!x1))], [(4, .arr 50 1 ([] : List (List Int)).length (([] : List (List Int)).map (eL (eI .i64))))]⟩) (by kernel_rfl) ?_
  refine SRun.le (Le.deep0 (d := 4) (e := 50) (m := 1) (ss := [(.sl 2 1 [.flat])]) (by kernel_rfl) (by kernel_rfl)) ?_
  refine SRun.ck tbok 1 ⟨13, [(4, .own 4), (5, vi 1)], [(4, .deep 50 1 ([] : List (List Int)).length [(.sl 2 1 [.flat])] (([] : List (List Int)).map (eL (eI .i64))))]⟩ ?_
  refine SRun.nil ?_
  refine nx_n ?_
  refine swp_ret ?_
  replace h := Option.some.inj h
  subst h
  exact nx_r (q_fr (fin2 (by kernel_rfl) (finD (d := 4) (holds_t (by kernel_rfl)) (by kernel_rfl) (by kernel_rfl)) (finV rfl SV.flat_of (holds_t (by kernel_rfl)))))
  replace h := cond_f hb h
  refine swp_skip ?_
  refine nx_n ?_
  refine swp_seq ?_
  refine swp_reg ?_
  refine SRun.ck tbok 2 ⟨13, [(10, vi aN), (11, vl eTie aList)], []⟩ ?_
  obtain ⟨x2, hx2, h⟩ := bind_some h
  refine SRun.ls (x_lstep_call (f := 27) (caps := []) (xs := [vi aN, vl eTie aList]) (ys := [vi aN, vl eTie aList]) (res := ⟨[.deep 50 1 x2.length [(.sl 2 1 [.flat])] (x2.map (eL (eI .i64)))], [], false⟩) (x := .own 12) (y := some (.deep 50 1 x2.length [(.sl 2 1 [.flat])] (x2.map (eL (eI .i64))))) rfl ents27 (impl_groupsOf_run aN aList _ hx2) rfl (by intro hc; cases hc)) ?_
  refine SRun.ck tbok 2 ⟨13, [(4, .own 12), (5, vi 0)], [(12, .deep 50 1 x2.length [(.sl 2 1 [.flat])] (x2.map (eL (eI .i64))))]⟩ ?_
  refine SRun.nil ?_
  refine nx_n ?_
  refine swp_ret ?_
  replace h := Option.some.inj h
  subst h
  exact q_fr (fin2 (by kernel_rfl) (finD (d := 12) (holds_t (by kernel_rfl)) (by kernel_rfl) (by kernel_rfl)) (finV rfl SV.flat_of (holds_t (by kernel_rfl))))
theorem ents9 : Ents Tryd.prog 9 := ents_of Tryd.func9 (by kernel_rfl) rfl
noncomputable def laws_eqInt64S (aA : (List Int)) (aB : (List Int)) : Option (Bool) :=
  (bif ((aA.length : Int) != (aB.length : Int)) then some false else (((forN (aA.length : Int) (fun (i3 : Int) (_ : Unit) => ((at' aA i3).bind fun x7 => ((at' aB i3).bind fun x8 => (bif (x7 != x8) then some (.inr (.inr false)) else some (.inl ()))))) (fun (_ : Unit) => .inl ()) 0 ())).bind (Sum.elim (fun (_ : Unit) => some true) some)))
set_option maxRecDepth 100000 in
set_option maxHeartbeats 4000000 in
theorem laws_eqInt64S_run (aA : (List Int)) (aB : (List Int)) (r : Bool) (h : laws_eqInt64S aA aB = some r) : SCall Tryd.prog 28 [.v (vl (eI .i64) aA), .v (vl (eI .i64) aB)] ⟨[.v (vb r)], [], false⟩ := by
  refine scall_in Tryd.func28 rfl [(.tmp 4)] rfl (fun r => ⟨[.v (vb r)], [], false⟩) (r := r) ?_
  unfold laws_eqInt64S at h
  refine swp_seq ?_
  refine swp_reg ?_
  refine SRun.ck tbok 1 ⟨26, [(0, vl (eI .i64) aA), (1, vl (eI .i64) aB)], []⟩ ?_
  refine SRun.nil ?_
  refine nx_n ?_
  refine swp_seq ?_
  refine swp_seq ?_
  refine swp_reg ?_
  refine SRun.ck tbok 5 ⟨26, [(0, vl (eI .i64) aA), (1, vl (eI .i64) aB), (10, vb ((aA.length : Int) != (aB.length : Int)))], []⟩ ?_
  refine SRun.nil ?_
  refine nx_n ?_
  refine swp_cond (b := ((aA.length : Int) != (aB.length : Int))) (by kernel_rfl) (fun hb => ?_) (fun hb => ?_)
  replace h := cond_t hb h
  refine swp_seq ?_
  refine swp_reg ?_
  refine SRun.ck tbok 1 ⟨26, [(4, vb false)], []⟩ ?_
  refine SRun.nil ?_
  refine nx_n ?_
  refine swp_ret ?_
  replace h := Option.some.inj h
  subst h
  exact nx_r (q_fr (fin1 (by kernel_rfl) (finV rfl SV.flat_of (holds_t (by kernel_rfl)))))
  replace h := cond_f hb h
  refine swp_skip ?_
  refine nx_n ?_
  refine swp_seq ?_
  refine swp_seq ?_
  refine swp_reg ?_
  refine SRun.ck tbok 1 ⟨26, [(0, vl (eI .i64) aA), (1, vl (eI .i64) aB), (5, vi 0)], []⟩ ?_
  refine SRun.nil ?_
  refine nx_n ?_
  refine swp_seqE (r := r) h (fun j1 => ⟨26, [], []⟩) (fun v2 h => ?_) (fun j1 h => ?_)
  refine swp_blk (a := v2) ?_
  refine swp_lpL (r := v2) (s := (0, ())) _ (fun s3 => ⟨26, [(0, vl (eI .i64) aA), (1, vl (eI .i64) aB), (5, vi s3.1)], []⟩) _ (Le.sub0) h (fun s3 v4 h => ?_)
  refine swp_seq ?_
  refine swp_seq ?_
  refine swp_reg ?_
  refine SRun.ck tbok 4 ⟨26, [(0, vl (eI .i64) aA), (1, vl (eI .i64) aB), (5, vi s3.1), (14, vb (decide (s3.1 < (aA.length : Int))))], []⟩ ?_
  refine SRun.nil ?_
  refine nx_n ?_
  refine swp_cond (b := (decide (s3.1 < (aA.length : Int)))) (by kernel_rfl) (fun hb => ?_) (fun hb => ?_)
  replace h := cond_t hb h
  refine swp_skip ?_
  refine nx_n ?_
  refine swp_seq ?_
  refine swp_seqL (r := v4) h (fun j5 => ⟨26, [(0, vl (eI .i64) aA), (1, vl (eI .i64) aB), (5, vi s3.1)], []⟩) (fun v6 h => ?_) (fun j5 h => ?_)
  refine swp_blk (a := v6) ?_
  refine swp_seq ?_
  refine swp_dr mixed ?_
  refine DGo.chunk' tbok 2 (σ' := ⟨26, [(18, vi s3.1), (17, vl (eI .i64) aA), (0, vl (eI .i64) aA), (1, vl (eI .i64) aB), (5, vi s3.1), (14, vb (decide (s3.1 < (aA.length : Int))))], []⟩) (by kernel_rfl) ?_
  obtain ⟨x7, hx7, h⟩ := bind_some h
  refine DGo.step (x_index (L := aA) (f := (eI .i64)) (ti := ti50) (tj := ti2) (e := 2) (k := .i64) tbok rfl hx7) ?_
  refine DGo.chunk' tbok 3 (σ' := ⟨26, [(22, vi s3.1), (21, vl (eI .i64) aB), (20, vi x7), (19, .ptr (((eI .i64) x7).map .tr) 0), (18, vi s3.1), (17, vl (eI .i64) aA), (0, vl (eI .i64) aA), (1, vl (eI .i64) aB), (5, vi s3.1), (14, vb (decide (s3.1 < (aA.length : Int))))], []⟩) (by kernel_rfl) ?_
  obtain ⟨x8, hx8, h⟩ := bind_some h
  refine DGo.step (x_index (L := aB) (f := (eI .i64)) (ti := ti50) (tj := ti2) (e := 2) (k := .i64) tbok rfl hx8) ?_
  refine DGo.chunk' tbok 2 (σ' := ⟨26, [(25, vb (x7 != x8)), (24, vi x8), (23, .ptr (((eI .i64) x8).map .tr) 0), (22, vi s3.1), (21, vl (eI .i64) aB), (20, vi x7), (19, .ptr (((eI .i64) x7).map .tr) 0), (18, vi s3.1), (17, vl (eI .i64) aA), (0, vl (eI .i64) aA), (1, vl (eI .i64) aB), (5, vi s3.1), (14, vb (decide (s3.1 < (aA.length : Int))))], []⟩) (by kernel_rfl) ?_
  refine DGo.nil (by kernel_rfl) ?_
  refine nx_n ?_
  refine swp_cond (b := (x7 != x8)) (by kernel_rfl) (fun hb => ?_) (fun hb => ?_)
  replace h := cond_t hb h
  refine swp_seq ?_
  refine swp_reg ?_
  refine SRun.ck tbok 1 ⟨26, [(4, vb false)], []⟩ ?_
  refine SRun.nil ?_
  refine nx_n ?_
  refine swp_ret ?_
  replace h := Option.some.inj h
  subst h
  exact q_br (q_rr (q_rr (q_br (q_rr (q_fr (fin1 (by kernel_rfl) (finV rfl SV.flat_of (holds_t (by kernel_rfl)))))))))
  replace h := cond_f hb h
  refine swp_skip ?_
  replace h := Option.some.inj h
  subst h
  exact q_bn (q_l (Le.sub0))
  refine swp_reg ?_
  refine SRun.ck tbok 3 ⟨26, [(0, vl (eI .i64) aA), (1, vl (eI .i64) aB), (5, vi (w64 (s3.1 + 1)))], []⟩ ?_
  refine SRun.nil ?_
  replace h := Option.some.inj h
  subst h
  exact q_l (Le.sub0)
  replace h := cond_f hb h
  refine swp_exit ?_
  replace h := Option.some.inj h
  subst h
  exact nx_e (q_re (q_bh (q_l (Le.sub0))))
  refine swp_seq ?_
  refine swp_reg ?_
  refine SRun.ck tbok 1 ⟨26, [(4, vb true)], []⟩ ?_
  refine SRun.nil ?_
  refine nx_n ?_
  refine swp_ret ?_
  replace h := Option.some.inj h
  subst h
  exact q_fr (fin1 (by kernel_rfl) (finV rfl SV.flat_of (holds_t (by kernel_rfl))))
theorem ents28 : Ents Tryd.prog 28 := ents_of Tryd.func28 (by kernel_rfl) rfl
noncomputable def laws_eqInt64SS (aA : (List (List Int))) (aB : (List (List Int))) : Option (Bool) :=
  (bif ((aA.length : Int) != (aB.length : Int)) then some false else (((forN (aA.length : Int) (fun (i3 : Int) (_ : Unit) => ((at' aA i3).bind fun x7 => ((at' aB i3).bind fun x8 => ((laws_eqInt64S x7 x8).bind fun x9 => (bif (!x9) then some (.inr (.inr false)) else some (.inl ())))))) (fun (_ : Unit) => .inl ()) 0 ())).bind (Sum.elim (fun (_ : Unit) => some true) some)))
set_option maxRecDepth 100000 in
set_option maxHeartbeats 4000000 in
theorem laws_eqInt64SS_run (aA : (List (List Int))) (aB : (List (List Int))) (r : Bool) (h : laws_eqInt64SS aA aB = some r) : SCall Tryd.prog 10 [.v (vl (eL (eI .i64)) aA), .v (vl (eL (eI .i64)) aB)] ⟨[.v (vb r)], [], false⟩ := by
  refine scall_in Tryd.func10 rfl [(.tmp 4)] rfl (fun r => ⟨[.v (vb r)], [], false⟩) (r := r) ?_
  unfold laws_eqInt64SS at h
  refine swp_seq ?_
  refine swp_reg ?_
  refine SRun.ck tbok 1 ⟨27, [(0, vl (eL (eI .i64)) aA), (1, vl (eL (eI .i64)) aB)], []⟩ ?_
  refine SRun.nil ?_
  refine nx_n ?_
  refine swp_seq ?_
  refine swp_seq ?_
  refine swp_reg ?_
  refine SRun.ck tbok 5 ⟨27, [(0, vl (eL (eI .i64)) aA), (1, vl (eL (eI .i64)) aB), (10, vb ((aA.length : Int) != (aB.length : Int)))], []⟩ ?_
  refine SRun.nil ?_
  refine nx_n ?_
  refine swp_cond (b := ((aA.length : Int) != (aB.length : Int))) (by kernel_rfl) (fun hb => ?_) (fun hb => ?_)
  replace h := cond_t hb h
  refine swp_seq ?_
  refine swp_reg ?_
  refine SRun.ck tbok 1 ⟨27, [(4, vb false)], []⟩ ?_
  refine SRun.nil ?_
  refine nx_n ?_
  refine swp_ret ?_
  replace h := Option.some.inj h
  subst h
  exact nx_r (q_fr (fin1 (by kernel_rfl) (finV rfl SV.flat_of (holds_t (by kernel_rfl)))))
  replace h := cond_f hb h
  refine swp_skip ?_
  refine nx_n ?_
  refine swp_seq ?_
  refine swp_seq ?_
  refine swp_reg ?_
  refine SRun.ck tbok 1 ⟨27, [(0, vl (eL (eI .i64)) aA), (1, vl (eL (eI .i64)) aB), (5, vi 0)], []⟩ ?_
  refine SRun.nil ?_
  refine nx_n ?_
  refine swp_seqE (r := r) h (fun j1 => ⟨27, [], []⟩) (fun v2 h => ?_) (fun j1 h => ?_)
  refine swp_blk (a := v2) ?_
  refine swp_lpL (r := v2) (s := (0, ())) _ (fun s3 => ⟨27, [(0, vl (eL (eI .i64)) aA), (1, vl (eL (eI .i64)) aB), (5, vi s3.1)], []⟩) _ (Le.sub0) h (fun s3 v4 h => ?_)
  refine swp_seq ?_
  refine swp_seq ?_
  refine swp_reg ?_
  refine SRun.ck tbok 4 ⟨27, [(0, vl (eL (eI .i64)) aA), (1, vl (eL (eI .i64)) aB), (5, vi s3.1), (14, vb (decide (s3.1 < (aA.length : Int))))], []⟩ ?_
  refine SRun.nil ?_
  refine nx_n ?_
  refine swp_cond (b := (decide (s3.1 < (aA.length : Int)))) (by kernel_rfl) (fun hb => ?_) (fun hb => ?_)
  replace h := cond_t hb h
  refine swp_skip ?_
  refine nx_n ?_
  refine swp_seq ?_
  refine swp_seqL (r := v4) h (fun j5 => ⟨27, [(0, vl (eL (eI .i64)) aA), (1, vl (eL (eI .i64)) aB), (5, vi s3.1)], []⟩) (fun v6 h => ?_) (fun j5 h => ?_)
  refine swp_blk (a := v6) ?_
  refine swp_seq ?_
  refine swp_dr mixed ?_
  refine DGo.chunk' tbok 2 (σ' := ⟨27, [(18, vi s3.1), (17, vl (eL (eI .i64)) aA), (0, vl (eL (eI .i64)) aA), (1, vl (eL (eI .i64)) aB), (5, vi s3.1), (14, vb (decide (s3.1 < (aA.length : Int))))], []⟩) (by kernel_rfl) ?_
  obtain ⟨x7, hx7, h⟩ := bind_some h
  refine DGo.step (x_index (L := aA) (f := (eL (eI .i64))) (ti := ti24) (tj := ti50) (e := 50) (k := .i64) tbok rfl hx7) ?_
  refine DGo.chunk' tbok 3 (σ' := ⟨27, [(22, vi s3.1), (21, vl (eL (eI .i64)) aB), (20, vl (eI .i64) x7), (19, .ptr (((eL (eI .i64)) x7).map .tr) 0), (18, vi s3.1), (17, vl (eL (eI .i64)) aA), (0, vl (eL (eI .i64)) aA), (1, vl (eL (eI .i64)) aB), (5, vi s3.1), (14, vb (decide (s3.1 < (aA.length : Int))))], []⟩) (by kernel_rfl) ?_
  obtain ⟨x8, hx8, h⟩ := bind_some h
  refine DGo.step (x_index (L := aB) (f := (eL (eI .i64))) (ti := ti24) (tj := ti50) (e := 50) (k := .i64) tbok rfl hx8) ?_
  refine DGo.chunk' tbok 1 (σ' := ⟨27, [(24, vl (eI .i64) x8), (23, .ptr (((eL (eI .i64)) x8).map .tr) 0), (22, vi s3.1), (21, vl (eL (eI .i64)) aB), (20, vl (eI .i64) x7), (19, .ptr (((eL (eI .i64)) x7).map .tr) 0), (18, vi s3.1), (17, vl (eL (eI .i64)) aA), (0, vl (eL (eI .i64)) aA), (1, vl (eL (eI .i64)) aB), (5, vi s3.1), (14, vb (decide (s3.1 < (aA.length : Int))))], []⟩) (by kernel_rfl) ?_
  obtain ⟨x9, hx9, h⟩ := bind_some h
  refine DGo.step (x_lstep_call (f := 28) (caps := []) (xs := [vl (eI .i64) x7, vl (eI .i64) x8]) (ys := [vl (eI .i64) x7, vl (eI .i64) x8]) (res := ⟨[.v (vb x9)], [], false⟩) (x := vb x9) (y := none) rfl ents28 (laws_eqInt64S_run x7 x8 _ hx9) rfl (by intro hc; cases hc)) ?_
  refine DGo.chunk' tbok 1 (σ' := ⟨27, [(26, vb (!x9)), (25, vb x9), (24, vl (eI .i64) x8), (23, .ptr (((eL (eI .i64)) x8).map .tr) 0), (22, vi s3.1), (21, vl (eL (eI .i64)) aB), (20, vl (eI .i64) x7), (19, .ptr (((eL (eI .i64)) x7).map .tr) 0), (18, vi s3.1), (17, vl (eL (eI .i64)) aA), (0, vl (eL (eI .i64)) aA), (1, vl (eL (eI .i64)) aB), (5, vi s3.1), (14, vb (decide (s3.1 < (aA.length : Int))))], []⟩) (by kernel_rfl) ?_
  refine DGo.nil (by kernel_rfl) ?_
  refine nx_n ?_
  refine swp_cond (b := (!x9)) (by kernel_rfl) (fun hb => ?_) (fun hb => ?_)
  replace h := cond_t hb h
  refine swp_seq ?_
  refine swp_reg ?_
  refine SRun.ck tbok 1 ⟨27, [(4, vb false)], []⟩ ?_
  refine SRun.nil ?_
  refine nx_n ?_
  refine swp_ret ?_
  replace h := Option.some.inj h
  subst h
  exact q_br (q_rr (q_rr (q_br (q_rr (q_fr (fin1 (by kernel_rfl) (finV rfl SV.flat_of (holds_t (by kernel_rfl)))))))))
  replace h := cond_f hb h
  refine swp_skip ?_
  replace h := Option.some.inj h
  subst h
  exact q_bn (q_l (Le.sub0))
  refine swp_reg ?_
  refine SRun.ck tbok 3 ⟨27, [(0, vl (eL (eI .i64)) aA), (1, vl (eL (eI .i64)) aB), (5, vi (w64 (s3.1 + 1)))], []⟩ ?_
  refine SRun.nil ?_
  replace h := Option.some.inj h
  subst h
  exact q_l (Le.sub0)
  replace h := cond_f hb h
  refine swp_exit ?_
  replace h := Option.some.inj h
  subst h
  exact nx_e (q_re (q_bh (q_l (Le.sub0))))
  refine swp_seq ?_
  refine swp_reg ?_
  refine SRun.ck tbok 1 ⟨27, [(4, vb true)], []⟩ ?_
  refine SRun.nil ?_
  refine nx_n ?_
  refine swp_ret ?_
  replace h := Option.some.inj h
  subst h
  exact q_fr (fin1 (by kernel_rfl) (finV rfl SV.flat_of (holds_t (by kernel_rfl))))
theorem ents10 : Ents Tryd.prog 10 := ents_of Tryd.func10 (by kernel_rfl) rfl
noncomputable def laws_eqTie (aA : Tie) (aB : Tie) : Option (Bool) :=
  (bif (aA.A != aB.A) then some false else (bif (aA.B != aB.B) then some false else (bif (!(aA.Same == aB.Same)) then some false else (bif (!(aA.Reason.toList == aB.Reason.toList)) then some false else some true))))
set_option maxRecDepth 100000 in
set_option maxHeartbeats 4000000 in
theorem laws_eqTie_run (aA : Tie) (aB : Tie) (r : Bool) (h : laws_eqTie aA aB = some r) : SCall Tryd.prog 29 [.v (.agg [vi aA.A, vi aA.B, vb aA.Same, vs aA.Reason]), .v (.agg [vi aB.A, vi aB.B, vb aB.Same, vs aB.Reason])] ⟨[.v (vb r)], [], false⟩ := by
  refine scall_in Tryd.func29 rfl [(.tmp 4)] rfl (fun r => ⟨[.v (vb r)], [], false⟩) (r := r) ?_
  unfold laws_eqTie at h
  refine swp_seq ?_
  refine swp_reg ?_
  refine SRun.ck tbok 3 ⟨25, [(2, .ref 2 0), (3, .ref 3 0)], [(2, .box [vi aA.A, vi aA.B, vb aA.Same, vs aA.Reason]), (3, .box [vi aB.A, vi aB.B, vb aB.Same, vs aB.Reason])]⟩ ?_
  refine SRun.nil ?_
  refine nx_n ?_
  refine swp_seq ?_
  refine swp_seq ?_
  refine swp_reg ?_
  refine SRun.ck tbok 5 ⟨25, [(2, .ref 2 0), (3, .ref 3 0), (9, vb (aA.A != aB.A))], [(2, .box [vi aA.A, vi aA.B, vb aA.Same, vs aA.Reason]), (3, .box [vi aB.A, vi aB.B, vb aB.Same, vs aB.Reason])]⟩ ?_
  refine SRun.nil ?_
  refine nx_n ?_
  refine swp_cond (b := (aA.A != aB.A)) (by kernel_rfl) (fun hb => ?_) (fun hb => ?_)
  replace h := cond_t hb h
  refine swp_seq ?_
  refine swp_reg ?_
  refine SRun.ck tbok 1 ⟨25, [(4, vb false)], []⟩ ?_
  refine SRun.nil ?_
  refine nx_n ?_
  refine swp_ret ?_
  replace h := Option.some.inj h
  subst h
  exact nx_r (q_fr (fin1 (by kernel_rfl) (finV rfl SV.flat_of (holds_t (by kernel_rfl)))))
  replace h := cond_f hb h
  refine swp_skip ?_
  refine nx_n ?_
  refine swp_seq ?_
  refine swp_seq ?_
  refine swp_reg ?_
  refine SRun.ck tbok 5 ⟨25, [(2, .ref 2 0), (3, .ref 3 0), (14, vb (aA.B != aB.B))], [(2, .box [vi aA.A, vi aA.B, vb aA.Same, vs aA.Reason]), (3, .box [vi aB.A, vi aB.B, vb aB.Same, vs aB.Reason])]⟩ ?_
  refine SRun.nil ?_
  refine nx_n ?_
  refine swp_cond (b := (aA.B != aB.B)) (by kernel_rfl) (fun hb => ?_) (fun hb => ?_)
  replace h := cond_t hb h
  refine swp_seq ?_
  refine swp_reg ?_
  refine SRun.ck tbok 1 ⟨25, [(4, vb false)], []⟩ ?_
  refine SRun.nil ?_
  refine nx_n ?_
  refine swp_ret ?_
  replace h := Option.some.inj h
  subst h
  exact nx_r (q_fr (fin1 (by kernel_rfl) (finV rfl SV.flat_of (holds_t (by kernel_rfl)))))
  replace h := cond_f hb h
  refine swp_skip ?_
  refine nx_n ?_
  refine swp_seq ?_
  refine swp_seq ?_
  refine swp_reg ?_
  refine SRun.ck tbok 4 ⟨25, [(2, .ref 2 0), (3, .ref 3 0), (16, vb aA.Same), (18, vb aB.Same)], [(2, .box [vi aA.A, vi aA.B, vb aA.Same, vs aA.Reason]), (3, .box [vi aB.A, vi aB.B, vb aB.Same, vs aB.Reason])]⟩ ?_
  refine SRun.ls (x_lstep_eqb tbok (ti := ti4) (i := aA.Same) (j := aB.Same) true rfl) ?_
  refine SRun.nil ?_
  refine nx_n ?_
  refine swp_cond (b := (!(aA.Same == aB.Same))) (by kernel_rfl) (fun hb => ?_) (fun hb => ?_)
  replace h := cond_t hb h
  refine swp_seq ?_
  refine swp_reg ?_
  refine SRun.ck tbok 1 ⟨25, [(4, vb false)], []⟩ ?_
  refine SRun.nil ?_
  refine nx_n ?_
  refine swp_ret ?_
  replace h := Option.some.inj h
  subst h
  exact nx_r (q_fr (fin1 (by kernel_rfl) (finV rfl SV.flat_of (holds_t (by kernel_rfl)))))
  replace h := cond_f hb h
  refine swp_skip ?_
  refine nx_n ?_
  refine swp_seq ?_
  refine swp_seq ?_
  refine swp_reg ?_
  refine SRun.ck tbok 5 ⟨25, [(24, vb (!(aA.Reason.toList == aB.Reason.toList)))], []⟩ ?_
  refine SRun.nil ?_
  refine nx_n ?_
  refine swp_cond (b := (!(aA.Reason.toList == aB.Reason.toList))) (by kernel_rfl) (fun hb => ?_) (fun hb => ?_)
  replace h := cond_t hb h
  refine swp_seq ?_
  refine swp_reg ?_
  refine SRun.ck tbok 1 ⟨25, [(4, vb false)], []⟩ ?_
  refine SRun.nil ?_
  refine nx_n ?_
  refine swp_ret ?_
  replace h := Option.some.inj h
  subst h
  exact nx_r (q_fr (fin1 (by kernel_rfl) (finV rfl SV.flat_of (holds_t (by kernel_rfl)))))
  replace h := cond_f hb h
  refine swp_skip ?_
  refine nx_n ?_
  refine swp_seq ?_
  refine swp_reg ?_
  refine SRun.ck tbok 1 ⟨25, [(4, vb true)], []⟩ ?_
  refine SRun.nil ?_
  refine nx_n ?_
  refine swp_ret ?_
  replace h := Option.some.inj h
  subst h
  exact q_fr (fin1 (by kernel_rfl) (finV rfl SV.flat_of (holds_t (by kernel_rfl))))
theorem ents29 : Ents Tryd.prog 29 := ents_of Tryd.func29 (by kernel_rfl) rfl
noncomputable def laws_eqTieS (aA : (List Tie)) (aB : (List Tie)) : Option (Bool) :=
  (bif ((aA.length : Int) != (aB.length : Int)) then some false else (((forN (aA.length : Int) (fun (i3 : Int) (_ : Unit) => ((at' aA i3).bind fun x7 => ((at' aB i3).bind fun x8 => ((laws_eqTie x7 x8).bind fun x9 => (bif (!x9) then some (.inr (.inr false)) else some (.inl ())))))) (fun (_ : Unit) => .inl ()) 0 ())).bind (Sum.elim (fun (_ : Unit) => some true) some)))
set_option maxRecDepth 100000 in
set_option maxHeartbeats 4000000 in
theorem laws_eqTieS_run (aA : (List Tie)) (aB : (List Tie)) (r : Bool) (h : laws_eqTieS aA aB = some r) : SCall Tryd.prog 11 [.v (vl eTie aA), .v (vl eTie aB)] ⟨[.v (vb r)], [], false⟩ := by
  refine scall_in Tryd.func11 rfl [(.tmp 4)] rfl (fun r => ⟨[.v (vb r)], [], false⟩) (r := r) ?_
  unfold laws_eqTieS at h
  refine swp_seq ?_
  refine swp_reg ?_
  refine SRun.ck tbok 1 ⟨27, [(0, vl eTie aA), (1, vl eTie aB)], []⟩ ?_
  refine SRun.nil ?_
  refine nx_n ?_
  refine swp_seq ?_
  refine swp_seq ?_
  refine swp_reg ?_
  refine SRun.ck tbok 5 ⟨27, [(0, vl eTie aA), (1, vl eTie aB), (10, vb ((aA.length : Int) != (aB.length : Int)))], []⟩ ?_
  refine SRun.nil ?_
  refine nx_n ?_
  refine swp_cond (b := ((aA.length : Int) != (aB.length : Int))) (by kernel_rfl) (fun hb => ?_) (fun hb => ?_)
  replace h := cond_t hb h
  refine swp_seq ?_
  refine swp_reg ?_
  refine SRun.ck tbok 1 ⟨27, [(4, vb false)], []⟩ ?_
  refine SRun.nil ?_
  refine nx_n ?_
  refine swp_ret ?_
  replace h := Option.some.inj h
  subst h
  exact nx_r (q_fr (fin1 (by kernel_rfl) (finV rfl SV.flat_of (holds_t (by kernel_rfl)))))
  replace h := cond_f hb h
  refine swp_skip ?_
  refine nx_n ?_
  refine swp_seq ?_
  refine swp_seq ?_
  refine swp_reg ?_
  refine SRun.ck tbok 1 ⟨27, [(0, vl eTie aA), (1, vl eTie aB), (5, vi 0)], []⟩ ?_
  refine SRun.nil ?_
  refine nx_n ?_
  refine swp_seqE (r := r) h (fun j1 => ⟨27, [], []⟩) (fun v2 h => ?_) (fun j1 h => ?_)
  refine swp_blk (a := v2) ?_
  refine swp_lpL (r := v2) (s := (0, ())) _ (fun s3 => ⟨27, [(0, vl eTie aA), (1, vl eTie aB), (5, vi s3.1)], []⟩) _ (Le.sub0) h (fun s3 v4 h => ?_)
  refine swp_seq ?_
  refine swp_seq ?_
  refine swp_reg ?_
  refine SRun.ck tbok 4 ⟨27, [(0, vl eTie aA), (1, vl eTie aB), (5, vi s3.1), (14, vb (decide (s3.1 < (aA.length : Int))))], []⟩ ?_
  refine SRun.nil ?_
  refine nx_n ?_
  refine swp_cond (b := (decide (s3.1 < (aA.length : Int)))) (by kernel_rfl) (fun hb => ?_) (fun hb => ?_)
  replace h := cond_t hb h
  refine swp_skip ?_
  refine nx_n ?_
  refine swp_seq ?_
  refine swp_seqL (r := v4) h (fun j5 => ⟨27, [(0, vl eTie aA), (1, vl eTie aB), (5, vi s3.1)], []⟩) (fun v6 h => ?_) (fun j5 h => ?_)
  refine swp_blk (a := v6) ?_
  refine swp_seq ?_
  refine swp_dr mixed ?_
  refine DGo.chunk' tbok 2 (σ' := ⟨27, [(18, vi s3.1), (17, vl eTie aA), (0, vl eTie aA), (1, vl eTie aB), (5, vi s3.1), (14, vb (decide (s3.1 < (aA.length : Int))))], []⟩) (by kernel_rfl) ?_
  obtain ⟨x7, hx7, h⟩ := bind_some h
  refine DGo.step (x_index (L := aA) (f := eTie) (ti := ti27) (tj := ti47) (e := 47) (k := .i64) tbok rfl hx7) ?_
  refine DGo.chunk' tbok 3 (σ' := ⟨27, [(22, vi s3.1), (21, vl eTie aB), (20, .agg [vi x7.A, vi x7.B, vb x7.Same, vs x7.Reason]), (19, .ptr ((eTie x7).map .tr) 0), (18, vi s3.1), (17, vl eTie aA), (0, vl eTie aA), (1, vl eTie aB), (5, vi s3.1), (14, vb (decide (s3.1 < (aA.length : Int))))], []⟩) (by kernel_rfl) ?_
  obtain ⟨x8, hx8, h⟩ := bind_some h
  refine DGo.step (x_index (L := aB) (f := eTie) (ti := ti27) (tj := ti47) (e := 47) (k := .i64) tbok rfl hx8) ?_
  refine DGo.chunk' tbok 1 (σ' := ⟨27, [(24, .agg [vi x8.A, vi x8.B, vb x8.Same, vs x8.Reason]), (23, .ptr ((eTie x8).map .tr) 0), (22, vi s3.1), (21, vl eTie aB), (20, .agg [vi x7.A, vi x7.B, vb x7.Same, vs x7.Reason]), (19, .ptr ((eTie x7).map .tr) 0), (18, vi s3.1), (17, vl eTie aA), (0, vl eTie aA), (1, vl eTie aB), (5, vi s3.1), (14, vb (decide (s3.1 < (aA.length : Int))))], []⟩) (by kernel_rfl) ?_
  obtain ⟨x9, hx9, h⟩ := bind_some h
  refine DGo.step (x_lstep_call (f := 29) (caps := []) (xs := [.agg [vi x7.A, vi x7.B, vb x7.Same, vs x7.Reason], .agg [vi x8.A, vi x8.B, vb x8.Same, vs x8.Reason]]) (ys := [.agg [vi x7.A, vi x7.B, vb x7.Same, vs x7.Reason], .agg [vi x8.A, vi x8.B, vb x8.Same, vs x8.Reason]]) (res := ⟨[.v (vb x9)], [], false⟩) (x := vb x9) (y := none) rfl ents29 (laws_eqTie_run x7 x8 _ hx9) rfl (by intro hc; cases hc)) ?_
  refine DGo.chunk' tbok 1 (σ' := ⟨27, [(26, vb (!x9)), (25, vb x9), (24, .agg [vi x8.A, vi x8.B, vb x8.Same, vs x8.Reason]), (23, .ptr ((eTie x8).map .tr) 0), (22, vi s3.1), (21, vl eTie aB), (20, .agg [vi x7.A, vi x7.B, vb x7.Same, vs x7.Reason]), (19, .ptr ((eTie x7).map .tr) 0), (18, vi s3.1), (17, vl eTie aA), (0, vl eTie aA), (1, vl eTie aB), (5, vi s3.1), (14, vb (decide (s3.1 < (aA.length : Int))))], []⟩) (by kernel_rfl) ?_
  refine DGo.nil (by kernel_rfl) ?_
  refine nx_n ?_
  refine swp_cond (b := (!x9)) (by kernel_rfl) (fun hb => ?_) (fun hb => ?_)
  replace h := cond_t hb h
  refine swp_seq ?_
  refine swp_reg ?_
  refine SRun.ck tbok 1 ⟨27, [(4, vb false)], []⟩ ?_
  refine SRun.nil ?_
  refine nx_n ?_
  refine swp_ret ?_
  replace h := Option.some.inj h
  subst h
  exact q_br (q_rr (q_rr (q_br (q_rr (q_fr (fin1 (by kernel_rfl) (finV rfl SV.flat_of (holds_t (by kernel_rfl)))))))))
  replace h := cond_f hb h
  refine swp_skip ?_
  replace h := Option.some.inj h
  subst h
  exact q_bn (q_l (Le.sub0))
  refine swp_reg ?_
  refine SRun.ck tbok 3 ⟨27, [(0, vl eTie aA), (1, vl eTie aB), (5, vi (w64 (s3.1 + 1)))], []⟩ ?_
  refine SRun.nil ?_
  replace h := Option.some.inj h
  subst h
  exact q_l (Le.sub0)
  replace h := cond_f hb h
  refine swp_exit ?_
  replace h := Option.some.inj h
  subst h
  exact nx_e (q_re (q_bh (q_l (Le.sub0))))
  refine swp_seq ?_
  refine swp_reg ?_
  refine SRun.ck tbok 1 ⟨27, [(4, vb true)], []⟩ ?_
  refine SRun.nil ?_
  refine nx_n ?_
  refine swp_ret ?_
  replace h := Option.some.inj h
  subst h
  exact q_fr (fin1 (by kernel_rfl) (finV rfl SV.flat_of (holds_t (by kernel_rfl))))
theorem ents11 : Ents Tryd.prog 11 := ents_of Tryd.func11 (by kernel_rfl) rfl
noncomputable def laws_markText (aK : Int) : Option (ByteArray) :=
  (bif (decide (aK ≤ 0)) then some (ByteArray.mk #[109, 48]) else (((loop (fun (s3 : Int × ByteArray) => (bif (decide (s3.1 > 0)) then ((cat' (strOfNums ([(IntKind.wrap .u8 (w64 (48 + (Int.tmod s3.1 10))))] : List Int)) s3.2).bind fun x5 => some (.inl ((w64 (Int.tdiv s3.1 10)), x5))) else some (.inr s3.2))) (aK, (ByteArray.mk #[])))).bind fun (j1 : ByteArray) => ((cat' (ByteArray.mk #[109]) j1).bind fun x6 => some x6)))
set_option maxRecDepth 100000 in
set_option maxHeartbeats 4000000 in
theorem laws_markText_run (aK : Int) (r : ByteArray) (h : laws_markText aK = some r) : SCall Tryd.prog 30 [.v (vi aK)] ⟨[.v (vs r)], [], false⟩ := by
  refine scall_in Tryd.func30 rfl [(.tmp 2)] rfl (fun r => ⟨[.v (vs r)], [], false⟩) (r := r) ?_
  unfold laws_markText at h
  refine swp_seq ?_
  refine swp_reg ?_
  refine SRun.ck tbok 1 ⟨20, [(0, vi aK)], []⟩ ?_
  refine SRun.nil ?_
  refine nx_n ?_
  refine swp_seq ?_
  refine swp_seq ?_
  refine swp_reg ?_
  refine SRun.ck tbok 2 ⟨20, [(0, vi aK), (5, vb (decide (aK ≤ 0)))], []⟩ ?_
  refine SRun.nil ?_
  refine nx_n ?_
  refine swp_cond (b := (decide (aK ≤ 0))) (by kernel_rfl) (fun hb => ?_) (fun hb => ?_)
  replace h := cond_t hb h
  refine swp_seq ?_
  refine swp_reg ?_
  refine SRun.ck tbok 1 ⟨20, [(2, vs (ByteArray.mk #[109, 48]))], []⟩ ?_
  refine SRun.nil ?_
  refine nx_n ?_
  refine swp_ret ?_
  replace h := Option.some.inj h
  subst h
  exact nx_r (q_fr (fin1 (by kernel_rfl) (finV rfl SV.flat_of (holds_t (by kernel_rfl)))))
  replace h := cond_f hb h
  refine swp_skip ?_
  refine nx_n ?_
  refine swp_seq ?_
  refine swp_reg ?_
  refine SRun.ck tbok 1 ⟨20, [(0, vi aK), (3, vs (ByteArray.mk #[]))], []⟩ ?_
  refine SRun.nil ?_
  refine nx_n ?_
  refine swp_seq ?_
  refine swp_seqJ h (fun j1 => ⟨20, [(3, vs j1)], []⟩) (fun v2 h => ?_) (fun j1 h => ?_)
  refine swp_blk (a := v2) ?_
  refine swp_lpL (r := v2) (s := (aK, (ByteArray.mk #[]))) _ (fun s3 => ⟨20, [(0, vi s3.1), (3, vs s3.2)], []⟩) _ (Le.sub0) h (fun s3 v4 h => ?_)
  refine swp_seq ?_
  refine swp_seq ?_
  refine swp_reg ?_
  refine SRun.ck tbok 2 ⟨20, [(0, vi s3.1), (3, vs s3.2), (7, vb (decide (s3.1 > 0)))], []⟩ ?_
  refine SRun.nil ?_
  refine nx_n ?_
  refine swp_cond (b := (decide (s3.1 > 0))) (by kernel_rfl) (fun hb => ?_) (fun hb => ?_)
  replace h := cond_t hb h
  refine swp_skip ?_
  refine nx_n ?_
  refine swp_blk (a := v4) ?_
  refine swp_seq ?_
  refine swp_reg ?_
  refine SRun.ck tbok 5 ⟨20, [(0, vi s3.1), (3, vs s3.2), (12, .own 12)], [(12, .arr 5 1 ([(IntKind.wrap .u8 (w64 (48 + (Int.tmod s3.1 10))))] : List Int).length (([(IntKind.wrap .u8 (w64 (48 + (Int.tmod s3.1 10))))] : List Int).map (eI .u8)))]⟩ ?_
  refine SRun.ls (x_bytes_own (L := ([(IntKind.wrap .u8 (w64 (48 + (Int.tmod s3.1 10))))] : List Int)) (d := 12) (e' := 5) tbok rfl (e := 5) (ti := ti79) (tj := ti5) (tk := ti9)) ?_
  refine SRun.ck tbok 1 ⟨20, [(0, vi s3.1), (13, vs (strOfNums ([(IntKind.wrap .u8 (w64 (48 + (Int.tmod s3.1 10))))] : List Int))), (14, vs s3.2)], []⟩ ?_
  obtain ⟨x5, hx5, h⟩ := bind_some h
  refine SRun.ls (x_cat hx5 rfl) ?_
  refine SRun.ck tbok 1 ⟨20, [(0, vi s3.1), (3, vs x5)], []⟩ ?_
  refine SRun.nil ?_
  refine nx_n ?_
  refine swp_reg ?_
  refine SRun.ck tbok 3 ⟨20, [(0, vi (w64 (Int.tdiv s3.1 10))), (3, vs x5)], []⟩ ?_
  refine SRun.nil ?_
  replace h := Option.some.inj h
  subst h
  exact q_bn (q_l (Le.sub0))
  replace h := cond_f hb h
  refine swp_exit ?_
  replace h := Option.some.inj h
  subst h
  exact nx_e (q_re (q_bh (q_j (Le.sub0))))
  refine swp_seq ?_
  refine swp_reg ?_
  refine SRun.ck tbok 1 ⟨20, [(18, vs j1)], []⟩ ?_
  obtain ⟨x6, hx6, h⟩ := bind_some h
  refine SRun.ls (x_cat hx6 rfl) ?_
  refine SRun.ck tbok 1 ⟨20, [(2, vs x6)], []⟩ ?_
  refine SRun.nil ?_
  refine nx_n ?_
  refine swp_ret ?_
  replace h := Option.some.inj h
  subst h
  exact q_fr (fin1 (by kernel_rfl) (finV rfl SV.flat_of (holds_t (by kernel_rfl))))
theorem ents30 : Ents Tryd.prog 30 := ents_of Tryd.func30 (by kernel_rfl) rfl
noncomputable def laws_markTieS (aA : (List Tie)) (aK : Int) : Option (Int × (List Tie)) :=
  (((forH (fun (i3 : Int) (s3 : Int × (List Tie)) => (decide (i3 < (s3.2.length : Int)))) (fun (i3 : Int) (s3 : Int × (List Tie)) => ((at' s3.2 i3).bind fun x7 => ((at' (List.set s3.2 (Int.toNat i3) (Tie.mk s3.1 x7.B x7.Same x7.Reason)) i3).bind fun x8 => ((at' (List.set (List.set s3.2 (Int.toNat i3) (Tie.mk s3.1 x7.B x7.Same x7.Reason)) (Int.toNat i3) (Tie.mk x8.A (w64 (s3.1 + 1)) x8.Same x8.Reason)) i3).bind fun x9 => ((laws_markText (w64 ((w64 ((w64 (s3.1 + 1)) + 1)) + 1))).bind fun x10 => ((at' (List.set (List.set (List.set s3.2 (Int.toNat i3) (Tie.mk s3.1 x7.B x7.Same x7.Reason)) (Int.toNat i3) (Tie.mk x8.A (w64 (s3.1 + 1)) x8.Same x8.Reason)) (Int.toNat i3) (Tie.mk x9.A x9.B ((Int.tmod (w64 ((w64 (s3.1 + 1)) + 1)) 3) == 0) x9.Reason)) i3).bind fun x11 => some ((w64 ((w64 ((w64 ((w64 (s3.1 + 1)) + 1)) + 1)) + 1)), (List.set (List.set (List.set (List.set s3.2 (Int.toNat i3) (Tie.mk s3.1 x7.B x7.Same x7.Reason)) (Int.toNat i3) (Tie.mk x8.A (w64 (s3.1 + 1)) x8.Same x8.Reason)) (Int.toNat i3) (Tie.mk x9.A x9.B ((Int.tmod (w64 ((w64 (s3.1 + 1)) + 1)) 3) == 0) x9.Reason)) (Int.toNat i3) (Tie.mk x11.A x11.B x11.Same x10))))))))) (fun (s3 : Int × (List Tie)) => (s3.1, s3.2)) 0 (aK, aA))).bind fun (j1 : Int × (List Tie)) => some (j1.1, j1.2))
set_option maxRecDepth 100000 in
set_option maxHeartbeats 4000000 in
theorem laws_markTieS_run (aA : (List Tie)) (aK : Int) (r : Int × (List Tie)) (h : laws_markTieS aA aK = some r) : SCall Tryd.prog 12 [.o (.arr 47 4 aA.length (aA.map eTie)), .v (vi aK)] ⟨[.v (vi r.1)], [(0, .arr 47 4 r.2.length (r.2.map eTie))], false⟩ := by
  refine scall_in Tryd.func12 rfl [(.tmp 4)] rfl (fun r => ⟨[.v (vi r.1)], [(0, .arr 47 4 r.2.length (r.2.map eTie))], false⟩) (r := r) ?_
  unfold laws_markTieS at h
  refine swp_seq ?_
  refine swp_reg ?_
  refine SRun.ck tbok 1 ⟨44, [(0, .own 1000000), (1, vi aK)], [(1000000, .arr 47 4 aA.length (aA.map eTie))]⟩ ?_
  refine SRun.nil ?_
  refine nx_n ?_
  refine swp_seq ?_
  refine swp_seq ?_
  refine swp_reg ?_
  refine SRun.ck tbok 1 ⟨44, [(0, .own 1000000), (1, vi aK), (5, vi 0)], [(1000000, .arr 47 4 aA.length (aA.map eTie))]⟩ ?_
  refine SRun.nil ?_
  refine nx_n ?_
  refine swp_seqJ h (fun j1 => ⟨44, [(1, vi j1.1)], [(1000000, .arr 47 4 j1.2.length (j1.2.map eTie))]⟩) (fun v2 h => ?_) (fun j1 h => ?_)
  refine swp_blk (a := v2) ?_
  refine swp_lpL (r := v2) (s := (0, aK, aA)) _ (fun s3 => ⟨44, [(0, .own 1000000), (1, vi s3.2.1), (5, vi s3.1)], [(1000000, .arr 47 4 s3.2.2.length (s3.2.2.map eTie))]⟩) _ (Le.sub0) h (fun s3 v4 h => ?_)
  refine swp_seq ?_
  refine swp_seq ?_
  refine swp_reg ?_
  refine SRun.ck tbok 4 ⟨44, [(0, .own 1000000), (1, vi s3.2.1), (5, vi s3.1), (9, vb (decide (s3.1 < (s3.2.2.length : Int))))], [(1000000, .arr 47 4 s3.2.2.length (s3.2.2.map eTie))]⟩ ?_
  refine SRun.nil ?_
  refine nx_n ?_
  refine swp_cond (b := (decide (s3.1 < (s3.2.2.length : Int)))) (by kernel_rfl) (fun hb => ?_) (fun hb => ?_)
  replace h := cond_t hb h
  refine swp_skip ?_
  refine nx_n ?_
  refine swp_seq ?_
  refine swp_seqJ h (fun j5 => ⟨44, [(0, .own 1000000), (1, vi j5.1), (5, vi s3.1)], [(1000000, .arr 47 4 j5.2.length (j5.2.map eTie))]⟩) (fun v6 h => ?_) (fun j5 h => ?_)
  refine swp_blk (a := v6) ?_
  refine swp_seq ?_
  refine swp_reg ?_
  refine SRun.ck tbok 3 ⟨44, [(0, .own 1000000), (1, vi s3.2.1), (5, vi s3.1), (12, .own 1000000), (13, vi s3.1), (14, vi s3.2.1)], [(1000000, .arr 47 4 s3.2.2.length (s3.2.2.map eTie))]⟩ ?_
  obtain ⟨x7, hx7, h⟩ := bind_some h
  refine SRun.ls (x_index_own (d := 1000000) (L := s3.2.2) (f := eTie) (ti := ti27) (tj := ti47) (e := 47) (e' := 47) (m := 4) (k := .i64) tbok rfl hx7) ?_
  refine SRun.ck tbok 1 ⟨44, [(0, .own 1000000), (1, vi s3.2.1), (5, vi s3.1), (14, vi s3.2.1), (16, .eref 1000000 4 (Int.toNat s3.1) 0)], [(1000000, .arr 47 4 s3.2.2.length (s3.2.2.map eTie))]⟩ ?_
  refine SRun.estep (x_store_own (d := 1000000) (m := 4) (j := 0) (L := s3.2.2) (f := eTie) (x := (Tie.mk s3.2.1 x7.B x7.Same x7.Reason)) (z := x7) (ti := ti2) (e := 47) (ts := [.int .i64 s3.2.1]) (vs := [vi s3.2.1]) (v := vi s3.2.1) tbok rfl rfl hx7) ?_
  refine SRun.nil ?_
  refine nx_n ?_
  refine swp_seq ?_
  refine swp_reg ?_
  refine SRun.ck tbok 3 ⟨44, [(0, .own 1000000), (1, vi (w64 (s3.2.1 + 1))), (5, vi s3.1)], [(1000000, .arr 47 4 (List.set s3.2.2 (Int.toNat s3.1) (Tie.mk s3.2.1 x7.B x7.Same x7.Reason)).length ((List.set s3.2.2 (Int.toNat s3.1) (Tie.mk s3.2.1 x7.B x7.Same x7.Reason)).map eTie))]⟩ ?_
  refine SRun.nil ?_
  refine nx_n ?_
  refine swp_seq ?_
  refine swp_reg ?_
  refine SRun.ck tbok 3 ⟨44, [(0, .own 1000000), (1, vi (w64 (s3.2.1 + 1))), (5, vi s3.1), (19, .own 1000000), (20, vi s3.1), (21, vi (w64 (s3.2.1 + 1)))], [(1000000, .arr 47 4 (List.set s3.2.2 (Int.toNat s3.1) (Tie.mk s3.2.1 x7.B x7.Same x7.Reason)).length ((List.set s3.2.2 (Int.toNat s3.1) (Tie.mk s3.2.1 x7.B x7.Same x7.Reason)).map eTie))]⟩ ?_
  obtain ⟨x8, hx8, h⟩ := bind_some h
  refine SRun.ls (x_index_own (d := 1000000) (L := (List.set s3.2.2 (Int.toNat s3.1) (Tie.mk s3.2.1 x7.B x7.Same x7.Reason))) (f := eTie) (ti := ti27) (tj := ti47) (e := 47) (e' := 47) (m := 4) (k := .i64) tbok rfl hx8) ?_
  refine SRun.ck tbok 1 ⟨44, [(0, .own 1000000), (1, vi (w64 (s3.2.1 + 1))), (5, vi s3.1), (21, vi (w64 (s3.2.1 + 1))), (23, .eref 1000000 4 (Int.toNat s3.1) 1)], [(1000000, .arr 47 4 (List.set s3.2.2 (Int.toNat s3.1) (Tie.mk s3.2.1 x7.B x7.Same x7.Reason)).length ((List.set s3.2.2 (Int.toNat s3.1) (Tie.mk s3.2.1 x7.B x7.Same x7.Reason)).map eTie))]⟩ ?_
  refine SRun.estep (x_store_own (d := 1000000) (m := 4) (j := 1) (L := (List.set s3.2.2 (Int.toNat s3.1) (Tie.mk s3.2.1 x7.B x7.Same x7.Reason))) (f := eTie) (x := (Tie.mk x8.A (w64 (s3.2.1 + 1)) x8.Same x8.Reason)) (z := x8) (ti := ti2) (e := 47) (ts := [.int .i64 (w64 (s3.2.1 + 1))]) (vs := [vi (w64 (s3.2.1 + 1))]) (v := vi (w64 (s3.2.1 + 1))) tbok rfl rfl hx8) ?_
  refine SRun.nil ?_
  refine nx_n ?_
  refine swp_seq ?_
  refine swp_reg ?_
  refine SRun.ck tbok 3 ⟨44, [(0, .own 1000000), (1, vi (w64 ((w64 (s3.2.1 + 1)) + 1))), (5, vi s3.1)], [(1000000, .arr 47 4 (List.set (List.set s3.2.2 (Int.toNat s3.1) (Tie.mk s3.2.1 x7.B x7.Same x7.Reason)) (Int.toNat s3.1) (Tie.mk x8.A (w64 (s3.2.1 + 1)) x8.Same x8.Reason)).length ((List.set (List.set s3.2.2 (Int.toNat s3.1) (Tie.mk s3.2.1 x7.B x7.Same x7.Reason)) (Int.toNat s3.1) (Tie.mk x8.A (w64 (s3.2.1 + 1)) x8.Same x8.Reason)).map eTie))]⟩ ?_
  refine SRun.nil ?_
  refine nx_n ?_
  refine swp_seq ?_
  refine swp_reg ?_
  refine SRun.ck tbok 5 ⟨44, [(0, .own 1000000), (1, vi (w64 ((w64 (s3.2.1 + 1)) + 1))), (5, vi s3.1), (26, .own 1000000), (27, vi s3.1), (30, vb ((Int.tmod (w64 ((w64 (s3.2.1 + 1)) + 1)) 3) == 0))], [(1000000, .arr 47 4 (List.set (List.set s3.2.2 (Int.toNat s3.1) (Tie.mk s3.2.1 x7.B x7.Same x7.Reason)) (Int.toNat s3.1) (Tie.mk x8.A (w64 (s3.2.1 + 1)) x8.Same x8.Reason)).length ((List.set (List.set s3.2.2 (Int.toNat s3.1) (Tie.mk s3.2.1 x7.B x7.Same x7.Reason)) (Int.toNat s3.1) (Tie.mk x8.A (w64 (s3.2.1 + 1)) x8.Same x8.Reason)).map eTie))]⟩ ?_
  obtain ⟨x9, hx9, h⟩ := bind_some h
  refine SRun.ls (x_index_own (d := 1000000) (L := (List.set (List.set s3.2.2 (Int.toNat s3.1) (Tie.mk s3.2.1 x7.B x7.Same x7.Reason)) (Int.toNat s3.1) (Tie.mk x8.A (w64 (s3.2.1 + 1)) x8.Same x8.Reason))) (f := eTie) (ti := ti27) (tj := ti47) (e := 47) (e' := 47) (m := 4) (k := .i64) tbok rfl hx9) ?_
  refine SRun.ck tbok 1 ⟨44, [(0, .own 1000000), (1, vi (w64 ((w64 (s3.2.1 + 1)) + 1))), (5, vi s3.1), (30, vb ((Int.tmod (w64 ((w64 (s3.2.1 + 1)) + 1)) 3) == 0)), (32, .eref 1000000 4 (Int.toNat s3.1) 2)], [(1000000, .arr 47 4 (List.set (List.set s3.2.2 (Int.toNat s3.1) (Tie.mk s3.2.1 x7.B x7.Same x7.Reason)) (Int.toNat s3.1) (Tie.mk x8.A (w64 (s3.2.1 + 1)) x8.Same x8.Reason)).length ((List.set (List.set s3.2.2 (Int.toNat s3.1) (Tie.mk s3.2.1 x7.B x7.Same x7.Reason)) (Int.toNat s3.1) (Tie.mk x8.A (w64 (s3.2.1 + 1)) x8.Same x8.Reason)).map eTie))]⟩ ?_
  refine SRun.estep (x_store_own (d := 1000000) (m := 4) (j := 2) (L := (List.set (List.set s3.2.2 (Int.toNat s3.1) (Tie.mk s3.2.1 x7.B x7.Same x7.Reason)) (Int.toNat s3.1) (Tie.mk x8.A (w64 (s3.2.1 + 1)) x8.Same x8.Reason))) (f := eTie) (x := (Tie.mk x9.A x9.B ((Int.tmod (w64 ((w64 (s3.2.1 + 1)) + 1)) 3) == 0) x9.Reason)) (z := x9) (ti := ti4) (e := 47) (ts := [.bool ((Int.tmod (w64 ((w64 (s3.2.1 + 1)) + 1)) 3) == 0)]) (vs := [vb ((Int.tmod (w64 ((w64 (s3.2.1 + 1)) + 1)) 3) == 0)]) (v := vb ((Int.tmod (w64 ((w64 (s3.2.1 + 1)) + 1)) 3) == 0)) tbok rfl rfl hx9) ?_
  refine SRun.nil ?_
  refine nx_n ?_
  refine swp_seq ?_
  refine swp_reg ?_
  refine SRun.ck tbok 3 ⟨44, [(0, .own 1000000), (1, vi (w64 ((w64 ((w64 (s3.2.1 + 1)) + 1)) + 1))), (5, vi s3.1)], [(1000000, .arr 47 4 (List.set (List.set (List.set s3.2.2 (Int.toNat s3.1) (Tie.mk s3.2.1 x7.B x7.Same x7.Reason)) (Int.toNat s3.1) (Tie.mk x8.A (w64 (s3.2.1 + 1)) x8.Same x8.Reason)) (Int.toNat s3.1) (Tie.mk x9.A x9.B ((Int.tmod (w64 ((w64 (s3.2.1 + 1)) + 1)) 3) == 0) x9.Reason)).length ((List.set (List.set (List.set s3.2.2 (Int.toNat s3.1) (Tie.mk s3.2.1 x7.B x7.Same x7.Reason)) (Int.toNat s3.1) (Tie.mk x8.A (w64 (s3.2.1 + 1)) x8.Same x8.Reason)) (Int.toNat s3.1) (Tie.mk x9.A x9.B ((Int.tmod (w64 ((w64 (s3.2.1 + 1)) + 1)) 3) == 0) x9.Reason)).map eTie))]⟩ ?_
  refine SRun.nil ?_
  refine nx_n ?_
  refine swp_seq ?_
  refine swp_reg ?_
  refine SRun.ck tbok 3 ⟨44, [(0, .own 1000000), (1, vi (w64 ((w64 ((w64 (s3.2.1 + 1)) + 1)) + 1))), (5, vi s3.1), (35, .own 1000000), (36, vi s3.1), (37, vi (w64 ((w64 ((w64 (s3.2.1 + 1)) + 1)) + 1)))], [(1000000, .arr 47 4 (List.set (List.set (List.set s3.2.2 (Int.toNat s3.1) (Tie.mk s3.2.1 x7.B x7.Same x7.Reason)) (Int.toNat s3.1) (Tie.mk x8.A (w64 (s3.2.1 + 1)) x8.Same x8.Reason)) (Int.toNat s3.1) (Tie.mk x9.A x9.B ((Int.tmod (w64 ((w64 (s3.2.1 + 1)) + 1)) 3) == 0) x9.Reason)).length ((List.set (List.set (List.set s3.2.2 (Int.toNat s3.1) (Tie.mk s3.2.1 x7.B x7.Same x7.Reason)) (Int.toNat s3.1) (Tie.mk x8.A (w64 (s3.2.1 + 1)) x8.Same x8.Reason)) (Int.toNat s3.1) (Tie.mk x9.A x9.B ((Int.tmod (w64 ((w64 (s3.2.1 + 1)) + 1)) 3) == 0) x9.Reason)).map eTie))]⟩ ?_
  obtain ⟨x10, hx10, h⟩ := bind_some h
  refine SRun.ls (x_lstep_call (f := 30) (caps := []) (xs := [vi (w64 ((w64 ((w64 (s3.2.1 + 1)) + 1)) + 1))]) (ys := [vi (w64 ((w64 ((w64 (s3.2.1 + 1)) + 1)) + 1))]) (res := ⟨[.v (vs x10)], [], false⟩) (x := vs x10) (y := none) rfl ents30 (laws_markText_run (w64 ((w64 ((w64 (s3.2.1 + 1)) + 1)) + 1)) _ hx10) rfl (by intro hc; cases hc)) ?_
  obtain ⟨x11, hx11, h⟩ := bind_some h
  refine SRun.ls (x_index_own (d := 1000000) (L := (List.set (List.set (List.set s3.2.2 (Int.toNat s3.1) (Tie.mk s3.2.1 x7.B x7.Same x7.Reason)) (Int.toNat s3.1) (Tie.mk x8.A (w64 (s3.2.1 + 1)) x8.Same x8.Reason)) (Int.toNat s3.1) (Tie.mk x9.A x9.B ((Int.tmod (w64 ((w64 (s3.2.1 + 1)) + 1)) 3) == 0) x9.Reason))) (f := eTie) (ti := ti27) (tj := ti47) (e := 47) (e' := 47) (m := 4) (k := .i64) tbok rfl hx11) ?_
  refine SRun.ck tbok 1 ⟨44, [(0, .own 1000000), (1, vi (w64 ((w64 ((w64 (s3.2.1 + 1)) + 1)) + 1))), (5, vi s3.1), (38, vs x10), (40, .eref 1000000 4 (Int.toNat s3.1) 3)], [(1000000, .arr 47 4 (List.set (List.set (List.set s3.2.2 (Int.toNat s3.1) (Tie.mk s3.2.1 x7.B x7.Same x7.Reason)) (Int.toNat s3.1) (Tie.mk x8.A (w64 (s3.2.1 + 1)) x8.Same x8.Reason)) (Int.toNat s3.1) (Tie.mk x9.A x9.B ((Int.tmod (w64 ((w64 (s3.2.1 + 1)) + 1)) 3) == 0) x9.Reason)).length ((List.set (List.set (List.set s3.2.2 (Int.toNat s3.1) (Tie.mk s3.2.1 x7.B x7.Same x7.Reason)) (Int.toNat s3.1) (Tie.mk x8.A (w64 (s3.2.1 + 1)) x8.Same x8.Reason)) (Int.toNat s3.1) (Tie.mk x9.A x9.B ((Int.tmod (w64 ((w64 (s3.2.1 + 1)) + 1)) 3) == 0) x9.Reason)).map eTie))]⟩ ?_
  refine SRun.estep (x_store_own (d := 1000000) (m := 4) (j := 3) (L := (List.set (List.set (List.set s3.2.2 (Int.toNat s3.1) (Tie.mk s3.2.1 x7.B x7.Same x7.Reason)) (Int.toNat s3.1) (Tie.mk x8.A (w64 (s3.2.1 + 1)) x8.Same x8.Reason)) (Int.toNat s3.1) (Tie.mk x9.A x9.B ((Int.tmod (w64 ((w64 (s3.2.1 + 1)) + 1)) 3) == 0) x9.Reason))) (f := eTie) (x := (Tie.mk x11.A x11.B x11.Same x10)) (z := x11) (ti := ti9) (e := 47) (ts := [.str x10]) (vs := [vs x10]) (v := vs x10) tbok rfl rfl hx11) ?_
  refine SRun.nil ?_
  refine nx_n ?_
  refine swp_reg ?_
  refine SRun.ck tbok 3 ⟨44, [(0, .own 1000000), (1, vi (w64 ((w64 ((w64 ((w64 (s3.2.1 + 1)) + 1)) + 1)) + 1))), (5, vi s3.1)], [(1000000, .arr 47 4 (List.set (List.set (List.set (List.set s3.2.2 (Int.toNat s3.1) (Tie.mk s3.2.1 x7.B x7.Same x7.Reason)) (Int.toNat s3.1) (Tie.mk x8.A (w64 (s3.2.1 + 1)) x8.Same x8.Reason)) (Int.toNat s3.1) (Tie.mk x9.A x9.B ((Int.tmod (w64 ((w64 (s3.2.1 + 1)) + 1)) 3) == 0) x9.Reason)) (Int.toNat s3.1) (Tie.mk x11.A x11.B x11.Same x10)).length ((List.set (List.set (List.set (List.set s3.2.2 (Int.toNat s3.1) (Tie.mk s3.2.1 x7.B x7.Same x7.Reason)) (Int.toNat s3.1) (Tie.mk x8.A (w64 (s3.2.1 + 1)) x8.Same x8.Reason)) (Int.toNat s3.1) (Tie.mk x9.A x9.B ((Int.tmod (w64 ((w64 (s3.2.1 + 1)) + 1)) 3) == 0) x9.Reason)) (Int.toNat s3.1) (Tie.mk x11.A x11.B x11.Same x10)).map eTie))]⟩ ?_
  refine SRun.nil ?_
  replace h := Option.some.inj h
  subst h
  exact q_bn (q_j (Le.sub0))
  refine swp_reg ?_
  refine SRun.ck tbok 3 ⟨44, [(0, .own 1000000), (1, vi j5.1), (5, vi (w64 (s3.1 + 1)))], [(1000000, .arr 47 4 j5.2.length (j5.2.map eTie))]⟩ ?_
  refine SRun.nil ?_
  replace h := Option.some.inj h
  subst h
  exact q_l (Le.sub0)
  replace h := cond_f hb h
  refine swp_exit ?_
  replace h := Option.some.inj h
  subst h
  exact nx_e (q_re (q_bh (q_j (Le.sub0))))
  refine swp_seq ?_
  refine swp_reg ?_
  refine SRun.ck tbok 2 ⟨44, [(4, vi j1.1)], [(1000000, .arr 47 4 j1.2.length (j1.2.map eTie))]⟩ ?_
  refine SRun.nil ?_
  refine nx_n ?_
  refine swp_ret ?_
  replace h := Option.some.inj h
  subst h
  exact q_fr (fin_io (fin1 (by kernel_rfl) (finV rfl SV.flat_of (holds_t (by kernel_rfl)))) (y := .arr 47 4 j1.2.length (j1.2.map eTie)) (by kernel_rfl) rfl (by kernel_rfl) (by kernel_rfl))
theorem ents12 : Ents Tryd.prog 12 := ents_of Tryd.func12 (by kernel_rfl) rfl
noncomputable def laws_markInt64S (aA : (List Int)) (aK : Int) : Option (Int × (List Int)) :=
  (((forH (fun (i3 : Int) (s3 : Int × (List Int)) => (decide (i3 < (s3.2.length : Int)))) (fun (i3 : Int) (s3 : Int × (List Int)) => ((at' s3.2 i3).bind fun _ => some ((w64 (s3.1 + 1)), (List.set s3.2 (Int.toNat i3) s3.1)))) (fun (s3 : Int × (List Int)) => (s3.1, s3.2)) 0 (aK, aA))).bind fun (j1 : Int × (List Int)) => some (j1.1, j1.2))
set_option maxRecDepth 100000 in
set_option maxHeartbeats 4000000 in
theorem laws_markInt64S_run (aA : (List Int)) (aK : Int) (r : Int × (List Int)) (h : laws_markInt64S aA aK = some r) : SCall Tryd.prog 31 [.o (.arr 2 1 aA.length (aA.map (eI .i64))), .v (vi aK)] ⟨[.v (vi r.1)], [(0, .arr 2 1 r.2.length (r.2.map (eI .i64)))], false⟩ := by
  refine scall_in Tryd.func31 rfl [(.tmp 4)] rfl (fun r => ⟨[.v (vi r.1)], [(0, .arr 2 1 r.2.length (r.2.map (eI .i64)))], false⟩) (r := r) ?_
  unfold laws_markInt64S at h
  refine swp_seq ?_
  refine swp_reg ?_
  refine SRun.ck tbok 1 ⟨19, [(0, .own 1000000), (1, vi aK)], [(1000000, .arr 2 1 aA.length (aA.map (eI .i64)))]⟩ ?_
  refine SRun.nil ?_
  refine nx_n ?_
  refine swp_seq ?_
  refine swp_seq ?_
  refine swp_reg ?_
  refine SRun.ck tbok 1 ⟨19, [(0, .own 1000000), (1, vi aK), (5, vi 0)], [(1000000, .arr 2 1 aA.length (aA.map (eI .i64)))]⟩ ?_
  refine SRun.nil ?_
  refine nx_n ?_
  refine swp_seqJ h (fun j1 => ⟨19, [(1, vi j1.1)], [(1000000, .arr 2 1 j1.2.length (j1.2.map (eI .i64)))]⟩) (fun v2 h => ?_) (fun j1 h => ?_)
  refine swp_blk (a := v2) ?_
  refine swp_lpL (r := v2) (s := (0, aK, aA)) _ (fun s3 => ⟨19, [(0, .own 1000000), (1, vi s3.2.1), (5, vi s3.1)], [(1000000, .arr 2 1 s3.2.2.length (s3.2.2.map (eI .i64)))]⟩) _ (Le.sub0) h (fun s3 v4 h => ?_)
  refine swp_seq ?_
  refine swp_seq ?_
  refine swp_reg ?_
  refine SRun.ck tbok 4 ⟨19, [(0, .own 1000000), (1, vi s3.2.1), (5, vi s3.1), (9, vb (decide (s3.1 < (s3.2.2.length : Int))))], [(1000000, .arr 2 1 s3.2.2.length (s3.2.2.map (eI .i64)))]⟩ ?_
  refine SRun.nil ?_
  refine nx_n ?_
  refine swp_cond (b := (decide (s3.1 < (s3.2.2.length : Int)))) (by kernel_rfl) (fun hb => ?_) (fun hb => ?_)
  replace h := cond_t hb h
  refine swp_skip ?_
  refine nx_n ?_
  refine swp_seq ?_
  refine swp_seqJ h (fun j5 => ⟨19, [(0, .own 1000000), (1, vi j5.1), (5, vi s3.1)], [(1000000, .arr 2 1 j5.2.length (j5.2.map (eI .i64)))]⟩) (fun v6 h => ?_) (fun j5 h => ?_)
  refine swp_blk (a := v6) ?_
  refine swp_seq ?_
  refine swp_reg ?_
  refine SRun.ck tbok 3 ⟨19, [(0, .own 1000000), (1, vi s3.2.1), (5, vi s3.1), (12, .own 1000000), (13, vi s3.1), (14, vi s3.2.1)], [(1000000, .arr 2 1 s3.2.2.length (s3.2.2.map (eI .i64)))]⟩ ?_
  obtain ⟨x7, hx7, h⟩ := bind_some h
  refine SRun.ls (x_index_own (d := 1000000) (L := s3.2.2) (f := (eI .i64)) (ti := ti50) (tj := ti2) (e := 2) (e' := 2) (m := 1) (k := .i64) tbok rfl hx7) ?_
  refine SRun.estep (x_store_own (d := 1000000) (m := 1) (j := 0) (L := s3.2.2) (f := (eI .i64)) (x := s3.2.1) (z := x7) (ti := ti2) (e := 2) (ts := [.int .i64 s3.2.1]) (vs := [vi s3.2.1]) (v := vi s3.2.1) tbok rfl rfl hx7) ?_
  refine SRun.nil ?_
  refine nx_n ?_
  refine swp_reg ?_
  refine SRun.ck tbok 3 ⟨19, [(0, .own 1000000), (1, vi (w64 (s3.2.1 + 1))), (5, vi s3.1)], [(1000000, .arr 2 1 (List.set s3.2.2 (Int.toNat s3.1) s3.2.1).length ((List.set s3.2.2 (Int.toNat s3.1) s3.2.1).map (eI .i64)))]⟩ ?_
  refine SRun.nil ?_
  replace h := Option.some.inj h
  subst h
  exact q_bn (q_j (Le.sub0))
  refine swp_reg ?_
  refine SRun.ck tbok 3 ⟨19, [(0, .own 1000000), (1, vi j5.1), (5, vi (w64 (s3.1 + 1)))], [(1000000, .arr 2 1 j5.2.length (j5.2.map (eI .i64)))]⟩ ?_
  refine SRun.nil ?_
  replace h := Option.some.inj h
  subst h
  exact q_l (Le.sub0)
  replace h := cond_f hb h
  refine swp_exit ?_
  replace h := Option.some.inj h
  subst h
  exact nx_e (q_re (q_bh (q_j (Le.sub0))))
  refine swp_seq ?_
  refine swp_reg ?_
  refine SRun.ck tbok 2 ⟨19, [(4, vi j1.1)], [(1000000, .arr 2 1 j1.2.length (j1.2.map (eI .i64)))]⟩ ?_
  refine SRun.nil ?_
  refine nx_n ?_
  refine swp_ret ?_
  replace h := Option.some.inj h
  subst h
  exact q_fr (fin_io (fin1 (by kernel_rfl) (finV rfl SV.flat_of (holds_t (by kernel_rfl)))) (y := .arr 2 1 j1.2.length (j1.2.map (eI .i64))) (by kernel_rfl) rfl (by kernel_rfl) (by kernel_rfl))
theorem ents31 : Ents Tryd.prog 31 := ents_of Tryd.func31 (by kernel_rfl) rfl
noncomputable def laws_markInt64SS (aA : (List (List Int))) (aK : Int) : Option (Int × (List (List Int))) :=
  (((forH (fun (i3 : Int) (s3 : Int × (List (List Int))) => (decide (i3 < (s3.2.length : Int)))) (fun (i3 : Int) (s3 : Int × (List (List Int))) => ((at' s3.2 i3).bind fun x7 => ((laws_markInt64S x7 s3.1).bind fun x8 => some (x8.1, (List.set s3.2 (Int.toNat i3) x8.2))))) (fun (s3 : Int × (List (List Int))) => (s3.1, s3.2)) 0 (aK, aA))).bind fun (j1 : Int × (List (List Int))) => some (j1.1, j1.2))
set_option maxRecDepth 100000 in
set_option maxHeartbeats 4000000 in
theorem laws_markInt64SS_run (aA : (List (List Int))) (aK : Int) (r : Int × (List (List Int))) (h : laws_markInt64SS aA aK = some r) : SCall Tryd.prog 13 [.o (.deep 50 1 aA.length [(.sl 2 1 [.flat])] (aA.map (eL (eI .i64)))), .v (vi aK)] ⟨[.v (vi r.1)], [(0, .deep 50 1 r.2.length [(.sl 2 1 [.flat])] (r.2.map (eL (eI .i64))))], false⟩ := by
  refine scall_in Tryd.func13 rfl [(.tmp 4)] rfl (fun r => ⟨[.v (vi r.1)], [(0, .deep 50 1 r.2.length [(.sl 2 1 [.flat])] (r.2.map (eL (eI .i64))))], false⟩) (r := r) ?_
  unfold laws_markInt64SS at h
  refine swp_seq ?_
  refine swp_reg ?_
  refine SRun.ck tbok 1 ⟨19, [(0, .own 1000000), (1, vi aK)], [(1000000, .deep 50 1 aA.length [(.sl 2 1 [.flat])] (aA.map (eL (eI .i64))))]⟩ ?_
  refine SRun.nil ?_
  refine nx_n ?_
  refine swp_seq ?_
  refine swp_seq ?_
  refine swp_reg ?_
  refine SRun.ck tbok 1 ⟨19, [(0, .own 1000000), (1, vi aK), (5, vi 0)], [(1000000, .deep 50 1 aA.length [(.sl 2 1 [.flat])] (aA.map (eL (eI .i64))))]⟩ ?_
  refine SRun.nil ?_
  refine nx_n ?_
  refine swp_seqJ h (fun j1 => ⟨19, [(1, vi j1.1)], [(1000000, .deep 50 1 j1.2.length [(.sl 2 1 [.flat])] (j1.2.map (eL (eI .i64))))]⟩) (fun v2 h => ?_) (fun j1 h => ?_)
  refine swp_blk (a := v2) ?_
  refine swp_lpL (r := v2) (s := (0, aK, aA)) _ (fun s3 => ⟨19, [(0, .own 1000000), (1, vi s3.2.1), (5, vi s3.1)], [(1000000, .deep 50 1 s3.2.2.length [(.sl 2 1 [.flat])] (s3.2.2.map (eL (eI .i64))))]⟩) _ (Le.sub0) h (fun s3 v4 h => ?_)
  refine swp_seq ?_
  refine swp_seq ?_
  refine swp_reg ?_
  refine SRun.ck tbok 2 ⟨19, [(0, .own 1000000), (1, vi s3.2.1), (5, vi s3.1), (6, vi s3.1), (7, .own 1000000)], [(1000000, .deep 50 1 s3.2.2.length [(.sl 2 1 [.flat])] (s3.2.2.map (eL (eI .i64))))]⟩ ?_
  refine SRun.ls (x_len_deep (d := 1000000) (e := 50) (e' := 50) (m := 1) (n := s3.2.2.length) (ss := [(.sl 2 1 [.flat])]) (es := s3.2.2.map (eL (eI .i64))) (ti := ti24) tbok rfl rfl rfl) ?_
  refine SRun.ck tbok 1 ⟨19, [(0, .own 1000000), (1, vi s3.2.1), (5, vi s3.1), (9, vb (decide (s3.1 < (s3.2.2.length : Int))))], [(1000000, .deep 50 1 s3.2.2.length [(.sl 2 1 [.flat])] (s3.2.2.map (eL (eI .i64))))]⟩ ?_
  refine SRun.nil ?_
  refine nx_n ?_
  refine swp_cond (b := (decide (s3.1 < (s3.2.2.length : Int)))) (by kernel_rfl) (fun hb => ?_) (fun hb => ?_)
  replace h := cond_t hb h
  refine swp_skip ?_
  refine nx_n ?_
  refine swp_seq ?_
  refine swp_seqJ h (fun j5 => ⟨19, [(0, .own 1000000), (1, vi j5.1), (5, vi s3.1)], [(1000000, .deep 50 1 j5.2.length [(.sl 2 1 [.flat])] (j5.2.map (eL (eI .i64))))]⟩) (fun v6 h => ?_) (fun j5 h => ?_)
  refine swp_blk (a := v6) ?_
  refine swp_reg ?_
  refine SRun.ck tbok 2 ⟨19, [(0, .own 1000000), (1, vi s3.2.1), (5, vi s3.1), (12, .own 1000000), (13, vi s3.1)], [(1000000, .deep 50 1 s3.2.2.length [(.sl 2 1 [.flat])] (s3.2.2.map (eL (eI .i64))))]⟩ ?_
  obtain ⟨x7, hx7, h⟩ := bind_some h
  refine SRun.ls (x_index_deep (d := 1000000) (L := s3.2.2) (f := (eL (eI .i64))) (ti := ti24) (tj := ti50) (e := 50) (e' := 50) (m := 1) (k := .i64) (ss := [(.sl 2 1 [.flat])]) tbok rfl hx7) ?_
  refine SRun.estep (x_split (L := s3.2.2) (f := (eL (eI .i64))) (d := 1000000) (k := 2000015) (e := 50) (m := 1) (j := 0) (e' := 2) (m' := 1) (n' := x7.length) (ss := [(.sl 2 1 [.flat])]) (ss' := [.flat]) (es' := x7.map (eI .i64)) (ti := ti50) (y := .arr 2 1 x7.length (x7.map (eI .i64))) hx7 tbok rfl rfl (.inr ⟨rfl, rfl⟩)) ?_
  refine SRun.ck tbok 1 ⟨19, [(0, .own 1000000), (5, vi s3.1), (15, .own 2000015), (16, vi s3.2.1)], [(1000000, .hol 50 1 s3.2.2.length [(.sl 2 1 [.flat])] (s3.2.2.map (eL (eI .i64))) (Int.toNat s3.1) 0 2000015), (2000015, .arr 2 1 x7.length (x7.map (eI .i64)))]⟩ ?_
  obtain ⟨x8, hx8, h⟩ := bind_some h
  refine SRun.estep (x_estep_call (f := 31) (caps := []) (xs := [.own 2000015, vi s3.2.1]) (pre := []) (post := [vi s3.2.1]) (qs := [vi s3.2.1]) (z := .own 2000015) (d := 2000015) (pl := 0) (y := .arr 2 1 x7.length (x7.map (eI .i64))) (y' := .arr 2 1 x8.2.length (x8.2.map (eI .i64))) (res := ⟨[.v (vi x8.1)], [(0, .arr 2 1 x8.2.length (x8.2.map (eI .i64)))], false⟩) (x := vi x8.1) (yo := none) rfl rfl rfl rfl rfl ents31 (laws_markInt64S_run x7 s3.2.1 _ hx8) rfl rfl false (fun _ => rfl) (by intro hc; cases hc)) ?_
  refine SRun.le (x_join (L := s3.2.2) (f := (eL (eI .i64))) (x' := x8.2) (d := 1000000) (k := 2000015) (e := 50) (m := 1) (j := 0) (e' := 2) (m' := 1) (n' := x8.2.length) (ss := [(.sl 2 1 [.flat])]) (ss' := [.flat]) (es' := x8.2.map (eI .i64)) hx7 (flat_map (eI_flat .i64) _)) ?_
  refine SRun.ck tbok 1 ⟨19, [(0, .own 1000000), (1, vi x8.1), (5, vi s3.1)], [(1000000, .deep 50 1 (List.set s3.2.2 (Int.toNat s3.1) x8.2).length [(.sl 2 1 [.flat])] ((List.set s3.2.2 (Int.toNat s3.1) x8.2).map (eL (eI .i64))))]⟩ ?_
  refine SRun.nil ?_
  replace h := Option.some.inj h
  subst h
  exact q_bn (q_j (Le.sub0))
  refine swp_reg ?_
  refine SRun.ck tbok 3 ⟨19, [(0, .own 1000000), (1, vi j5.1), (5, vi (w64 (s3.1 + 1)))], [(1000000, .deep 50 1 j5.2.length [(.sl 2 1 [.flat])] (j5.2.map (eL (eI .i64))))]⟩ ?_
  refine SRun.nil ?_
  replace h := Option.some.inj h
  subst h
  exact q_l (Le.sub0)
  replace h := cond_f hb h
  refine swp_exit ?_
  replace h := Option.some.inj h
  subst h
  exact nx_e (q_re (q_bh (q_j (Le.sub0))))
  refine swp_seq ?_
  refine swp_reg ?_
  refine SRun.ck tbok 2 ⟨19, [(4, vi j1.1)], [(1000000, .deep 50 1 j1.2.length [(.sl 2 1 [.flat])] (j1.2.map (eL (eI .i64))))]⟩ ?_
  refine SRun.nil ?_
  refine nx_n ?_
  refine swp_ret ?_
  replace h := Option.some.inj h
  subst h
  exact q_fr (fin_io (fin1 (by kernel_rfl) (finV rfl SV.flat_of (holds_t (by kernel_rfl)))) (y := .deep 50 1 j1.2.length [(.sl 2 1 [.flat])] (j1.2.map (eL (eI .i64)))) (by kernel_rfl) rfl (by kernel_rfl) (by kernel_rfl))
theorem ents13 : Ents Tryd.prog 13 := ents_of Tryd.func13 (by kernel_rfl) rfl
noncomputable def laws_heldInt64S (aA : (List Int)) (aK : Int) : Option (Int) :=
  (((forN (aA.length : Int) (fun (i3 : Int) (s3 : Int) => ((at' aA i3).bind fun x7 => (bif (x7 != s3) then some (.inr (.inr (-1))) else some (.inl (w64 (s3 + 1)))))) (fun (s3 : Int) => .inl s3) 0 aK)).bind (Sum.elim (fun (j1 : Int) => some j1) some))
set_option maxRecDepth 100000 in
set_option maxHeartbeats 4000000 in
theorem laws_heldInt64S_run (aA : (List Int)) (aK : Int) (r : Int) (h : laws_heldInt64S aA aK = some r) : SCall Tryd.prog 32 [.v (vl (eI .i64) aA), .v (vi aK)] ⟨[.v (vi r)], [], false⟩ := by
  refine scall_in Tryd.func32 rfl [(.tmp 4)] rfl (fun r => ⟨[.v (vi r)], [], false⟩) (r := r) ?_
  unfold laws_heldInt64S at h
  refine swp_seq ?_
  refine swp_reg ?_
  refine SRun.ck tbok 1 ⟨21, [(0, vl (eI .i64) aA), (1, vi aK)], []⟩ ?_
  refine SRun.nil ?_
  refine nx_n ?_
  refine swp_seq ?_
  refine swp_seq ?_
  refine swp_reg ?_
  refine SRun.ck tbok 1 ⟨21, [(0, vl (eI .i64) aA), (1, vi aK), (5, vi 0)], []⟩ ?_
  refine SRun.nil ?_
  refine nx_n ?_
  refine swp_seqE (r := r) h (fun j1 => ⟨21, [(1, vi j1)], []⟩) (fun v2 h => ?_) (fun j1 h => ?_)
  refine swp_blk (a := v2) ?_
  refine swp_lpL (r := v2) (s := (0, aK)) _ (fun s3 => ⟨21, [(0, vl (eI .i64) aA), (1, vi s3.2), (5, vi s3.1)], []⟩) _ (Le.sub0) h (fun s3 v4 h => ?_)
  refine swp_seq ?_
  refine swp_seq ?_
  refine swp_reg ?_
  refine SRun.ck tbok 4 ⟨21, [(0, vl (eI .i64) aA), (1, vi s3.2), (5, vi s3.1), (9, vb (decide (s3.1 < (aA.length : Int))))], []⟩ ?_
  refine SRun.nil ?_
  refine nx_n ?_
  refine swp_cond (b := (decide (s3.1 < (aA.length : Int)))) (by kernel_rfl) (fun hb => ?_) (fun hb => ?_)
  replace h := cond_t hb h
  refine swp_skip ?_
  refine nx_n ?_
  refine swp_seq ?_
  refine swp_seqL (r := v4) h (fun j5 => ⟨21, [(0, vl (eI .i64) aA), (1, vi j5), (5, vi s3.1)], []⟩) (fun v6 h => ?_) (fun j5 h => ?_)
  refine swp_blk (a := v6) ?_
  refine swp_seq ?_
  refine swp_seq ?_
  refine swp_reg ?_
  refine SRun.ck tbok 2 ⟨21, [(0, vl (eI .i64) aA), (1, vi s3.2), (5, vi s3.1), (12, vl (eI .i64) aA), (13, vi s3.1)], []⟩ ?_
  obtain ⟨x7, hx7, h⟩ := bind_some h
  refine SRun.ls (x_index (L := aA) (f := (eI .i64)) (ti := ti50) (tj := ti2) (e := 2) (k := .i64) tbok rfl hx7) ?_
  refine SRun.ck tbok 3 ⟨21, [(0, vl (eI .i64) aA), (1, vi s3.2), (5, vi s3.1), (17, vb (x7 != s3.2))], []⟩ ?_
  refine SRun.nil ?_
  refine nx_n ?_
  refine swp_cond (b := (x7 != s3.2)) (by kernel_rfl) (fun hb => ?_) (fun hb => ?_)
  replace h := cond_t hb h
  refine swp_seq ?_
  refine swp_reg ?_
  refine SRun.ck tbok 1 ⟨21, [(4, vi (-1))], []⟩ ?_
  refine SRun.nil ?_
  refine nx_n ?_
  refine swp_ret ?_
  replace h := Option.some.inj h
  subst h
  exact nx_r (q_br (q_rr (q_rr (q_br (q_rr (q_fr (fin1 (by kernel_rfl) (finV rfl SV.flat_of (holds_t (by kernel_rfl))))))))))
  replace h := cond_f hb h
  refine swp_skip ?_
  refine nx_n ?_
  refine swp_reg ?_
  refine SRun.ck tbok 3 ⟨21, [(0, vl (eI .i64) aA), (1, vi (w64 (s3.2 + 1))), (5, vi s3.1)], []⟩ ?_
  refine SRun.nil ?_
  replace h := Option.some.inj h
  subst h
  exact q_bn (q_l (Le.sub0))
  refine swp_reg ?_
  refine SRun.ck tbok 3 ⟨21, [(0, vl (eI .i64) aA), (1, vi j5), (5, vi (w64 (s3.1 + 1)))], []⟩ ?_
  refine SRun.nil ?_
  replace h := Option.some.inj h
  subst h
  exact q_l (Le.sub0)
  replace h := cond_f hb h
  refine swp_exit ?_
  replace h := Option.some.inj h
  subst h
  exact nx_e (q_re (q_bh (q_l (Le.sub0))))
  refine swp_seq ?_
  refine swp_reg ?_
  refine SRun.ck tbok 2 ⟨21, [(4, vi j1)], []⟩ ?_
  refine SRun.nil ?_
  refine nx_n ?_
  refine swp_ret ?_
  replace h := Option.some.inj h
  subst h
  exact q_fr (fin1 (by kernel_rfl) (finV rfl SV.flat_of (holds_t (by kernel_rfl))))
theorem ents32 : Ents Tryd.prog 32 := ents_of Tryd.func32 (by kernel_rfl) rfl
noncomputable def laws_heldInt64SS (aA : (List (List Int))) (aK : Int) : Option (Int) :=
  (((forN (aA.length : Int) (fun (i3 : Int) (s3 : Int) => ((at' aA i3).bind fun x7 => ((laws_heldInt64S x7 s3).bind fun x8 => (bif (decide (x8 < 0)) then some (.inr (.inr (-1))) else some (.inl x8))))) (fun (s3 : Int) => .inl s3) 0 aK)).bind (Sum.elim (fun (j1 : Int) => some j1) some))
set_option maxRecDepth 100000 in
set_option maxHeartbeats 4000000 in
theorem laws_heldInt64SS_run (aA : (List (List Int))) (aK : Int) (r : Int) (h : laws_heldInt64SS aA aK = some r) : SCall Tryd.prog 14 [.v (vl (eL (eI .i64)) aA), .v (vi aK)] ⟨[.v (vi r)], [], false⟩ := by
  refine scall_in Tryd.func14 rfl [(.tmp 4)] rfl (fun r => ⟨[.v (vi r)], [], false⟩) (r := r) ?_
  unfold laws_heldInt64SS at h
  refine swp_seq ?_
  refine swp_reg ?_
  refine SRun.ck tbok 1 ⟨21, [(0, vl (eL (eI .i64)) aA), (1, vi aK)], []⟩ ?_
  refine SRun.nil ?_
  refine nx_n ?_
  refine swp_seq ?_
  refine swp_seq ?_
  refine swp_reg ?_
  refine SRun.ck tbok 1 ⟨21, [(0, vl (eL (eI .i64)) aA), (1, vi aK), (5, vi 0)], []⟩ ?_
  refine SRun.nil ?_
  refine nx_n ?_
  refine swp_seqE (r := r) h (fun j1 => ⟨21, [(1, vi j1)], []⟩) (fun v2 h => ?_) (fun j1 h => ?_)
  refine swp_blk (a := v2) ?_
  refine swp_lpL (r := v2) (s := (0, aK)) _ (fun s3 => ⟨21, [(0, vl (eL (eI .i64)) aA), (1, vi s3.2), (5, vi s3.1)], []⟩) _ (Le.sub0) h (fun s3 v4 h => ?_)
  refine swp_seq ?_
  refine swp_seq ?_
  refine swp_reg ?_
  refine SRun.ck tbok 4 ⟨21, [(0, vl (eL (eI .i64)) aA), (1, vi s3.2), (5, vi s3.1), (9, vb (decide (s3.1 < (aA.length : Int))))], []⟩ ?_
  refine SRun.nil ?_
  refine nx_n ?_
  refine swp_cond (b := (decide (s3.1 < (aA.length : Int)))) (by kernel_rfl) (fun hb => ?_) (fun hb => ?_)
  replace h := cond_t hb h
  refine swp_skip ?_
  refine nx_n ?_
  refine swp_seq ?_
  refine swp_seqL (r := v4) h (fun j5 => ⟨21, [(0, vl (eL (eI .i64)) aA), (1, vi j5), (5, vi s3.1)], []⟩) (fun v6 h => ?_) (fun j5 h => ?_)
  refine swp_blk (a := v6) ?_
  refine swp_seq ?_
  refine swp_reg ?_
  refine SRun.ck tbok 2 ⟨21, [(0, vl (eL (eI .i64)) aA), (1, vi s3.2), (5, vi s3.1), (12, vl (eL (eI .i64)) aA), (13, vi s3.1)], []⟩ ?_
  obtain ⟨x7, hx7, h⟩ := bind_some h
  refine SRun.ls (x_index (L := aA) (f := (eL (eI .i64))) (ti := ti24) (tj := ti50) (e := 50) (k := .i64) tbok rfl hx7) ?_
  refine SRun.ck tbok 2 ⟨21, [(0, vl (eL (eI .i64)) aA), (5, vi s3.1), (15, vl (eI .i64) x7), (16, vi s3.2)], []⟩ ?_
  obtain ⟨x8, hx8, h⟩ := bind_some h
  refine SRun.ls (x_lstep_call (f := 32) (caps := []) (xs := [vl (eI .i64) x7, vi s3.2]) (ys := [vl (eI .i64) x7, vi s3.2]) (res := ⟨[.v (vi x8)], [], false⟩) (x := vi x8) (y := none) rfl ents32 (laws_heldInt64S_run x7 s3.2 _ hx8) rfl (by intro hc; cases hc)) ?_
  refine SRun.ck tbok 1 ⟨21, [(0, vl (eL (eI .i64)) aA), (1, vi x8), (5, vi s3.1)], []⟩ ?_
  refine SRun.nil ?_
  refine nx_n ?_
  refine swp_seq ?_
  refine swp_reg ?_
  refine SRun.ck tbok 2 ⟨21, [(0, vl (eL (eI .i64)) aA), (1, vi x8), (5, vi s3.1), (19, vb (decide (x8 < 0)))], []⟩ ?_
  refine SRun.nil ?_
  refine nx_n ?_
  refine swp_cond (b := (decide (x8 < 0))) (by kernel_rfl) (fun hb => ?_) (fun hb => ?_)
  replace h := cond_t hb h
  refine swp_seq ?_
  refine swp_reg ?_
  refine SRun.ck tbok 1 ⟨21, [(4, vi (-1))], []⟩ ?_
  refine SRun.nil ?_
  refine nx_n ?_
  refine swp_ret ?_
  replace h := Option.some.inj h
  subst h
  exact q_br (q_rr (q_rr (q_br (q_rr (q_fr (fin1 (by kernel_rfl) (finV rfl SV.flat_of (holds_t (by kernel_rfl)))))))))
  replace h := cond_f hb h
  refine swp_skip ?_
  replace h := Option.some.inj h
  subst h
  exact q_bn (q_l (Le.sub0))
  refine swp_reg ?_
  refine SRun.ck tbok 3 ⟨21, [(0, vl (eL (eI .i64)) aA), (1, vi j5), (5, vi (w64 (s3.1 + 1)))], []⟩ ?_
  refine SRun.nil ?_
  replace h := Option.some.inj h
  subst h
  exact q_l (Le.sub0)
  replace h := cond_f hb h
  refine swp_exit ?_
  replace h := Option.some.inj h
  subst h
  exact nx_e (q_re (q_bh (q_l (Le.sub0))))
  refine swp_seq ?_
  refine swp_reg ?_
  refine SRun.ck tbok 2 ⟨21, [(4, vi j1)], []⟩ ?_
  refine SRun.nil ?_
  refine nx_n ?_
  refine swp_ret ?_
  replace h := Option.some.inj h
  subst h
  exact q_fr (fin1 (by kernel_rfl) (finV rfl SV.flat_of (holds_t (by kernel_rfl))))
theorem ents14 : Ents Tryd.prog 14 := ents_of Tryd.func14 (by kernel_rfl) rfl
noncomputable def laws_FnExactGroupsOf (aAN : Int) (aAList : (List Tie)) : Option (Bool) :=
  ((laws_szTieS aAList 1048576).bind fun x1 => (bif (decide (x1 < 0)) then some true else ((laws_toTieS aAList).bind fun x2 => ((spec_GroupsOf aAN x2).bind fun x3 => ((laws_toTieS aAList).bind fun x4 => ((impl_GroupsOf aAN x4).bind fun x5 => ((((laws_eqInt64SS x5.1 x3.1).bind fun x6 => (bif (!x6) then some true else some (x5.2 != x3.2)))).bind fun (j7 : Bool) => (bif j7 then some false else ((laws_toTieS aAList).bind fun x9 => ((laws_eqTieS x4 x9).bind fun x10 => (bif (!x10) then some false else ((laws_markTieS x4 1).bind fun x11 => (((bif (decide (x11.1 < 0)) then some true else ((laws_eqInt64SS x5.1 x3.1).bind fun x12 => (bif (!x12) then some true else some (x5.2 != x3.2))))).bind fun (j13 : Bool) => (bif j13 then some false else ((laws_markInt64SS x5.1 1).bind fun x15 => ((laws_heldInt64SS x15.2 1).bind fun x16 => (bif (decide (x16 < 0)) then some false else (bif (x16 != x15.1) then some false else ((laws_toTieS aAList).bind fun x17 => ((impl_GroupsOf aAN x17).bind fun x18 => ((((laws_eqInt64SS x18.1 x3.1).bind fun x19 => (bif (!x19) then some true else some (x18.2 != x3.2)))).bind fun (j20 : Bool) => (bif j20 then some false else ((laws_heldInt64SS x15.2 1).bind fun x22 => (bif (decide (x22 < 0)) then some false else (bif (x22 != x15.1) then some false else some true)))))))))))))))))))))))))
set_option maxRecDepth 100000 in
set_option maxHeartbeats 4000000 in
theorem laws_FnExactGroupsOf_run (aAN : Int) (aAList : (List Tie)) (r : Bool) (h : laws_FnExactGroupsOf aAN aAList = some r) : SCall Tryd.prog 3 [.v (vi aAN), .v (vl eTie aAList)] ⟨[.v (vb r)], [], false⟩ := by
  refine scall_in Tryd.func3 rfl [(.tmp 4)] rfl (fun r => ⟨[.v (vb r)], [], false⟩) (r := r) ?_
  unfold laws_FnExactGroupsOf at h
  refine swp_seq ?_
  refine swp_reg ?_
  refine SRun.ck tbok 1 ⟨101, [(0, vi aAN), (1, vl eTie aAList)], []⟩ ?_
  refine SRun.nil ?_
  refine nx_n ?_
  refine swp_seq ?_
  refine swp_reg ?_
  refine SRun.ck tbok 1 ⟨101, [(0, vi aAN), (1, vl eTie aAList), (5, vi 1048576)], []⟩ ?_
  refine SRun.nil ?_
  refine nx_n ?_
  refine swp_seq ?_
  refine swp_reg ?_
  refine SRun.ck tbok 2 ⟨101, [(0, vi aAN), (1, vl eTie aAList), (16, vl eTie aAList), (17, vi 1048576)], []⟩ ?_
  obtain ⟨x1, hx1, h⟩ := bind_some h
  refine SRun.ls (x_lstep_call (f := 6) (caps := []) (xs := [vl eTie aAList, vi 1048576]) (ys := [vl eTie aAList, vi 1048576]) (res := ⟨[.v (vi x1)], [], false⟩) (x := vi x1) (y := none) rfl ents6 (laws_szTieS_run aAList 1048576 _ hx1) rfl (by intro hc; cases hc)) ?_
  refine SRun.ck tbok 1 ⟨101, [(0, vi aAN), (1, vl eTie aAList), (5, vi x1)], []⟩ ?_
  refine SRun.nil ?_
  refine nx_n ?_
  refine swp_seq ?_
  refine swp_seq ?_
  refine swp_reg ?_
  refine SRun.ck tbok 2 ⟨101, [(0, vi aAN), (1, vl eTie aAList), (20, vb (decide (x1 < 0)))], []⟩ ?_
  refine SRun.nil ?_
  refine nx_n ?_
  refine swp_cond (b := (decide (x1 < 0))) (by kernel_rfl) (fun hb => ?_) (fun hb => ?_)
  replace h := cond_t hb h
  refine swp_seq ?_
  refine swp_reg ?_
  refine SRun.ck tbok 1 ⟨101, [(4, vb true)], []⟩ ?_
  refine SRun.nil ?_
  refine nx_n ?_
  refine swp_ret ?_
  replace h := Option.some.inj h
  subst h
  exact nx_r (q_fr (fin1 (by kernel_rfl) (finV rfl SV.flat_of (holds_t (by kernel_rfl)))))
  replace h := cond_f hb h
  refine swp_skip ?_
  refine nx_n ?_
  refine swp_seq ?_
  refine swp_reg ?_
  refine SRun.ck tbok 2 ⟨101, [(0, vi aAN), (1, vl eTie aAList), (22, vi aAN), (23, vl eTie aAList)], []⟩ ?_
  obtain ⟨x2, hx2, h⟩ := bind_some h
  refine SRun.ls (x_lstep_call (f := 8) (caps := []) (xs := [vl eTie aAList]) (ys := [vl eTie aAList]) (res := ⟨[.own 47 4 x2.length (x2.map eTie)], [], false⟩) (x := .own 24) (y := some (.arr 47 4 x2.length (x2.map eTie))) rfl ents8 (laws_toTieS_run aAList _ hx2) rfl (by intro hc; cases hc)) ?_
  obtain ⟨x3, hx3, h⟩ := bind_some h
  refine SRun.ls (x_lstep_call (f := 7) (caps := []) (xs := [vi aAN, .own 24]) (ys := [vi aAN, vl eTie x2]) (res := ⟨[.deep 50 1 x3.1.length [(.sl 2 1 [.flat])] (x3.1.map (eL (eI .i64))), .v (vi x3.2)], [], false⟩) (x := .tup [.own 25, vi x3.2]) (y := some (.deep 50 1 x3.1.length [(.sl 2 1 [.flat])] (x3.1.map (eL (eI .i64))))) rfl ents7 (spec_GroupsOf_run aAN x2 _ hx3) rfl (by intro hc; cases hc)) ?_
  refine SRun.ck tbok 5 ⟨101, [(0, vi aAN), (1, vl eTie aAList), (6, .own 25), (7, vi x3.2)], [(25, .deep 50 1 x3.1.length [(.sl 2 1 [.flat])] (x3.1.map (eL (eI .i64))))]⟩ ?_
  refine SRun.nil ?_
  refine nx_n ?_
  refine swp_seq ?_
  refine swp_reg ?_
  refine SRun.ck tbok 1 ⟨101, [(0, vi aAN), (1, vl eTie aAList), (6, .own 25), (7, vi x3.2), (28, vl eTie aAList)], [(25, .deep 50 1 x3.1.length [(.sl 2 1 [.flat])] (x3.1.map (eL (eI .i64))))]⟩ ?_
  obtain ⟨x4, hx4, h⟩ := bind_some h
  refine SRun.ls (x_lstep_call (f := 8) (caps := []) (xs := [vl eTie aAList]) (ys := [vl eTie aAList]) (res := ⟨[.own 47 4 x4.length (x4.map eTie)], [], false⟩) (x := .own 29) (y := some (.arr 47 4 x4.length (x4.map eTie))) rfl ents8 (laws_toTieS_run aAList _ hx4) rfl (by intro hc; cases hc)) ?_
  refine SRun.ck tbok 1 ⟨101, [(0, vi aAN), (1, vl eTie aAList), (6, .own 25), (7, vi x3.2), (8, .own 29)], [(25, .deep 50 1 x3.1.length [(.sl 2 1 [.flat])] (x3.1.map (eL (eI .i64)))), (29, .arr 47 4 x4.length (x4.map eTie))]⟩ ?_
  refine SRun.nil ?_
  refine nx_n ?_
  refine swp_seq ?_
  refine swp_reg ?_
  refine SRun.ck tbok 2 ⟨101, [(0, vi aAN), (1, vl eTie aAList), (6, .own 25), (7, vi x3.2), (8, .own 29), (31, vi aAN), (32, .own 29)], [(25, .deep 50 1 x3.1.length [(.sl 2 1 [.flat])] (x3.1.map (eL (eI .i64)))), (29, .arr 47 4 x4.length (x4.map eTie))]⟩ ?_
  obtain ⟨x5, hx5, h⟩ := bind_some h
  refine SRun.ls (x_lstep_call (f := 9) (caps := []) (xs := [vi aAN, .own 29]) (ys := [vi aAN, vl eTie x4]) (res := ⟨[.deep 50 1 x5.1.length [(.sl 2 1 [.flat])] (x5.1.map (eL (eI .i64))), .v (vi x5.2)], [], false⟩) (x := .tup [.own 33, vi x5.2]) (y := some (.deep 50 1 x5.1.length [(.sl 2 1 [.flat])] (x5.1.map (eL (eI .i64))))) rfl ents9 (impl_GroupsOf_run aAN x4 _ hx5) rfl (by intro hc; cases hc)) ?_
  refine SRun.ck tbok 5 ⟨101, [(0, vi aAN), (1, vl eTie aAList), (6, .own 25), (7, vi x3.2), (8, .own 29), (9, .own 33), (10, vi x5.2)], [(25, .deep 50 1 x3.1.length [(.sl 2 1 [.flat])] (x3.1.map (eL (eI .i64)))), (29, .arr 47 4 x4.length (x4.map eTie)), (33, .deep 50 1 x5.1.length [(.sl 2 1 [.flat])] (x5.1.map (eL (eI .i64))))]⟩ ?_
  refine SRun.nil ?_
  refine nx_n ?_
  refine swp_seq ?_
  refine swp_seq ?_
  refine swp_regJ h (fun j7 => ⟨101, [(0, vi aAN), (1, vl eTie aAList), (6, .own 6), (7, vi x3.2), (8, .own 8), (9, .own 9), (10, vi x5.2), (44, vb j7)], [(6, .deep 50 1 x3.1.length [(.sl 2 1 [.flat])] (x3.1.map (eL (eI .i64)))), (8, .arr 47 4 x4.length (x4.map eTie)), (9, .deep 50 1 x5.1.length [(.sl 2 1 [.flat])] (x5.1.map (eL (eI .i64))))]⟩) (fun v8 h => ?_) (fun j7 h => ?_)
  refine SRun.ck tbok 2 ⟨101, [(0, vi aAN), (1, vl eTie aAList), (6, .own 25), (7, vi x3.2), (8, .own 29), (9, .own 33), (10, vi x5.2), (36, .own 33), (37, .own 25)], [(25, .deep 50 1 x3.1.length [(.sl 2 1 [.flat])] (x3.1.map (eL (eI .i64)))), (29, .arr 47 4 x4.length (x4.map eTie)), (33, .deep 50 1 x5.1.length [(.sl 2 1 [.flat])] (x5.1.map (eL (eI .i64))))]⟩ ?_
  obtain ⟨x6, hx6, h⟩ := bind_some h
  refine SRun.ls (x_lstep_call (f := 10) (caps := []) (xs := [.own 33, .own 25]) (ys := [vl (eL (eI .i64)) x5.1, vl (eL (eI .i64)) x3.1]) (res := ⟨[.v (vb x6)], [], false⟩) (x := vb x6) (y := none) rfl ents10 (laws_eqInt64SS_run x5.1 x3.1 _ hx6) rfl (by intro hc; cases hc)) ?_
  refine SRun.ck tbok 2 ⟨101, [(0, vi aAN), (1, vl eTie aAList), (6, .own 25), (7, vi x3.2), (8, .own 29), (9, .own 33), (10, vi x5.2), (40, vb (!x6))], [(25, .deep 50 1 x3.1.length [(.sl 2 1 [.flat])] (x3.1.map (eL (eI .i64)))), (29, .arr 47 4 x4.length (x4.map eTie)), (33, .deep 50 1 x5.1.length [(.sl 2 1 [.flat])] (x5.1.map (eL (eI .i64))))]⟩ ?_
  refine SRun.cut [(40, fun b => b)] (b := (!x6)) (by kernel_rfl) (fun hb => ?_) (fun hb => ?_)
  replace h := cond_t hb h
  refine SRun.ck tbok 4 ⟨101, [(0, vi aAN), (1, vl eTie aAList), (6, .own 25), (7, vi x3.2), (8, .own 29), (9, .own 33), (10, vi x5.2), (44, vb true)], [(25, .deep 50 1 x3.1.length [(.sl 2 1 [.flat])] (x3.1.map (eL (eI .i64)))), (29, .arr 47 4 x4.length (x4.map eTie)), (33, .deep 50 1 x5.1.length [(.sl 2 1 [.flat])] (x5.1.map (eL (eI .i64))))]⟩ ?_
  refine SRun.nil ?_
  replace h := Option.some.inj h
  subst h
  exact (Le.sub' ([(0, vi aAN), (1, vl eTie aAList), (6, .own 25), (7, vi x3.2), (8, .own 29), (9, .own 33), (10, vi x5.2), (44, vb true)] : List (Nat × SV)) ([(25, .deep 50 1 x3.1.length [(.sl 2 1 [.flat])] (x3.1.map (eL (eI .i64)))), (29, .arr 47 4 x4.length (x4.map eTie)), (33, .deep 50 1 x5.1.length [(.sl 2 1 [.flat])] (x5.1.map (eL (eI .i64))))] : List (Nat × SO)) (by kernel_rfl) (by kernel_rfl)).trans ((Le.ren' (d := 25) (e := 6) (by kernel_rfl) (by kernel_rfl) (by kernel_rfl)).trans ((Le.ren' (d := 29) (e := 8) (by kernel_rfl) (by kernel_rfl) (by kernel_rfl)).trans ((Le.ren' (d := 33) (e := 9) (by kernel_rfl) (by kernel_rfl) (by kernel_rfl)).trans (Le.sub0))))
  replace h := cond_f hb h
  refine SRun.ck tbok 4 ⟨101, [(0, vi aAN), (1, vl eTie aAList), (6, .own 25), (7, vi x3.2), (8, .own 29), (9, .own 33), (10, vi x5.2), (44, vb (x5.2 != x3.2))], [(25, .deep 50 1 x3.1.length [(.sl 2 1 [.flat])] (x3.1.map (eL (eI .i64)))), (29, .arr 47 4 x4.length (x4.map eTie)), (33, .deep 50 1 x5.1.length [(.sl 2 1 [.flat])] (x5.1.map (eL (eI .i64))))]⟩ ?_
  refine SRun.nil ?_
  replace h := Option.some.inj h
  subst h
  exact (Le.sub' ([(0, vi aAN), (1, vl eTie aAList), (6, .own 25), (7, vi x3.2), (8, .own 29), (9, .own 33), (10, vi x5.2), (44, vb (x5.2 != x3.2))] : List (Nat × SV)) ([(25, .deep 50 1 x3.1.length [(.sl 2 1 [.flat])] (x3.1.map (eL (eI .i64)))), (29, .arr 47 4 x4.length (x4.map eTie)), (33, .deep 50 1 x5.1.length [(.sl 2 1 [.flat])] (x5.1.map (eL (eI .i64))))] : List (Nat × SO)) (by kernel_rfl) (by kernel_rfl)).trans ((Le.ren' (d := 25) (e := 6) (by kernel_rfl) (by kernel_rfl) (by kernel_rfl)).trans ((Le.ren' (d := 29) (e := 8) (by kernel_rfl) (by kernel_rfl) (by kernel_rfl)).trans ((Le.ren' (d := 33) (e := 9) (by kernel_rfl) (by kernel_rfl) (by kernel_rfl)).trans (Le.sub0))))
  refine swp_cond (b := j7) (by kernel_rfl) (fun hb => ?_) (fun hb => ?_)
  replace h := cond_t hb h
  refine swp_seq ?_
  refine swp_reg ?_
  refine SRun.ck tbok 1 ⟨101, [(4, vb false)], []⟩ ?_
  refine SRun.nil ?_
  refine nx_n ?_
  refine swp_ret ?_
  replace h := Option.some.inj h
  subst h
  exact nx_r (q_fr (fin1 (by kernel_rfl) (finV rfl SV.flat_of (holds_t (by kernel_rfl)))))
  replace h := cond_f hb h
  refine swp_skip ?_
  refine nx_n ?_
  refine swp_seq ?_
  refine swp_seq ?_
  refine swp_reg ?_
  refine SRun.ck tbok 2 ⟨101, [(0, vi aAN), (1, vl eTie aAList), (6, .own 6), (7, vi x3.2), (8, .own 8), (9, .own 9), (10, vi x5.2), (45, .own 8), (46, vl eTie aAList)], [(6, .deep 50 1 x3.1.length [(.sl 2 1 [.flat])] (x3.1.map (eL (eI .i64)))), (8, .arr 47 4 x4.length (x4.map eTie)), (9, .deep 50 1 x5.1.length [(.sl 2 1 [.flat])] (x5.1.map (eL (eI .i64))))]⟩ ?_
  obtain ⟨x9, hx9, h⟩ := bind_some h
  refine SRun.ls (x_lstep_call (f := 8) (caps := []) (xs := [vl eTie aAList]) (ys := [vl eTie aAList]) (res := ⟨[.own 47 4 x9.length (x9.map eTie)], [], false⟩) (x := .own 47) (y := some (.arr 47 4 x9.length (x9.map eTie))) rfl ents8 (laws_toTieS_run aAList _ hx9) rfl (by intro hc; cases hc)) ?_
  obtain ⟨x10, hx10, h⟩ := bind_some h
  refine SRun.ls (x_lstep_call (f := 11) (caps := []) (xs := [.own 8, .own 47]) (ys := [vl eTie x4, vl eTie x9]) (res := ⟨[.v (vb x10)], [], false⟩) (x := vb x10) (y := none) rfl ents11 (laws_eqTieS_run x4 x9 _ hx10) rfl (by intro hc; cases hc)) ?_
  refine SRun.ck tbok 1 ⟨101, [(0, vi aAN), (1, vl eTie aAList), (6, .own 6), (7, vi x3.2), (8, .own 8), (9, .own 9), (10, vi x5.2), (49, vb (!x10))], [(6, .deep 50 1 x3.1.length [(.sl 2 1 [.flat])] (x3.1.map (eL (eI .i64)))), (8, .arr 47 4 x4.length (x4.map eTie)), (9, .deep 50 1 x5.1.length [(.sl 2 1 [.flat])] (x5.1.map (eL (eI .i64))))]⟩ ?_
  refine SRun.nil ?_
  refine nx_n ?_
  refine swp_cond (b := (!x10)) (by kernel_rfl) (fun hb => ?_) (fun hb => ?_)
  replace h := cond_t hb h
  refine swp_seq ?_
  refine swp_reg ?_
  refine SRun.ck tbok 1 ⟨101, [(4, vb false)], []⟩ ?_
  refine SRun.nil ?_
  refine nx_n ?_
  refine swp_ret ?_
  replace h := Option.some.inj h
  subst h
  exact nx_r (q_fr (fin1 (by kernel_rfl) (finV rfl SV.flat_of (holds_t (by kernel_rfl)))))
  replace h := cond_f hb h
  refine swp_skip ?_
  refine nx_n ?_
  refine swp_seq ?_
  refine swp_reg ?_
  refine SRun.ck tbok 1 ⟨101, [(0, vi aAN), (1, vl eTie aAList), (6, .own 6), (7, vi x3.2), (8, .own 8), (9, .own 9), (10, vi x5.2), (11, vi 1)], [(6, .deep 50 1 x3.1.length [(.sl 2 1 [.flat])] (x3.1.map (eL (eI .i64)))), (8, .arr 47 4 x4.length (x4.map eTie)), (9, .deep 50 1 x5.1.length [(.sl 2 1 [.flat])] (x5.1.map (eL (eI .i64))))]⟩ ?_
  refine SRun.nil ?_
  refine nx_n ?_
  refine swp_seq ?_
  refine swp_reg ?_
  refine SRun.ck tbok 2 ⟨101, [(0, vi aAN), (1, vl eTie aAList), (6, .own 6), (7, vi x3.2), (9, .own 9), (10, vi x5.2), (50, .own 8), (51, vi 1)], [(6, .deep 50 1 x3.1.length [(.sl 2 1 [.flat])] (x3.1.map (eL (eI .i64)))), (8, .arr 47 4 x4.length (x4.map eTie)), (9, .deep 50 1 x5.1.length [(.sl 2 1 [.flat])] (x5.1.map (eL (eI .i64))))]⟩ ?_
  obtain ⟨x11, hx11, h⟩ := bind_some h
  refine SRun.estep (x_estep_call (f := 12) (caps := []) (xs := [.own 8, vi 1]) (pre := []) (post := [vi 1]) (qs := [vi 1]) (z := .own 8) (d := 8) (pl := 0) (y := .arr 47 4 x4.length (x4.map eTie)) (y' := .arr 47 4 x11.2.length (x11.2.map eTie)) (res := ⟨[.v (vi x11.1)], [(0, .arr 47 4 x11.2.length (x11.2.map eTie))], false⟩) (x := vi x11.1) (yo := none) rfl rfl rfl rfl rfl ents12 (laws_markTieS_run x4 1 _ hx11) rfl rfl false (fun _ => rfl) (by intro hc; cases hc)) ?_
  refine SRun.ck tbok 1 ⟨101, [(0, vi aAN), (1, vl eTie aAList), (6, .own 6), (7, vi x3.2), (9, .own 9), (10, vi x5.2), (11, vi x11.1)], [(6, .deep 50 1 x3.1.length [(.sl 2 1 [.flat])] (x3.1.map (eL (eI .i64)))), (9, .deep 50 1 x5.1.length [(.sl 2 1 [.flat])] (x5.1.map (eL (eI .i64))))]⟩ ?_
  refine SRun.nil ?_
  refine nx_n ?_
  refine swp_seq ?_
  refine swp_seq ?_
  refine swp_regJ h (fun j13 => ⟨101, [(0, vi aAN), (1, vl eTie aAList), (6, .own 6), (7, vi x3.2), (9, .own 9), (65, vb j13)], [(6, .deep 50 1 x3.1.length [(.sl 2 1 [.flat])] (x3.1.map (eL (eI .i64)))), (9, .deep 50 1 x5.1.length [(.sl 2 1 [.flat])] (x5.1.map (eL (eI .i64))))]⟩) (fun v14 h => ?_) (fun j13 h => ?_)
  refine SRun.ck tbok 3 ⟨101, [(0, vi aAN), (1, vl eTie aAList), (6, .own 6), (7, vi x3.2), (9, .own 9), (10, vi x5.2), (55, vb (decide (x11.1 < 0)))], [(6, .deep 50 1 x3.1.length [(.sl 2 1 [.flat])] (x3.1.map (eL (eI .i64)))), (9, .deep 50 1 x5.1.length [(.sl 2 1 [.flat])] (x5.1.map (eL (eI .i64))))]⟩ ?_
  refine SRun.cut [(55, fun b => b)] (b := (decide (x11.1 < 0))) (by kernel_rfl) (fun hb => ?_) (fun hb => ?_)
  replace h := cond_t hb h
  refine SRun.ck tbok 10 ⟨101, [(0, vi aAN), (1, vl eTie aAList), (6, .own 6), (7, vi x3.2), (9, .own 9), (65, vb true)], [(6, .deep 50 1 x3.1.length [(.sl 2 1 [.flat])] (x3.1.map (eL (eI .i64)))), (9, .deep 50 1 x5.1.length [(.sl 2 1 [.flat])] (x5.1.map (eL (eI .i64))))]⟩ ?_
  refine SRun.nil ?_
  replace h := Option.some.inj h
  subst h
  exact Le.sub0
  replace h := cond_f hb h
  refine SRun.ck tbok 2 ⟨101, [(0, vi aAN), (1, vl eTie aAList), (6, .own 6), (7, vi x3.2), (9, .own 9), (10, vi x5.2), (55, vb false), (56, .own 9), (57, .own 6)], [(6, .deep 50 1 x3.1.length [(.sl 2 1 [.flat])] (x3.1.map (eL (eI .i64)))), (9, .deep 50 1 x5.1.length [(.sl 2 1 [.flat])] (x5.1.map (eL (eI .i64))))]⟩ ?_
  obtain ⟨x12, hx12, h⟩ := bind_some h
  refine SRun.ls (x_lstep_call (f := 10) (caps := []) (xs := [.own 9, .own 6]) (ys := [vl (eL (eI .i64)) x5.1, vl (eL (eI .i64)) x3.1]) (res := ⟨[.v (vb x12)], [], false⟩) (x := vb x12) (y := none) rfl ents10 (laws_eqInt64SS_run x5.1 x3.1 _ hx12) rfl (by intro hc; cases hc)) ?_
  refine SRun.ck tbok 3 ⟨101, [(0, vi aAN), (1, vl eTie aAList), (6, .own 6), (7, vi x3.2), (9, .own 9), (10, vi x5.2), (61, vb (!x12))], [(6, .deep 50 1 x3.1.length [(.sl 2 1 [.flat])] (x3.1.map (eL (eI .i64)))), (9, .deep 50 1 x5.1.length [(.sl 2 1 [.flat])] (x5.1.map (eL (eI .i64))))]⟩ ?_
  refine SRun.cut [(61, fun b => b)] (b := (!x12)) (by kernel_rfl) (fun hb => ?_) (fun hb => ?_)
  replace h := cond_t hb h
  refine SRun.ck tbok 4 ⟨101, [(0, vi aAN), (1, vl eTie aAList), (6, .own 6), (7, vi x3.2), (9, .own 9), (65, vb true)], [(6, .deep 50 1 x3.1.length [(.sl 2 1 [.flat])] (x3.1.map (eL (eI .i64)))), (9, .deep 50 1 x5.1.length [(.sl 2 1 [.flat])] (x5.1.map (eL (eI .i64))))]⟩ ?_
  refine SRun.nil ?_
  replace h := Option.some.inj h
  subst h
  exact Le.sub0
  replace h := cond_f hb h
  refine SRun.ck tbok 4 ⟨101, [(0, vi aAN), (1, vl eTie aAList), (6, .own 6), (7, vi x3.2), (9, .own 9), (65, vb (x5.2 != x3.2))], [(6, .deep 50 1 x3.1.length [(.sl 2 1 [.flat])] (x3.1.map (eL (eI .i64)))), (9, .deep 50 1 x5.1.length [(.sl 2 1 [.flat])] (x5.1.map (eL (eI .i64))))]⟩ ?_
  refine SRun.nil ?_
  replace h := Option.some.inj h
  subst h
  exact Le.sub0
  refine swp_cond (b := j13) (by kernel_rfl) (fun hb => ?_) (fun hb => ?_)
  replace h := cond_t hb h
  refine swp_seq ?_
  refine swp_reg ?_
  refine SRun.ck tbok 1 ⟨101, [(4, vb false)], []⟩ ?_
  refine SRun.nil ?_
  refine nx_n ?_
  refine swp_ret ?_
  replace h := Option.some.inj h
  subst h
  exact nx_r (q_fr (fin1 (by kernel_rfl) (finV rfl SV.flat_of (holds_t (by kernel_rfl)))))
  replace h := cond_f hb h
  refine swp_skip ?_
  refine nx_n ?_
  refine swp_seq ?_
  refine swp_reg ?_
  refine SRun.ck tbok 1 ⟨101, [(0, vi aAN), (1, vl eTie aAList), (6, .own 6), (7, vi x3.2), (9, .own 9), (12, vi 1)], [(6, .deep 50 1 x3.1.length [(.sl 2 1 [.flat])] (x3.1.map (eL (eI .i64)))), (9, .deep 50 1 x5.1.length [(.sl 2 1 [.flat])] (x5.1.map (eL (eI .i64))))]⟩ ?_
  refine SRun.nil ?_
  refine nx_n ?_
  refine swp_seq ?_
  refine swp_reg ?_
  refine SRun.ck tbok 2 ⟨101, [(0, vi aAN), (1, vl eTie aAList), (6, .own 6), (7, vi x3.2), (9, .own 9), (66, .own 9), (67, vi 1)], [(6, .deep 50 1 x3.1.length [(.sl 2 1 [.flat])] (x3.1.map (eL (eI .i64)))), (9, .deep 50 1 x5.1.length [(.sl 2 1 [.flat])] (x5.1.map (eL (eI .i64))))]⟩ ?_
  obtain ⟨x15, hx15, h⟩ := bind_some h
  refine SRun.estep (x_estep_call (f := 13) (caps := []) (xs := [.own 9, vi 1]) (pre := []) (post := [vi 1]) (qs := [vi 1]) (z := .own 9) (d := 9) (pl := 0) (y := .deep 50 1 x5.1.length [(.sl 2 1 [.flat])] (x5.1.map (eL (eI .i64)))) (y' := .deep 50 1 x15.2.length [(.sl 2 1 [.flat])] (x15.2.map (eL (eI .i64)))) (res := ⟨[.v (vi x15.1)], [(0, .deep 50 1 x15.2.length [(.sl 2 1 [.flat])] (x15.2.map (eL (eI .i64))))], false⟩) (x := vi x15.1) (yo := none) rfl rfl rfl rfl rfl ents13 (laws_markInt64SS_run x5.1 1 _ hx15) rfl rfl false (fun _ => rfl) (by intro hc; cases hc)) ?_
  refine SRun.ck tbok 1 ⟨101, [(0, vi aAN), (1, vl eTie aAList), (6, .own 6), (7, vi x3.2), (9, .own 9), (12, vi x15.1)], [(6, .deep 50 1 x3.1.length [(.sl 2 1 [.flat])] (x3.1.map (eL (eI .i64)))), (9, .deep 50 1 x15.2.length [(.sl 2 1 [.flat])] (x15.2.map (eL (eI .i64))))]⟩ ?_
  refine SRun.nil ?_
  refine nx_n ?_
  refine swp_seq ?_
  refine swp_reg ?_
  refine SRun.ck tbok 1 ⟨101, [(0, vi aAN), (1, vl eTie aAList), (6, .own 6), (7, vi x3.2), (9, .own 9), (12, vi x15.1), (13, vi 1)], [(6, .deep 50 1 x3.1.length [(.sl 2 1 [.flat])] (x3.1.map (eL (eI .i64)))), (9, .deep 50 1 x15.2.length [(.sl 2 1 [.flat])] (x15.2.map (eL (eI .i64))))]⟩ ?_
  refine SRun.nil ?_
  refine nx_n ?_
  refine swp_seq ?_
  refine swp_reg ?_
  refine SRun.ck tbok 2 ⟨101, [(0, vi aAN), (1, vl eTie aAList), (6, .own 6), (7, vi x3.2), (9, .own 9), (12, vi x15.1), (69, .own 9), (70, vi 1)], [(6, .deep 50 1 x3.1.length [(.sl 2 1 [.flat])] (x3.1.map (eL (eI .i64)))), (9, .deep 50 1 x15.2.length [(.sl 2 1 [.flat])] (x15.2.map (eL (eI .i64))))]⟩ ?_
  obtain ⟨x16, hx16, h⟩ := bind_some h
  refine SRun.ls (x_lstep_call (f := 14) (caps := []) (xs := [.own 9, vi 1]) (ys := [vl (eL (eI .i64)) x15.2, vi 1]) (res := ⟨[.v (vi x16)], [], false⟩) (x := vi x16) (y := none) rfl ents14 (laws_heldInt64SS_run x15.2 1 _ hx16) rfl (by intro hc; cases hc)) ?_
  refine SRun.ck tbok 1 ⟨101, [(0, vi aAN), (1, vl eTie aAList), (6, .own 6), (7, vi x3.2), (9, .own 9), (12, vi x15.1), (13, vi x16)], [(6, .deep 50 1 x3.1.length [(.sl 2 1 [.flat])] (x3.1.map (eL (eI .i64)))), (9, .deep 50 1 x15.2.length [(.sl 2 1 [.flat])] (x15.2.map (eL (eI .i64))))]⟩ ?_
  refine SRun.nil ?_
  refine nx_n ?_
  refine swp_seq ?_
  refine swp_seq ?_
  refine swp_reg ?_
  refine SRun.ck tbok 2 ⟨101, [(0, vi aAN), (1, vl eTie aAList), (6, .own 6), (7, vi x3.2), (9, .own 9), (12, vi x15.1), (13, vi x16), (73, vb (decide (x16 < 0)))], [(6, .deep 50 1 x3.1.length [(.sl 2 1 [.flat])] (x3.1.map (eL (eI .i64)))), (9, .deep 50 1 x15.2.length [(.sl 2 1 [.flat])] (x15.2.map (eL (eI .i64))))]⟩ ?_
  refine SRun.nil ?_
  refine nx_n ?_
  refine swp_cond (b := (decide (x16 < 0))) (by kernel_rfl) (fun hb => ?_) (fun hb => ?_)
  replace h := cond_t hb h
  refine swp_seq ?_
  refine swp_reg ?_
  refine SRun.ck tbok 1 ⟨101, [(4, vb false)], []⟩ ?_
  refine SRun.nil ?_
  refine nx_n ?_
  refine swp_ret ?_
  replace h := Option.some.inj h
  subst h
  exact nx_r (q_fr (fin1 (by kernel_rfl) (finV rfl SV.flat_of (holds_t (by kernel_rfl)))))
  replace h := cond_f hb h
  refine swp_skip ?_
  refine nx_n ?_
  refine swp_seq ?_
  refine swp_seq ?_
  refine swp_reg ?_
  refine SRun.ck tbok 3 ⟨101, [(0, vi aAN), (1, vl eTie aAList), (6, .own 6), (7, vi x3.2), (9, .own 9), (12, vi x15.1), (76, vb (x16 != x15.1))], [(6, .deep 50 1 x3.1.length [(.sl 2 1 [.flat])] (x3.1.map (eL (eI .i64)))), (9, .deep 50 1 x15.2.length [(.sl 2 1 [.flat])] (x15.2.map (eL (eI .i64))))]⟩ ?_
  refine SRun.nil ?_
  refine nx_n ?_
  refine swp_cond (b := (x16 != x15.1)) (by kernel_rfl) (fun hb => ?_) (fun hb => ?_)
  replace h := cond_t hb h
  refine swp_seq ?_
  refine swp_reg ?_
  refine SRun.ck tbok 1 ⟨101, [(4, vb false)], []⟩ ?_
  refine SRun.nil ?_
  refine nx_n ?_
  refine swp_ret ?_
  replace h := Option.some.inj h
  subst h
  exact nx_r (q_fr (fin1 (by kernel_rfl) (finV rfl SV.flat_of (holds_t (by kernel_rfl)))))
  replace h := cond_f hb h
  refine swp_skip ?_
  refine nx_n ?_
  refine swp_seq ?_
  refine swp_reg ?_
  refine SRun.ck tbok 2 ⟨101, [(6, .own 6), (7, vi x3.2), (9, .own 9), (12, vi x15.1), (78, vi aAN), (79, vl eTie aAList)], [(6, .deep 50 1 x3.1.length [(.sl 2 1 [.flat])] (x3.1.map (eL (eI .i64)))), (9, .deep 50 1 x15.2.length [(.sl 2 1 [.flat])] (x15.2.map (eL (eI .i64))))]⟩ ?_
  obtain ⟨x17, hx17, h⟩ := bind_some h
  refine SRun.ls (x_lstep_call (f := 8) (caps := []) (xs := [vl eTie aAList]) (ys := [vl eTie aAList]) (res := ⟨[.own 47 4 x17.length (x17.map eTie)], [], false⟩) (x := .own 80) (y := some (.arr 47 4 x17.length (x17.map eTie))) rfl ents8 (laws_toTieS_run aAList _ hx17) rfl (by intro hc; cases hc)) ?_
  obtain ⟨x18, hx18, h⟩ := bind_some h
  refine SRun.ls (x_lstep_call (f := 9) (caps := []) (xs := [vi aAN, .own 80]) (ys := [vi aAN, vl eTie x17]) (res := ⟨[.deep 50 1 x18.1.length [(.sl 2 1 [.flat])] (x18.1.map (eL (eI .i64))), .v (vi x18.2)], [], false⟩) (x := .tup [.own 81, vi x18.2]) (y := some (.deep 50 1 x18.1.length [(.sl 2 1 [.flat])] (x18.1.map (eL (eI .i64))))) rfl ents9 (impl_GroupsOf_run aAN x17 _ hx18) rfl (by intro hc; cases hc)) ?_
  refine SRun.ck tbok 5 ⟨101, [(6, .own 6), (7, vi x3.2), (9, .own 9), (12, vi x15.1), (14, .own 81), (15, vi x18.2)], [(6, .deep 50 1 x3.1.length [(.sl 2 1 [.flat])] (x3.1.map (eL (eI .i64)))), (9, .deep 50 1 x15.2.length [(.sl 2 1 [.flat])] (x15.2.map (eL (eI .i64)))), (81, .deep 50 1 x18.1.length [(.sl 2 1 [.flat])] (x18.1.map (eL (eI .i64))))]⟩ ?_
  refine SRun.nil ?_
  refine nx_n ?_
  refine swp_seq ?_
  refine swp_seq ?_
  refine swp_regJ h (fun j20 => ⟨101, [(9, .own 9), (12, vi x15.1), (92, vb j20)], [(9, .deep 50 1 x15.2.length [(.sl 2 1 [.flat])] (x15.2.map (eL (eI .i64))))]⟩) (fun v21 h => ?_) (fun j20 h => ?_)
  refine SRun.ck tbok 2 ⟨101, [(7, vi x3.2), (9, .own 9), (12, vi x15.1), (15, vi x18.2), (84, .own 81), (85, .own 6)], [(6, .deep 50 1 x3.1.length [(.sl 2 1 [.flat])] (x3.1.map (eL (eI .i64)))), (9, .deep 50 1 x15.2.length [(.sl 2 1 [.flat])] (x15.2.map (eL (eI .i64)))), (81, .deep 50 1 x18.1.length [(.sl 2 1 [.flat])] (x18.1.map (eL (eI .i64))))]⟩ ?_
  obtain ⟨x19, hx19, h⟩ := bind_some h
  refine SRun.ls (x_lstep_call (f := 10) (caps := []) (xs := [.own 81, .own 6]) (ys := [vl (eL (eI .i64)) x18.1, vl (eL (eI .i64)) x3.1]) (res := ⟨[.v (vb x19)], [], false⟩) (x := vb x19) (y := none) rfl ents10 (laws_eqInt64SS_run x18.1 x3.1 _ hx19) rfl (by intro hc; cases hc)) ?_
  refine SRun.ck tbok 2 ⟨101, [(7, vi x3.2), (9, .own 9), (12, vi x15.1), (15, vi x18.2), (88, vb (!x19))], [(9, .deep 50 1 x15.2.length [(.sl 2 1 [.flat])] (x15.2.map (eL (eI .i64))))]⟩ ?_
  refine SRun.cut [(88, fun b => b)] (b := (!x19)) (by kernel_rfl) (fun hb => ?_) (fun hb => ?_)
  replace h := cond_t hb h
  refine SRun.ck tbok 4 ⟨101, [(9, .own 9), (12, vi x15.1), (92, vb true)], [(9, .deep 50 1 x15.2.length [(.sl 2 1 [.flat])] (x15.2.map (eL (eI .i64))))]⟩ ?_
  refine SRun.nil ?_
  replace h := Option.some.inj h
  subst h
  exact Le.sub0
  replace h := cond_f hb h
  refine SRun.ck tbok 4 ⟨101, [(9, .own 9), (12, vi x15.1), (92, vb (x18.2 != x3.2))], [(9, .deep 50 1 x15.2.length [(.sl 2 1 [.flat])] (x15.2.map (eL (eI .i64))))]⟩ ?_
  refine SRun.nil ?_
  replace h := Option.some.inj h
  subst h
  exact Le.sub0
  refine swp_cond (b := j20) (by kernel_rfl) (fun hb => ?_) (fun hb => ?_)
  replace h := cond_t hb h
  refine swp_seq ?_
  refine swp_reg ?_
  refine SRun.ck tbok 1 ⟨101, [(4, vb false)], []⟩ ?_
  refine SRun.nil ?_
  refine nx_n ?_
  refine swp_ret ?_
  replace h := Option.some.inj h
  subst h
  exact nx_r (q_fr (fin1 (by kernel_rfl) (finV rfl SV.flat_of (holds_t (by kernel_rfl)))))
  replace h := cond_f hb h
  refine swp_skip ?_
  refine nx_n ?_
  refine swp_seq ?_
  refine swp_reg ?_
  refine SRun.ck tbok 1 ⟨101, [(9, .own 9), (12, vi x15.1), (13, vi 1)], [(9, .deep 50 1 x15.2.length [(.sl 2 1 [.flat])] (x15.2.map (eL (eI .i64))))]⟩ ?_
  refine SRun.nil ?_
  refine nx_n ?_
  refine swp_seq ?_
  refine swp_reg ?_
  refine SRun.ck tbok 2 ⟨101, [(12, vi x15.1), (93, .own 9), (94, vi 1)], [(9, .deep 50 1 x15.2.length [(.sl 2 1 [.flat])] (x15.2.map (eL (eI .i64))))]⟩ ?_
  obtain ⟨x22, hx22, h⟩ := bind_some h
  refine SRun.ls (x_lstep_call (f := 14) (caps := []) (xs := [.own 9, vi 1]) (ys := [vl (eL (eI .i64)) x15.2, vi 1]) (res := ⟨[.v (vi x22)], [], false⟩) (x := vi x22) (y := none) rfl ents14 (laws_heldInt64SS_run x15.2 1 _ hx22) rfl (by intro hc; cases hc)) ?_
  refine SRun.ck tbok 1 ⟨101, [(12, vi x15.1), (13, vi x22)], []⟩ ?_
  refine SRun.nil ?_
  refine nx_n ?_
  refine swp_seq ?_
  refine swp_seq ?_
  refine swp_reg ?_
  refine SRun.ck tbok 2 ⟨101, [(12, vi x15.1), (13, vi x22), (97, vb (decide (x22 < 0)))], []⟩ ?_
  refine SRun.nil ?_
  refine nx_n ?_
  refine swp_cond (b := (decide (x22 < 0))) (by kernel_rfl) (fun hb => ?_) (fun hb => ?_)
  replace h := cond_t hb h
  refine swp_seq ?_
  refine swp_reg ?_
  refine SRun.ck tbok 1 ⟨101, [(4, vb false)], []⟩ ?_
  refine SRun.nil ?_
  refine nx_n ?_
  refine swp_ret ?_
  replace h := Option.some.inj h
  subst h
  exact nx_r (q_fr (fin1 (by kernel_rfl) (finV rfl SV.flat_of (holds_t (by kernel_rfl)))))
  replace h := cond_f hb h
  refine swp_skip ?_
  refine nx_n ?_
  refine swp_seq ?_
  refine swp_seq ?_
  refine swp_reg ?_
  refine SRun.ck tbok 3 ⟨101, [(100, vb (x22 != x15.1))], []⟩ ?_
  refine SRun.nil ?_
  refine nx_n ?_
  refine swp_cond (b := (x22 != x15.1)) (by kernel_rfl) (fun hb => ?_) (fun hb => ?_)
  replace h := cond_t hb h
  refine swp_seq ?_
  refine swp_reg ?_
  refine SRun.ck tbok 1 ⟨101, [(4, vb false)], []⟩ ?_
  refine SRun.nil ?_
  refine nx_n ?_
  refine swp_ret ?_
  replace h := Option.some.inj h
  subst h
  exact nx_r (q_fr (fin1 (by kernel_rfl) (finV rfl SV.flat_of (holds_t (by kernel_rfl)))))
  replace h := cond_f hb h
  refine swp_skip ?_
  refine nx_n ?_
  refine swp_seq ?_
  refine swp_reg ?_
  refine SRun.ck tbok 1 ⟨101, [(4, vb true)], []⟩ ?_
  refine SRun.nil ?_
  refine nx_n ?_
  refine swp_ret ?_
  replace h := Option.some.inj h
  subst h
  exact q_fr (fin1 (by kernel_rfl) (finV rfl SV.flat_of (holds_t (by kernel_rfl))))
theorem ents3 : Ents Tryd.prog 3 := ents_of Tryd.func3 (by kernel_rfl) rfl
noncomputable def laws_szCandidate (aA : Candidate) (aLeft : Int) : Option (Int) :=
  (bif (decide ((w64 (aLeft - (aA.Code.size : Int))) < 0)) then some (-1) else (bif (decide ((w64 ((w64 (aLeft - (aA.Code.size : Int))) - (aA.Text.size : Int))) < 0)) then some (-1) else some (w64 ((w64 (aLeft - (aA.Code.size : Int))) - (aA.Text.size : Int)))))
set_option maxRecDepth 100000 in
set_option maxHeartbeats 4000000 in
theorem laws_szCandidate_run (aA : Candidate) (aLeft : Int) (r : Int) (h : laws_szCandidate aA aLeft = some r) : SCall Tryd.prog 33 [.v (.agg [vs aA.Code, vs aA.Text, vi aA.At.X, vi aA.At.Y]), .v (vi aLeft)] ⟨[.v (vi r)], [], false⟩ := by
  refine scall_in Tryd.func33 rfl [(.tmp 4)] rfl (fun r => ⟨[.v (vi r)], [], false⟩) (r := r) ?_
  unfold laws_szCandidate at h
  refine swp_seq ?_
  refine swp_reg ?_
  refine SRun.ck tbok 2 ⟨20, [(1, vi aLeft), (2, .ref 2 0)], [(2, .box [vs aA.Code, vs aA.Text, vi aA.At.X, vi aA.At.Y])]⟩ ?_
  refine SRun.nil ?_
  refine nx_n ?_
  refine swp_seq ?_
  refine swp_reg ?_
  refine SRun.ck tbok 6 ⟨20, [(1, vi (w64 (aLeft - (aA.Code.size : Int)))), (2, .ref 2 0)], [(2, .box [vs aA.Code, vs aA.Text, vi aA.At.X, vi aA.At.Y])]⟩ ?_
  refine SRun.nil ?_
  refine nx_n ?_
  refine swp_seq ?_
  refine swp_seq ?_
  refine swp_reg ?_
  refine SRun.ck tbok 2 ⟨20, [(1, vi (w64 (aLeft - (aA.Code.size : Int)))), (2, .ref 2 0), (11, vb (decide ((w64 (aLeft - (aA.Code.size : Int))) < 0)))], [(2, .box [vs aA.Code, vs aA.Text, vi aA.At.X, vi aA.At.Y])]⟩ ?_
  refine SRun.nil ?_
  refine nx_n ?_
  refine swp_cond (b := (decide ((w64 (aLeft - (aA.Code.size : Int))) < 0))) (by kernel_rfl) (fun hb => ?_) (fun hb => ?_)
  replace h := cond_t hb h
  refine swp_seq ?_
  refine swp_reg ?_
  refine SRun.ck tbok 1 ⟨20, [(4, vi (-1))], []⟩ ?_
  refine SRun.nil ?_
  refine nx_n ?_
  refine swp_ret ?_
  replace h := Option.some.inj h
  subst h
  exact nx_r (q_fr (fin1 (by kernel_rfl) (finV rfl SV.flat_of (holds_t (by kernel_rfl)))))
  replace h := cond_f hb h
  refine swp_skip ?_
  refine nx_n ?_
  refine swp_seq ?_
  refine swp_reg ?_
  refine SRun.ck tbok 6 ⟨20, [(1, vi (w64 ((w64 (aLeft - (aA.Code.size : Int))) - (aA.Text.size : Int))))], []⟩ ?_
  refine SRun.nil ?_
  refine nx_n ?_
  refine swp_seq ?_
  refine swp_seq ?_
  refine swp_reg ?_
  refine SRun.ck tbok 2 ⟨20, [(1, vi (w64 ((w64 (aLeft - (aA.Code.size : Int))) - (aA.Text.size : Int)))), (18, vb (decide ((w64 ((w64 (aLeft - (aA.Code.size : Int))) - (aA.Text.size : Int))) < 0)))], []⟩ ?_
  refine SRun.nil ?_
  refine nx_n ?_
  refine swp_cond (b := (decide ((w64 ((w64 (aLeft - (aA.Code.size : Int))) - (aA.Text.size : Int))) < 0))) (by kernel_rfl) (fun hb => ?_) (fun hb => ?_)
  replace h := cond_t hb h
  refine swp_seq ?_
  refine swp_reg ?_
  refine SRun.ck tbok 1 ⟨20, [(4, vi (-1))], []⟩ ?_
  refine SRun.nil ?_
  refine nx_n ?_
  refine swp_ret ?_
  replace h := Option.some.inj h
  subst h
  exact nx_r (q_fr (fin1 (by kernel_rfl) (finV rfl SV.flat_of (holds_t (by kernel_rfl)))))
  replace h := cond_f hb h
  refine swp_skip ?_
  refine nx_n ?_
  refine swp_seq ?_
  refine swp_reg ?_
  refine SRun.ck tbok 2 ⟨20, [(4, vi (w64 ((w64 (aLeft - (aA.Code.size : Int))) - (aA.Text.size : Int))))], []⟩ ?_
  refine SRun.nil ?_
  refine nx_n ?_
  refine swp_ret ?_
  replace h := Option.some.inj h
  subst h
  exact q_fr (fin1 (by kernel_rfl) (finV rfl SV.flat_of (holds_t (by kernel_rfl))))
theorem ents33 : Ents Tryd.prog 33 := ents_of Tryd.func33 (by kernel_rfl) rfl
noncomputable def laws_szCandidateS (aA : (List Candidate)) (aLeft : Int) : Option (Int) :=
  (bif (decide ((w64 (aLeft - (aA.length : Int))) < 0)) then some (-1) else (((forN (aA.length : Int) (fun (i3 : Int) (s3 : Int) => ((at' aA i3).bind fun x7 => ((laws_szCandidate x7 s3).bind fun x8 => (bif (decide (x8 < 0)) then some (.inr (.inr (-1))) else some (.inl x8))))) (fun (s3 : Int) => .inl s3) 0 (w64 (aLeft - (aA.length : Int))))).bind (Sum.elim (fun (j1 : Int) => some j1) some)))
set_option maxRecDepth 100000 in
set_option maxHeartbeats 4000000 in
theorem laws_szCandidateS_run (aA : (List Candidate)) (aLeft : Int) (r : Int) (h : laws_szCandidateS aA aLeft = some r) : SCall Tryd.prog 15 [.v (vl eCandidate aA), .v (vi aLeft)] ⟨[.v (vi r)], [], false⟩ := by
  refine scall_in Tryd.func15 rfl [(.tmp 4)] rfl (fun r => ⟨[.v (vi r)], [], false⟩) (r := r) ?_
  unfold laws_szCandidateS at h
  refine swp_seq ?_
  refine swp_reg ?_
  refine SRun.ck tbok 1 ⟨27, [(0, vl eCandidate aA), (1, vi aLeft)], []⟩ ?_
  refine SRun.nil ?_
  refine nx_n ?_
  refine swp_seq ?_
  refine swp_reg ?_
  refine SRun.ck tbok 5 ⟨27, [(0, vl eCandidate aA), (1, vi (w64 (aLeft - (aA.length : Int))))], []⟩ ?_
  refine SRun.nil ?_
  refine nx_n ?_
  refine swp_seq ?_
  refine swp_seq ?_
  refine swp_reg ?_
  refine SRun.ck tbok 2 ⟨27, [(0, vl eCandidate aA), (1, vi (w64 (aLeft - (aA.length : Int)))), (11, vb (decide ((w64 (aLeft - (aA.length : Int))) < 0)))], []⟩ ?_
  refine SRun.nil ?_
  refine nx_n ?_
  refine swp_cond (b := (decide ((w64 (aLeft - (aA.length : Int))) < 0))) (by kernel_rfl) (fun hb => ?_) (fun hb => ?_)
  replace h := cond_t hb h
  refine swp_seq ?_
  refine swp_reg ?_
  refine SRun.ck tbok 1 ⟨27, [(4, vi (-1))], []⟩ ?_
  refine SRun.nil ?_
  refine nx_n ?_
  refine swp_ret ?_
  replace h := Option.some.inj h
  subst h
  exact nx_r (q_fr (fin1 (by kernel_rfl) (finV rfl SV.flat_of (holds_t (by kernel_rfl)))))
  replace h := cond_f hb h
  refine swp_skip ?_
  refine nx_n ?_
  refine swp_seq ?_
  refine swp_seq ?_
  refine swp_reg ?_
  refine SRun.ck tbok 1 ⟨27, [(0, vl eCandidate aA), (1, vi (w64 (aLeft - (aA.length : Int)))), (5, vi 0)], []⟩ ?_
  refine SRun.nil ?_
  refine nx_n ?_
  refine swp_seqE (r := r) h (fun j1 => ⟨27, [(1, vi j1)], []⟩) (fun v2 h => ?_) (fun j1 h => ?_)
  refine swp_blk (a := v2) ?_
  refine swp_lpL (r := v2) (s := (0, (w64 (aLeft - (aA.length : Int))))) _ (fun s3 => ⟨27, [(0, vl eCandidate aA), (1, vi s3.2), (5, vi s3.1)], []⟩) _ (Le.sub0) h (fun s3 v4 h => ?_)
  refine swp_seq ?_
  refine swp_seq ?_
  refine swp_reg ?_
  refine SRun.ck tbok 4 ⟨27, [(0, vl eCandidate aA), (1, vi s3.2), (5, vi s3.1), (15, vb (decide (s3.1 < (aA.length : Int))))], []⟩ ?_
  refine SRun.nil ?_
  refine nx_n ?_
  refine swp_cond (b := (decide (s3.1 < (aA.length : Int)))) (by kernel_rfl) (fun hb => ?_) (fun hb => ?_)
  replace h := cond_t hb h
  refine swp_skip ?_
  refine nx_n ?_
  refine swp_seq ?_
  refine swp_seqL (r := v4) h (fun j5 => ⟨27, [(0, vl eCandidate aA), (1, vi j5), (5, vi s3.1)], []⟩) (fun v6 h => ?_) (fun j5 h => ?_)
  refine swp_blk (a := v6) ?_
  refine swp_seq ?_
  refine swp_reg ?_
  refine SRun.ck tbok 2 ⟨27, [(0, vl eCandidate aA), (1, vi s3.2), (5, vi s3.1), (18, vl eCandidate aA), (19, vi s3.1)], []⟩ ?_
  obtain ⟨x7, hx7, h⟩ := bind_some h
  refine SRun.ls (x_index (L := aA) (f := eCandidate) (ti := ti34) (tj := ti58) (e := 58) (k := .i64) tbok rfl hx7) ?_
  refine SRun.ck tbok 2 ⟨27, [(0, vl eCandidate aA), (5, vi s3.1), (21, .agg [vs x7.Code, vs x7.Text, vi x7.At.X, vi x7.At.Y]), (22, vi s3.2)], []⟩ ?_
  obtain ⟨x8, hx8, h⟩ := bind_some h
  refine SRun.ls (x_lstep_call (f := 33) (caps := []) (xs := [.agg [vs x7.Code, vs x7.Text, vi x7.At.X, vi x7.At.Y], vi s3.2]) (ys := [.agg [vs x7.Code, vs x7.Text, vi x7.At.X, vi x7.At.Y], vi s3.2]) (res := ⟨[.v (vi x8)], [], false⟩) (x := vi x8) (y := none) rfl ents33 (laws_szCandidate_run x7 s3.2 _ hx8) rfl (by intro hc; cases hc)) ?_
  refine SRun.ck tbok 1 ⟨27, [(0, vl eCandidate aA), (1, vi x8), (5, vi s3.1)], []⟩ ?_
  refine SRun.nil ?_
  refine nx_n ?_
  refine swp_seq ?_
  refine swp_reg ?_
  refine SRun.ck tbok 2 ⟨27, [(0, vl eCandidate aA), (1, vi x8), (5, vi s3.1), (25, vb (decide (x8 < 0)))], []⟩ ?_
  refine SRun.nil ?_
  refine nx_n ?_
  refine swp_cond (b := (decide (x8 < 0))) (by kernel_rfl) (fun hb => ?_) (fun hb => ?_)
  replace h := cond_t hb h
  refine swp_seq ?_
  refine swp_reg ?_
  refine SRun.ck tbok 1 ⟨27, [(4, vi (-1))], []⟩ ?_
  refine SRun.nil ?_
  refine nx_n ?_
  refine swp_ret ?_
  replace h := Option.some.inj h
  subst h
  exact q_br (q_rr (q_rr (q_br (q_rr (q_fr (fin1 (by kernel_rfl) (finV rfl SV.flat_of (holds_t (by kernel_rfl)))))))))
  replace h := cond_f hb h
  refine swp_skip ?_
  replace h := Option.some.inj h
  subst h
  exact q_bn (q_l (Le.sub0))
  refine swp_reg ?_
  refine SRun.ck tbok 3 ⟨27, [(0, vl eCandidate aA), (1, vi j5), (5, vi (w64 (s3.1 + 1)))], []⟩ ?_
  refine SRun.nil ?_
  replace h := Option.some.inj h
  subst h
  exact q_l (Le.sub0)
  replace h := cond_f hb h
  refine swp_exit ?_
  replace h := Option.some.inj h
  subst h
  exact nx_e (q_re (q_bh (q_l (Le.sub0))))
  refine swp_seq ?_
  refine swp_reg ?_
  refine SRun.ck tbok 2 ⟨27, [(4, vi j1)], []⟩ ?_
  refine SRun.nil ?_
  refine nx_n ?_
  refine swp_ret ?_
  replace h := Option.some.inj h
  subst h
  exact q_fr (fin1 (by kernel_rfl) (finV rfl SV.flat_of (holds_t (by kernel_rfl))))
theorem ents15 : Ents Tryd.prog 15 := ents_of Tryd.func15 (by kernel_rfl) rfl
noncomputable def laws_toPoint (aA : Point) : Option (Point) :=
  some aA
set_option maxRecDepth 100000 in
set_option maxHeartbeats 4000000 in
theorem laws_toPoint_run (aA : Point) (r : Point) (h : laws_toPoint aA = some r) : SCall Tryd.prog 58 [.v (.agg [vi aA.X, vi aA.Y])] ⟨[.v (.agg [vi r.X, vi r.Y])], [], false⟩ := by
  refine scall_in Tryd.func58 rfl [(.cell 2 59)] rfl (fun r => ⟨[.v (.agg [vi r.X, vi r.Y])], [], false⟩) (r := r) ?_
  unfold laws_toPoint at h
  refine swp_seq ?_
  refine swp_reg ?_
  refine SRun.ck tbok 2 ⟨11, [(1, .ref 1 0), (2, .ref 2 0)], [(1, .box [vi aA.X, vi aA.Y]), (2, .box [vi 0, vi 0])]⟩ ?_
  refine SRun.nil ?_
  refine nx_n ?_
  refine swp_seq ?_
  refine swp_reg ?_
  refine SRun.ck tbok 1 ⟨11, [(1, .ref 1 0), (2, .ref 2 0), (3, .ref 3 0)], [(1, .box [vi aA.X, vi aA.Y]), (2, .box [vi 0, vi 0]), (3, .box [vi 0, vi 0])]⟩ ?_
  refine SRun.nil ?_
  refine nx_n ?_
  refine swp_seq ?_
  refine swp_reg ?_
  refine SRun.ck tbok 3 ⟨11, [(1, .ref 1 0), (2, .ref 2 0), (3, .ref 3 0), (5, vi aA.X), (6, .ref 3 0)], [(1, .box [vi aA.X, vi aA.Y]), (2, .box [vi 0, vi 0]), (3, .box [vi 0, vi 0])]⟩ ?_
  refine SRun.estep (x_estep_store (d := 3) (k := 0) (ti := ti2) (cs := [vi 0, vi 0]) (vs := [vi aA.X]) (v := vi aA.X) tbok rfl rfl) ?_
  refine SRun.nil ?_
  refine nx_n ?_
  refine swp_seq ?_
  refine swp_reg ?_
  refine SRun.ck tbok 3 ⟨11, [(2, .ref 2 0), (3, .ref 3 0), (8, vi aA.Y), (9, .ref 3 1)], [(2, .box [vi 0, vi 0]), (3, .box [vi aA.X, vi 0])]⟩ ?_
  refine SRun.estep (x_estep_store (d := 3) (k := 1) (ti := ti2) (cs := [vi aA.X, vi 0]) (vs := [vi aA.Y]) (v := vi aA.Y) tbok rfl rfl) ?_
  refine SRun.nil ?_
  refine nx_n ?_
  refine swp_seq ?_
  refine swp_reg ?_
  refine SRun.ck tbok 1 ⟨11, [(2, .ref 2 0), (10, .agg [vi aA.X, vi aA.Y])], [(2, .box [vi 0, vi 0])]⟩ ?_
  refine SRun.estep (x_estep_store (d := 2) (k := 0) (ti := ti59) (cs := [vi 0, vi 0]) (vs := [vi aA.X, vi aA.Y]) (v := .agg [vi aA.X, vi aA.Y]) tbok rfl rfl) ?_
  refine SRun.nil ?_
  refine nx_n ?_
  refine swp_ret ?_
  replace h := Option.some.inj h
  subst h
  exact q_fr (fin1 (by kernel_rfl) (finV rfl SV.flat_of (holds_c tbok (d := 2) (cs := [vi aA.X, vi aA.Y]) (ti := ti59) (by kernel_rfl) (by kernel_rfl) (by kernel_rfl) (by kernel_rfl))))
theorem ents58 : Ents Tryd.prog 58 := ents_of Tryd.func58 (by kernel_rfl) rfl
noncomputable def laws_toCandidate (aA : Candidate) : Option (Candidate) :=
  ((laws_toPoint aA.At).bind fun x1 => some (Candidate.mk aA.Code aA.Text x1))
set_option maxRecDepth 100000 in
set_option maxHeartbeats 4000000 in
theorem laws_toCandidate_run (aA : Candidate) (r : Candidate) (h : laws_toCandidate aA = some r) : SCall Tryd.prog 38 [.v (.agg [vs aA.Code, vs aA.Text, vi aA.At.X, vi aA.At.Y])] ⟨[.v (.agg [vs r.Code, vs r.Text, vi r.At.X, vi r.At.Y])], [], false⟩ := by
  refine scall_in Tryd.func38 rfl [(.cell 2 61)] rfl (fun r => ⟨[.v (.agg [vs r.Code, vs r.Text, vi r.At.X, vi r.At.Y])], [], false⟩) (r := r) ?_
  unfold laws_toCandidate at h
  refine swp_seq ?_
  refine swp_reg ?_
  refine SRun.ck tbok 2 ⟨15, [(1, .ref 1 0), (2, .ref 2 0)], [(1, .box [vs aA.Code, vs aA.Text, vi aA.At.X, vi aA.At.Y]), (2, .box [vs (ByteArray.mk #[]), vs (ByteArray.mk #[]), vi 0, vi 0])]⟩ ?_
  refine SRun.nil ?_
  refine nx_n ?_
  refine swp_seq ?_
  refine swp_reg ?_
  refine SRun.ck tbok 1 ⟨15, [(1, .ref 1 0), (2, .ref 2 0), (3, .ref 3 0)], [(1, .box [vs aA.Code, vs aA.Text, vi aA.At.X, vi aA.At.Y]), (2, .box [vs (ByteArray.mk #[]), vs (ByteArray.mk #[]), vi 0, vi 0]), (3, .box [vs (ByteArray.mk #[]), vs (ByteArray.mk #[]), vi 0, vi 0])]⟩ ?_
  refine SRun.nil ?_
  refine nx_n ?_
  refine swp_seq ?_
  refine swp_reg ?_
  refine SRun.ck tbok 3 ⟨15, [(1, .ref 1 0), (2, .ref 2 0), (3, .ref 3 0), (5, vs aA.Code), (6, .ref 3 0)], [(1, .box [vs aA.Code, vs aA.Text, vi aA.At.X, vi aA.At.Y]), (2, .box [vs (ByteArray.mk #[]), vs (ByteArray.mk #[]), vi 0, vi 0]), (3, .box [vs (ByteArray.mk #[]), vs (ByteArray.mk #[]), vi 0, vi 0])]⟩ ?_
  refine SRun.estep (x_estep_store (d := 3) (k := 0) (ti := ti9) (cs := [vs (ByteArray.mk #[]), vs (ByteArray.mk #[]), vi 0, vi 0]) (vs := [vs aA.Code]) (v := vs aA.Code) tbok rfl rfl) ?_
  refine SRun.nil ?_
  refine nx_n ?_
  refine swp_seq ?_
  refine swp_reg ?_
  refine SRun.ck tbok 3 ⟨15, [(1, .ref 1 0), (2, .ref 2 0), (3, .ref 3 0), (8, vs aA.Text), (9, .ref 3 1)], [(1, .box [vs aA.Code, vs aA.Text, vi aA.At.X, vi aA.At.Y]), (2, .box [vs (ByteArray.mk #[]), vs (ByteArray.mk #[]), vi 0, vi 0]), (3, .box [vs aA.Code, vs (ByteArray.mk #[]), vi 0, vi 0])]⟩ ?_
  refine SRun.estep (x_estep_store (d := 3) (k := 1) (ti := ti9) (cs := [vs aA.Code, vs (ByteArray.mk #[]), vi 0, vi 0]) (vs := [vs aA.Text]) (v := vs aA.Text) tbok rfl rfl) ?_
  refine SRun.nil ?_
  refine nx_n ?_
  refine swp_seq ?_
  refine swp_reg ?_
  refine SRun.ck tbok 2 ⟨15, [(2, .ref 2 0), (3, .ref 3 0), (11, .agg [vi aA.At.X, vi aA.At.Y])], [(2, .box [vs (ByteArray.mk #[]), vs (ByteArray.mk #[]), vi 0, vi 0]), (3, .box [vs aA.Code, vs aA.Text, vi 0, vi 0])]⟩ ?_
  obtain ⟨x1, hx1, h⟩ := bind_some h
  refine SRun.ls (x_lstep_call (f := 58) (caps := []) (xs := [.agg [vi aA.At.X, vi aA.At.Y]]) (ys := [.agg [vi aA.At.X, vi aA.At.Y]]) (res := ⟨[.v (.agg [vi x1.X, vi x1.Y])], [], false⟩) (x := .agg [vi x1.X, vi x1.Y]) (y := none) rfl ents58 (laws_toPoint_run aA.At _ hx1) rfl (by intro hc; cases hc)) ?_
  refine SRun.ck tbok 1 ⟨15, [(2, .ref 2 0), (3, .ref 3 0), (12, .agg [vi x1.X, vi x1.Y]), (13, .ref 3 2)], [(2, .box [vs (ByteArray.mk #[]), vs (ByteArray.mk #[]), vi 0, vi 0]), (3, .box [vs aA.Code, vs aA.Text, vi 0, vi 0])]⟩ ?_
  refine SRun.estep (x_estep_store (d := 3) (k := 2) (ti := ti59) (cs := [vs aA.Code, vs aA.Text, vi 0, vi 0]) (vs := [vi x1.X, vi x1.Y]) (v := .agg [vi x1.X, vi x1.Y]) tbok rfl rfl) ?_
  refine SRun.nil ?_
  refine nx_n ?_
  refine swp_seq ?_
  refine swp_reg ?_
  refine SRun.ck tbok 1 ⟨15, [(2, .ref 2 0), (14, .agg [vs aA.Code, vs aA.Text, vi x1.X, vi x1.Y])], [(2, .box [vs (ByteArray.mk #[]), vs (ByteArray.mk #[]), vi 0, vi 0])]⟩ ?_
  refine SRun.estep (x_estep_store (d := 2) (k := 0) (ti := ti61) (cs := [vs (ByteArray.mk #[]), vs (ByteArray.mk #[]), vi 0, vi 0]) (vs := [vs aA.Code, vs aA.Text, vi x1.X, vi x1.Y]) (v := .agg [vs aA.Code, vs aA.Text, vi x1.X, vi x1.Y]) tbok rfl rfl) ?_
  refine SRun.nil ?_
  refine nx_n ?_
  refine swp_ret ?_
  replace h := Option.some.inj h
  subst h
  exact q_fr (fin1 (by kernel_rfl) (finV rfl SV.flat_of (holds_c tbok (d := 2) (cs := [vs aA.Code, vs aA.Text, vi x1.X, vi x1.Y]) (ti := ti61) (by kernel_rfl) (by kernel_rfl) (by kernel_rfl) (by kernel_rfl))))
theorem ents38 : Ents Tryd.prog 38 := ents_of Tryd.func38 (by kernel_rfl) rfl
noncomputable def laws_toCandidateS (aA : (List Candidate)) : Option ((List Candidate)) :=
  ((make' (Candidate.mk (ByteArray.mk #[]) (ByteArray.mk #[]) (Point.mk 0 0)) (aA.length : Int)).bind fun x1 => (((forS (aA.length : Int) (fun (i4 : Int) (s4 : (List Candidate)) => ((at' aA i4).bind fun x8 => ((laws_toCandidate x8).bind fun x9 => ((at' s4 i4).bind fun _ => some (List.set s4 (Int.toNat i4) x9))))) (fun (s4 : (List Candidate)) => s4) 0 x1)).bind fun (j2 : (List Candidate)) => some j2))
set_option maxRecDepth 100000 in
set_option maxHeartbeats 4000000 in
theorem laws_toCandidateS_run (aA : (List Candidate)) (r : (List Candidate)) (h : laws_toCandidateS aA = some r) : SCall Tryd.prog 17 [.v (vl eCandidate aA)] ⟨[.own 61 4 r.length (r.map eCandidate)], [], false⟩ := by
  refine scall_in Tryd.func17 rfl [(.tmp 2)] rfl (fun r => ⟨[.own 61 4 r.length (r.map eCandidate)], [], false⟩) (r := r) ?_
  unfold laws_toCandidateS at h
  refine swp_seq ?_
  refine swp_reg ?_
  refine SRun.ck tbok 1 ⟨23, [(0, vl eCandidate aA)], []⟩ ?_
  refine SRun.nil ?_
  refine nx_n ?_
  refine swp_seq ?_
  refine swp_reg ?_
  refine SRun.ck tbok 2 ⟨23, [(0, vl eCandidate aA), (6, vi (aA.length : Int))], []⟩ ?_
  obtain ⟨x1, hx1, h⟩ := bind_some h
  refine SRun.ls (x_make (z := (Candidate.mk (ByteArray.mk #[]) (ByteArray.mk #[]) (Point.mk 0 0))) (f := eCandidate) (ti := ti37) (tj := ti61) (e := 61) (m := 4) (k := .i64) (k' := .i64) hx1 tbok rfl rfl (zs := [.string (ByteArray.mk #[]), .string (ByteArray.mk #[]), .int .i64 0, .int .i64 0])) ?_
  refine SRun.ck tbok 1 ⟨23, [(0, vl eCandidate aA), (3, .own 7)], [(7, .arr 61 4 x1.length (x1.map eCandidate))]⟩ ?_
  refine SRun.nil ?_
  refine nx_n ?_
  refine swp_seq ?_
  refine swp_seq ?_
  refine swp_reg ?_
  refine SRun.ck tbok 1 ⟨23, [(0, vl eCandidate aA), (3, .own 7), (4, vi 0)], [(7, .arr 61 4 x1.length (x1.map eCandidate))]⟩ ?_
  refine SRun.nil ?_
  refine nx_n ?_
  refine swp_seqJ h (fun j2 => ⟨23, [(3, .own 3)], [(3, .arr 61 4 j2.length (j2.map eCandidate))]⟩) (fun v3 h => ?_) (fun j2 h => ?_)
  refine swp_blk (a := v3) ?_
  refine swp_lpL (r := v3) (s := (0, x1)) _ (fun s4 => ⟨23, [(0, vl eCandidate aA), (3, .own 3), (4, vi s4.1)], [(3, .arr 61 4 s4.2.length (s4.2.map eCandidate))]⟩) _ ((Le.sub' ([(0, vl eCandidate aA), (3, .own 7), (4, vi 0)] : List (Nat × SV)) ([(7, .arr 61 4 x1.length (x1.map eCandidate))] : List (Nat × SO)) (by kernel_rfl) (by kernel_rfl)).trans ((Le.ren' (d := 7) (e := 3) (by kernel_rfl) (by kernel_rfl) (by kernel_rfl)).trans (Le.sub0))) h (fun s4 v5 h => ?_)
  refine swp_seq ?_
  refine swp_seq ?_
  refine swp_reg ?_
  refine SRun.ck tbok 4 ⟨23, [(0, vl eCandidate aA), (3, .own 3), (4, vi s4.1), (11, vb (decide (s4.1 < (aA.length : Int))))], [(3, .arr 61 4 s4.2.length (s4.2.map eCandidate))]⟩ ?_
  refine SRun.nil ?_
  refine nx_n ?_
  refine swp_cond (b := (decide (s4.1 < (aA.length : Int)))) (by kernel_rfl) (fun hb => ?_) (fun hb => ?_)
  replace h := cond_t hb h
  refine swp_skip ?_
  refine nx_n ?_
  refine swp_seq ?_
  refine swp_seqJ h (fun j6 => ⟨23, [(0, vl eCandidate aA), (3, .own 3), (4, vi s4.1)], [(3, .arr 61 4 j6.length (j6.map eCandidate))]⟩) (fun v7 h => ?_) (fun j6 h => ?_)
  refine swp_blk (a := v7) ?_
  refine swp_reg ?_
  refine SRun.ck tbok 4 ⟨23, [(0, vl eCandidate aA), (3, .own 3), (4, vi s4.1), (14, .own 3), (15, vi s4.1), (16, vl eCandidate aA), (17, vi s4.1)], [(3, .arr 61 4 s4.2.length (s4.2.map eCandidate))]⟩ ?_
  obtain ⟨x8, hx8, h⟩ := bind_some h
  refine SRun.ls (x_index (L := aA) (f := eCandidate) (ti := ti34) (tj := ti58) (e := 58) (k := .i64) tbok rfl hx8) ?_
  refine SRun.ck tbok 1 ⟨23, [(0, vl eCandidate aA), (3, .own 3), (4, vi s4.1), (14, .own 3), (15, vi s4.1), (19, .agg [vs x8.Code, vs x8.Text, vi x8.At.X, vi x8.At.Y])], [(3, .arr 61 4 s4.2.length (s4.2.map eCandidate))]⟩ ?_
  obtain ⟨x9, hx9, h⟩ := bind_some h
  refine SRun.ls (x_lstep_call (f := 38) (caps := []) (xs := [.agg [vs x8.Code, vs x8.Text, vi x8.At.X, vi x8.At.Y]]) (ys := [.agg [vs x8.Code, vs x8.Text, vi x8.At.X, vi x8.At.Y]]) (res := ⟨[.v (.agg [vs x9.Code, vs x9.Text, vi x9.At.X, vi x9.At.Y])], [], false⟩) (x := .agg [vs x9.Code, vs x9.Text, vi x9.At.X, vi x9.At.Y]) (y := none) rfl ents38 (laws_toCandidate_run x8 _ hx9) rfl (by intro hc; cases hc)) ?_
  obtain ⟨x10, hx10, h⟩ := bind_some h
  refine SRun.ls (x_index_own (d := 3) (L := s4.2) (f := eCandidate) (ti := ti37) (tj := ti61) (e := 61) (e' := 61) (m := 4) (k := .i64) tbok rfl hx10) ?_
  refine SRun.estep (x_store_own (d := 3) (m := 4) (j := 0) (L := s4.2) (f := eCandidate) (x := x9) (z := x10) (ti := ti61) (e := 61) (ts := [.str x9.Code, .str x9.Text, .int .i64 x9.At.X, .int .i64 x9.At.Y]) (vs := [vs x9.Code, vs x9.Text, vi x9.At.X, vi x9.At.Y]) (v := .agg [vs x9.Code, vs x9.Text, vi x9.At.X, vi x9.At.Y]) tbok rfl rfl hx10) ?_
  refine SRun.nil ?_
  replace h := Option.some.inj h
  subst h
  exact q_bn (q_j (Le.sub0))
  refine swp_reg ?_
  refine SRun.ck tbok 3 ⟨23, [(0, vl eCandidate aA), (3, .own 3), (4, vi (w64 (s4.1 + 1)))], [(3, .arr 61 4 j6.length (j6.map eCandidate))]⟩ ?_
  refine SRun.nil ?_
  replace h := Option.some.inj h
  subst h
  exact q_l (Le.sub0)
  replace h := cond_f hb h
  refine swp_exit ?_
  replace h := Option.some.inj h
  subst h
  exact nx_e (q_re (q_bh (q_j (Le.sub0))))
  refine swp_seq ?_
  refine swp_reg ?_
  refine SRun.ck tbok 2 ⟨23, [(2, .own 3)], [(3, .arr 61 4 j2.length (j2.map eCandidate))]⟩ ?_
  refine SRun.nil ?_
  refine nx_n ?_
  refine swp_ret ?_
  replace h := Option.some.inj h
  subst h
  exact q_fr (fin1 (by kernel_rfl) (finO (d := 3) (holds_t (by kernel_rfl)) (by kernel_rfl) (flat_map eCandidate_flat _) (by kernel_rfl)))
theorem ents17 : Ents Tryd.prog 17 := ents_of Tryd.func17 (by kernel_rfl) rfl
noncomputable def spec_l01Split (aS : ByteArray) (aBy : Int) : Option ((List ByteArray)) :=
  (((forH (fun (i3 : Int) (_ : Int × (List ByteArray)) => (decide (i3 ≤ (aS.size : Int)))) (fun (i3 : Int) (s3 : Int × (List ByteArray)) => (((bif (i3 == (aS.size : Int)) then some true else ((byte' aS i3).bind fun x7 => some (x7 == aBy)))).bind fun (j8 : Bool) => (bif j8 then ((sub' aS s3.1 i3).bind fun x10 => ((app' s3.2 ([x10] : List ByteArray)).bind fun x11 => some ((w64 (i3 + 1)), x11))) else some (s3.1, s3.2)))) (fun (s3 : Int × (List ByteArray)) => s3.2) 0 (0, ([] : List ByteArray)))).bind fun (j1 : (List ByteArray)) => some j1)
set_option maxRecDepth 100000 in
set_option maxHeartbeats 4000000 in
theorem spec_l01Split_run (aS : ByteArray) (aBy : Int) (r : (List ByteArray)) (h : spec_l01Split aS aBy = some r) : SCall Tryd.prog 65 [.v (vs aS), .v (.tr (.int .u8 aBy))] ⟨[.own 9 1 r.length (r.map eS)], [], false⟩ := by
  refine scall_in Tryd.func65 rfl [(.tmp 4)] rfl (fun r => ⟨[.own 9 1 r.length (r.map eS)], [], false⟩) (r := r) ?_
  unfold spec_l01Split at h
  refine swp_seq ?_
  refine swp_reg ?_
  refine SRun.ck tbok 1 ⟨36, [(0, vs aS), (1, .tr (.int .u8 aBy))], []⟩ ?_
  refine SRun.nil ?_
  refine nx_n ?_
  refine swp_seq ?_
  refine swp_reg ?_
  refine SRun.ck tbok 2 ⟨36, [(0, vs aS), (1, .tr (.int .u8 aBy)), (5, .own 8)], [(8, .arr 9 1 ([] : List ByteArray).length (([] : List ByteArray).map eS))]⟩ ?_
  refine SRun.nil ?_
  refine nx_n ?_
  refine swp_seq ?_
  refine swp_reg ?_
  refine SRun.ck tbok 1 ⟨36, [(0, vs aS), (1, .tr (.int .u8 aBy)), (5, .own 8), (6, vi 0)], [(8, .arr 9 1 ([] : List ByteArray).length (([] : List ByteArray).map eS))]⟩ ?_
  refine SRun.nil ?_
  refine nx_n ?_
  refine swp_seq ?_
  refine swp_seq ?_
  refine swp_reg ?_
  refine SRun.ck tbok 1 ⟨36, [(0, vs aS), (1, .tr (.int .u8 aBy)), (5, .own 8), (6, vi 0), (7, vi 0)], [(8, .arr 9 1 ([] : List ByteArray).length (([] : List ByteArray).map eS))]⟩ ?_
  refine SRun.nil ?_
  refine nx_n ?_
  refine swp_seqJ h (fun j1 => ⟨36, [(5, .own 5)], [(5, .arr 9 1 j1.length (j1.map eS))]⟩) (fun v2 h => ?_) (fun j1 h => ?_)
  refine swp_blk (a := v2) ?_
  refine swp_lpL (r := v2) (s := (0, 0, ([] : List ByteArray))) _ (fun s3 => ⟨36, [(0, vs aS), (1, .tr (.int .u8 aBy)), (5, .own 5), (6, vi s3.2.1), (7, vi s3.1)], [(5, .arr 9 1 s3.2.2.length (s3.2.2.map eS))]⟩) _ ((Le.sub' ([(0, vs aS), (1, .tr (.int .u8 aBy)), (5, .own 8), (6, vi 0), (7, vi 0)] : List (Nat × SV)) ([(8, .arr 9 1 ([] : List ByteArray).length (([] : List ByteArray).map eS))] : List (Nat × SO)) (by kernel_rfl) (by kernel_rfl)).trans ((Le.ren' (d := 8) (e := 5) (by kernel_rfl) (by kernel_rfl) (by kernel_rfl)).trans (Le.sub0))) h (fun s3 v4 h => ?_)
  refine swp_seq ?_
  refine swp_seq ?_
  refine swp_reg ?_
  refine SRun.ck tbok 4 ⟨36, [(0, vs aS), (1, .tr (.int .u8 aBy)), (5, .own 5), (6, vi s3.2.1), (7, vi s3.1), (12, vb (decide (s3.1 ≤ (aS.size : Int))))], [(5, .arr 9 1 s3.2.2.length (s3.2.2.map eS))]⟩ ?_
  refine SRun.nil ?_
  refine nx_n ?_
  refine swp_cond (b := (decide (s3.1 ≤ (aS.size : Int)))) (by kernel_rfl) (fun hb => ?_) (fun hb => ?_)
  replace h := cond_t hb h
  refine swp_skip ?_
  refine nx_n ?_
  refine swp_seq ?_
  refine swp_seqJ h (fun j5 => ⟨36, [(0, vs aS), (1, .tr (.int .u8 aBy)), (5, .own 5), (6, vi j5.1), (7, vi s3.1)], [(5, .arr 9 1 j5.2.length (j5.2.map eS))]⟩) (fun v6 h => ?_) (fun j5 h => ?_)
  refine swp_blk (a := v6) ?_
  refine swp_seq ?_
  refine swp_regJ h (fun j8 => ⟨36, [(0, vs aS), (1, .tr (.int .u8 aBy)), (5, .own 5), (6, vi s3.2.1), (7, vi s3.1), (25, vb j8)], [(5, .arr 9 1 s3.2.2.length (s3.2.2.map eS))]⟩) (fun v9 h => ?_) (fun j8 h => ?_)
  refine SRun.ck tbok 5 ⟨36, [(0, vs aS), (1, .tr (.int .u8 aBy)), (5, .own 5), (6, vi s3.2.1), (7, vi s3.1), (19, vb (s3.1 == (aS.size : Int)))], [(5, .arr 9 1 s3.2.2.length (s3.2.2.map eS))]⟩ ?_
  refine SRun.cut [(19, fun b => b)] (b := (s3.1 == (aS.size : Int))) (by kernel_rfl) (fun hb => ?_) (fun hb => ?_)
  replace h := cond_t hb h
  refine SRun.ck tbok 6 ⟨36, [(0, vs aS), (1, .tr (.int .u8 aBy)), (5, .own 5), (6, vi s3.2.1), (7, vi s3.1), (25, vb true)], [(5, .arr 9 1 s3.2.2.length (s3.2.2.map eS))]⟩ ?_
  refine SRun.nil ?_
  replace h := Option.some.inj h
  subst h
  exact Le.sub0
  replace h := cond_f hb h
  refine SRun.ck tbok 2 ⟨36, [(0, vs aS), (1, .tr (.int .u8 aBy)), (5, .own 5), (6, vi s3.2.1), (7, vi s3.1), (19, vb false), (20, vs aS), (21, vi s3.1)], [(5, .arr 9 1 s3.2.2.length (s3.2.2.map eS))]⟩ ?_
  obtain ⟨x7, hx7, h⟩ := bind_some h
  refine SRun.ls (x_byte (ti := ti9) (k := .i64) hx7 tbok rfl) ?_
  refine SRun.ck tbok 3 ⟨36, [(0, vs aS), (1, .tr (.int .u8 aBy)), (5, .own 5), (6, vi s3.2.1), (7, vi s3.1), (25, vb (x7 == aBy))], [(5, .arr 9 1 s3.2.2.length (s3.2.2.map eS))]⟩ ?_
  refine SRun.nil ?_
  replace h := Option.some.inj h
  subst h
  exact Le.sub0
  refine swp_cond (b := j8) (by kernel_rfl) (fun hb => ?_) (fun hb => ?_)
  replace h := cond_t hb h
  refine swp_seq ?_
  refine swp_reg ?_
  refine SRun.ck tbok 4 ⟨36, [(0, vs aS), (1, .tr (.int .u8 aBy)), (7, vi s3.1), (26, .own 5), (27, vs aS), (28, vi s3.2.1), (29, vi s3.1)], [(5, .arr 9 1 s3.2.2.length (s3.2.2.map eS))]⟩ ?_
  obtain ⟨x10, hx10, h⟩ := bind_some h
  refine SRun.ls (x_sub (ti := ti9) hx10 tbok rfl) ?_
  refine SRun.ck tbok 1 ⟨36, [(0, vs aS), (1, .tr (.int .u8 aBy)), (7, vi s3.1), (26, .own 5), (31, .own 31)], [(5, .arr 9 1 s3.2.2.length (s3.2.2.map eS)), (31, .arr 9 1 ([x10] : List ByteArray).length (([x10] : List ByteArray).map eS))]⟩ ?_
  obtain ⟨x11, hx11, h⟩ := bind_some h
  refine SRun.estep (x_append (f := eS) (t := 66) (ti := ti66) (tj := ti9) (zs := [.string (ByteArray.mk #[])]) (e := 9) (m := 1) (d := 5) (xv := .own 31) hx11 tbok rfl rfl rfl rfl (x_src_o (e := 9))) ?_
  refine SRun.ck tbok 1 ⟨36, [(0, vs aS), (1, .tr (.int .u8 aBy)), (5, .own 32), (7, vi s3.1)], [(32, .arr 9 1 x11.length (x11.map eS))]⟩ ?_
  refine SRun.nil ?_
  refine nx_n ?_
  refine swp_reg ?_
  refine SRun.ck tbok 3 ⟨36, [(0, vs aS), (1, .tr (.int .u8 aBy)), (5, .own 32), (6, vi (w64 (s3.1 + 1))), (7, vi s3.1)], [(32, .arr 9 1 x11.length (x11.map eS))]⟩ ?_
  refine SRun.nil ?_
  replace h := Option.some.inj h
  subst h
  exact q_bn (q_j ((Le.sub' ([(0, vs aS), (1, .tr (.int .u8 aBy)), (5, .own 32), (6, vi (w64 (s3.1 + 1))), (7, vi s3.1)] : List (Nat × SV)) ([(32, .arr 9 1 x11.length (x11.map eS))] : List (Nat × SO)) (by kernel_rfl) (by kernel_rfl)).trans ((Le.ren' (d := 32) (e := 5) (by kernel_rfl) (by kernel_rfl) (by kernel_rfl)).trans (Le.sub0))))
  replace h := cond_f hb h
  refine swp_skip ?_
  replace h := Option.some.inj h
  subst h
  exact q_bn (q_j (Le.sub0))
  refine swp_reg ?_
  refine SRun.ck tbok 3 ⟨36, [(0, vs aS), (1, .tr (.int .u8 aBy)), (5, .own 5), (6, vi j5.1), (7, vi (w64 (s3.1 + 1)))], [(5, .arr 9 1 j5.2.length (j5.2.map eS))]⟩ ?_
  refine SRun.nil ?_
  replace h := Option.some.inj h
  subst h
  exact q_l (Le.sub0)
  replace h := cond_f hb h
  refine swp_exit ?_
  replace h := Option.some.inj h
  subst h
  exact nx_e (q_re (q_bh (q_j (Le.sub0))))
  refine swp_seq ?_
  refine swp_reg ?_
  refine SRun.ck tbok 2 ⟨36, [(4, .own 5)], [(5, .arr 9 1 j1.length (j1.map eS))]⟩ ?_
  refine SRun.nil ?_
  refine nx_n ?_
  refine swp_ret ?_
  replace h := Option.some.inj h
  subst h
  exact q_fr (fin1 (by kernel_rfl) (finO (d := 5) (holds_t (by kernel_rfl)) (by kernel_rfl) (flat_map eS_flat _) (by kernel_rfl)))
theorem ents65 : Ents Tryd.prog 65 := ents_of Tryd.func65 (by kernel_rfl) rfl
end Go.Proofs.YtojhgfkohbfhhaaDoor.Sh
