/- Typed functions and the calls that do what they say. -/
import Derived.Test.YtmbejkchgdcdhaaDoorSB
import Derived.Test.YtmbejkchgdcdhaaDoorKA
import Derived.Test.YtmbejkchgdcdhaaDoorKR
import Derived.Test.YtmbejkchgdcdhaaDoorH1
namespace Go.Proofs.YtmbejkchgdcdhaaDoor.Sh
open Go.RowKit
structure Tie where
  A : Int
  B : Int
  Same : Bool
  Reason : ByteArray
def eTie (x : Tie) : List Tr := [.int .i64 x.A, .int .i64 x.B, .bool x.Same, .str x.Reason]
theorem eTie_flat (x : Tie) : ∀ t ∈ eTie x, t.flat = true := by simp [eTie, Tr.flat]
def ti2 : TI := ⟨1, 8, .int .i64, [.int .i64 0]⟩
def ti3 : TI := ⟨1, 8, .int .i64, [.int .i64 0]⟩
def ti4 : TI := ⟨1, 1, .bool, [.bool false]⟩
def ti9 : TI := ⟨1, 16, .str, [.str (ByteArray.mk #[])]⟩
def ti25 : TI := ⟨1, 24, .slice 42, [.sl ([] : List Tie).length (([] : List Tie).map eTie)]⟩
def ti42 : TI := ⟨4, 40, .struct [(0, 2), (1, 2), (2, 4), (3, 9)], [.int .i64 0, .int .i64 0, .bool false, .str (ByteArray.mk #[])]⟩
def ti45 : TI := ⟨1, 24, .slice 50, [.sl ([] : List (List Int)).length (([] : List (List Int)).map (eL (eI .i64)))]⟩
def ti50 : TI := ⟨1, 24, .slice 2, [.sl ([] : List Int).length (([] : List Int).map (eI .i64))]⟩
def ti98 : TI := ⟨1, 24, .slice 4, [.sl ([] : List Bool).length (([] : List Bool).map eB)]⟩
def ti100 : TI := ⟨2, 16, .array 2 2, [.int .i64 0, .int .i64 0]⟩
def ti101 : TI := ⟨4, 32, .array 2 100, [.int .i64 0, .int .i64 0, .int .i64 0, .int .i64 0]⟩
def ti108 : TI := ⟨1, 24, .slice 25, [.sl ([] : List (List Tie)).length (([] : List (List Tie)).map (eL eTie))]⟩
def tbl : Tb := [(2, ti2), (3, ti3), (4, ti4), (9, ti9), (25, ti25), (42, ti42), (45, ti45), (50, ti50), (98, ti98), (100, ti100), (101, ti101), (108, ti108)]
theorem tbok : TbOk Tryd.prog tbl := TbOk.cons ⟨by kernel_rfl, show Tryd.prog.underlying 2 = some (.int .i64) from by kernel_rfl⟩ (TbOk.cons ⟨by kernel_rfl, show Tryd.prog.underlying 3 = some (.int .i64) from by kernel_rfl⟩ (TbOk.cons ⟨by kernel_rfl, show Tryd.prog.underlying 4 = some (.bool) from by kernel_rfl⟩ (TbOk.cons ⟨by kernel_rfl, show Tryd.prog.underlying 9 = some (.string) from by kernel_rfl⟩ (TbOk.cons ⟨by kernel_rfl, show Tryd.prog.underlying 25 = some (.slice 42) from by kernel_rfl⟩ (TbOk.cons ⟨by kernel_rfl, show structOf Tryd.prog 42 = some [(0, 2), (1, 2), (2, 4), (3, 9)] from by kernel_rfl⟩ (TbOk.cons ⟨by kernel_rfl, show Tryd.prog.underlying 45 = some (.slice 50) from by kernel_rfl⟩ (TbOk.cons ⟨by kernel_rfl, show Tryd.prog.underlying 50 = some (.slice 2) from by kernel_rfl⟩ (TbOk.cons ⟨by kernel_rfl, show Tryd.prog.underlying 98 = some (.slice 4) from by kernel_rfl⟩ (TbOk.cons ⟨by kernel_rfl, show Tryd.prog.underlying 100 = some (.array 2 2) from by kernel_rfl⟩ (TbOk.cons ⟨by kernel_rfl, show Tryd.prog.underlying 101 = some (.array 2 100) from by kernel_rfl⟩ (TbOk.cons ⟨by kernel_rfl, show Tryd.prog.underlying 108 = some (.slice 25) from by kernel_rfl⟩ (TbOk.nil _))))))))))))
theorem mixed : Tryd.prog.follows .mixedOrders = true := by kernel_rfl
theorem ents96 : Ents Tryd.prog 96 := ents_of Tryd.func96 (by kernel_rfl) rfl
noncomputable def impl_within (aX : Int) (aLow : Int) (aHigh : Int) : Option (Bool) :=
  some ((decide (aX ≥ aLow)) && (decide (aX ≤ aHigh)))
set_option maxRecDepth 100000 in
set_option maxHeartbeats 4000000 in
theorem impl_within_run (aX : Int) (aLow : Int) (aHigh : Int) (r : Bool) (h : impl_within aX aLow aHigh = some r) : SCall Tryd.prog 56 [.v (vi aX), .v (vi aLow), .v (vi aHigh)] ⟨[.v (vb r)], [], false⟩ := by
  refine scall_in Tryd.func56 rfl [(.tmp 6)] rfl (fun r => ⟨[.v (vb r)], [], false⟩) (r := r) ?_
  unfold impl_within at h
  refine swp_seq ?_
  refine swp_reg ?_
  refine SRun.ck tbok 1 ⟨15, [(0, vi aX), (1, vi aLow), (2, vi aHigh)], []⟩ ?_
  refine SRun.nil ?_
  refine nx_n ?_
  refine swp_seq ?_
  refine swp_regP ⟨15, [(6, vb ((decide (aX ≥ aLow)) && (decide (aX ≤ aHigh))))], []⟩ ?_ ?_
  refine SRun.ck tbok 4 ⟨15, [(0, vi aX), (2, vi aHigh), (10, vb (decide (aX ≥ aLow)))], []⟩ ?_
  generalize (decide (aX ≥ aLow)) = bb
  cases bb
  refine SRun.ck tbok 5 ⟨15, [(6, vb false)], []⟩ ?_
  exact SRun.nil (Le.sub0)
  refine SRun.ck tbok 5 ⟨15, [(6, vb (decide (aX ≤ aHigh)))], []⟩ ?_
  exact SRun.nil (Le.sub0)
  refine swp_ret ?_
  replace h := Option.some.inj h
  subst h
  exact q_fr (fin1 (by kernel_rfl) (finV rfl SV.flat_of (holds_t (by kernel_rfl))))
theorem ents56 : Ents Tryd.prog 56 := ents_of Tryd.func56 (by kernel_rfl) rfl
theorem strings_Trim_run (s c r : ByteArray) (h : strings_Trim s c = some r) : SCall Tryd.prog 101 [.v (.tr (.str s)), .v (.tr (.str c))] ⟨[.v (.tr (.str r))], [], false⟩ := trim_run Tryd.lays160 (by kernel_rfl) 101 rfl s c r h
theorem ents101 : Ents Tryd.prog 101 := ents_of Tryd.func101 (by kernel_rfl) rfl
noncomputable def impl_isSmall (aS : ByteArray) (aLeast : Int) (aMost : Int) : Option (Bool) :=
  ((((impl_within (aS.size : Int) aLeast aMost).bind fun x1 => (bif x1 then ((strings_Trim aS (ByteArray.mk #[97, 98, 99, 100, 101, 102, 103, 104, 105, 106, 107, 108, 109, 110, 111, 112, 113, 114, 115, 116, 117, 118, 119, 120, 121, 122])).bind fun x2 => some (x2.toList == (ByteArray.mk #[]).toList)) else some false))).bind fun (j3 : Bool) => some j3)
set_option maxRecDepth 100000 in
set_option maxHeartbeats 4000000 in
theorem impl_isSmall_run (aS : ByteArray) (aLeast : Int) (aMost : Int) (r : Bool) (h : impl_isSmall aS aLeast aMost = some r) : SCall Tryd.prog 95 [.v (vs aS), .v (vi aLeast), .v (vi aMost)] ⟨[.v (vb r)], [], false⟩ := by
  refine scall_in Tryd.func95 rfl [(.tmp 6)] rfl (fun r => ⟨[.v (vb r)], [], false⟩) (r := r) ?_
  unfold impl_isSmall at h
  refine swp_seq ?_
  refine swp_reg ?_
  refine SRun.ck tbok 1 ⟨17, [(0, vs aS), (1, vi aLeast), (2, vi aMost)], []⟩ ?_
  refine SRun.nil ?_
  refine nx_n ?_
  refine swp_seq ?_
  refine swp_regJ h (fun j3 => ⟨17, [(6, vb j3)], []⟩) (fun v4 h => ?_) (fun j3 h => ?_)
  refine SRun.ck tbok 4 ⟨17, [(0, vs aS), (8, vi (aS.size : Int)), (9, vi aLeast), (10, vi aMost)], []⟩ ?_
  obtain ⟨x1, hx1, h⟩ := bind_some h
  refine SRun.ls (x_lstep_call (f := 56) (caps := []) (xs := [vi (aS.size : Int), vi aLeast, vi aMost]) (ys := [vi (aS.size : Int), vi aLeast, vi aMost]) (res := ⟨[.v (vb x1)], [], false⟩) (x := vb x1) (y := none) rfl ents56 (impl_within_run (aS.size : Int) aLeast aMost _ hx1) rfl (by intro hc; cases hc)) ?_
  refine SRun.ck tbok 1 ⟨17, [(0, vs aS), (12, vb x1)], []⟩ ?_
  refine SRun.cut [(12, fun b => b)] (b := x1) (by kernel_rfl) (fun hb => ?_) (fun hb => ?_)
  replace h := cond_t hb h
  refine SRun.ck tbok 1 ⟨17, [(12, vb true), (13, vs aS)], []⟩ ?_
  obtain ⟨x2, hx2, h⟩ := bind_some h
  refine SRun.ls (x_lstep_call (f := 101) (caps := []) (xs := [vs aS, vs (ByteArray.mk #[97, 98, 99, 100, 101, 102, 103, 104, 105, 106, 107, 108, 109, 110, 111, 112, 113, 114, 115, 116, 117, 118, 119, 120, 121, 122])]) (ys := [vs aS, vs (ByteArray.mk #[97, 98, 99, 100, 101, 102, 103, 104, 105, 106, 107, 108, 109, 110, 111, 112, 113, 114, 115, 116, 117, 118, 119, 120, 121, 122])]) (res := ⟨[.v (vs x2)], [], false⟩) (x := vs x2) (y := none) rfl ents101 (strings_Trim_run aS (ByteArray.mk #[97, 98, 99, 100, 101, 102, 103, 104, 105, 106, 107, 108, 109, 110, 111, 112, 113, 114, 115, 116, 117, 118, 119, 120, 121, 122]) _ hx2) rfl (by intro hc; cases hc)) ?_
  refine SRun.ck tbok 3 ⟨17, [(6, vb (x2.toList == (ByteArray.mk #[]).toList))], []⟩ ?_
  refine SRun.nil ?_
  replace h := Option.some.inj h
  subst h
  exact Le.sub0
  replace h := cond_f hb h
  refine SRun.ck tbok 5 ⟨17, [(6, vb false)], []⟩ ?_
  refine SRun.nil ?_
  replace h := Option.some.inj h
  subst h
  exact Le.sub0
  refine swp_ret ?_
  replace h := Option.some.inj h
  subst h
  exact q_fr (fin1 (by kernel_rfl) (finV rfl SV.flat_of (holds_t (by kernel_rfl))))
theorem ents95 : Ents Tryd.prog 95 := ents_of Tryd.func95 (by kernel_rfl) rfl
noncomputable def impl_IsWord (aS : ByteArray) : Option (Bool) :=
  ((impl_isSmall aS 1 16).bind fun x1 => some x1)
set_option maxRecDepth 100000 in
set_option maxHeartbeats 4000000 in
theorem impl_IsWord_run (aS : ByteArray) (r : Bool) (h : impl_IsWord aS = some r) : SCall Tryd.prog 83 [.v (vs aS)] ⟨[.v (vb r)], [], false⟩ := by
  refine scall_in Tryd.func83 rfl [(.tmp 2)] rfl (fun r => ⟨[.v (vb r)], [], false⟩) (r := r) ?_
  unfold impl_IsWord at h
  refine swp_seq ?_
  refine swp_reg ?_
  refine SRun.ck tbok 1 ⟨5, [(0, vs aS)], []⟩ ?_
  refine SRun.nil ?_
  refine nx_n ?_
  refine swp_seq ?_
  refine swp_reg ?_
  refine SRun.ck tbok 1 ⟨5, [(3, vs aS)], []⟩ ?_
  obtain ⟨x1, hx1, h⟩ := bind_some h
  refine SRun.ls (x_lstep_call (f := 95) (caps := []) (xs := [vs aS, vi 1, vi 16]) (ys := [vs aS, vi 1, vi 16]) (res := ⟨[.v (vb x1)], [], false⟩) (x := vb x1) (y := none) rfl ents95 (impl_isSmall_run aS 1 16 _ hx1) rfl (by intro hc; cases hc)) ?_
  refine SRun.ck tbok 1 ⟨5, [(2, vb x1)], []⟩ ?_
  refine SRun.nil ?_
  refine nx_n ?_
  refine swp_ret ?_
  replace h := Option.some.inj h
  subst h
  exact q_fr (fin1 (by kernel_rfl) (finV rfl SV.flat_of (holds_t (by kernel_rfl))))
theorem ents83 : Ents Tryd.prog 83 := ents_of Tryd.func83 (by kernel_rfl) rfl
noncomputable def impl_isTie (aN : Int) (aT : Tie) : Option (Bool) :=
  ((((impl_within aT.B 0 (w64 (aN - 1))).bind fun x1 => (bif x1 then ((impl_within aT.A 0 (w64 (aT.B - 1))).bind fun x2 => (bif x2 then ((impl_IsWord aT.Reason).bind fun x3 => some x3) else some false)) else some false))).bind fun (j4 : Bool) => some j4)
set_option maxRecDepth 100000 in
set_option maxHeartbeats 4000000 in
theorem impl_isTie_run (aN : Int) (aT : Tie) (r : Bool) (h : impl_isTie aN aT = some r) : SCall Tryd.prog 59 [.v (vi aN), .v (.agg [vi aT.A, vi aT.B, vb aT.Same, vs aT.Reason])] ⟨[.v (vb r)], [], false⟩ := by
  refine scall_in Tryd.func59 rfl [(.tmp 4)] rfl (fun r => ⟨[.v (vb r)], [], false⟩) (r := r) ?_
  unfold impl_isTie at h
  refine swp_seq ?_
  refine swp_reg ?_
  refine SRun.ck tbok 2 ⟨23, [(0, vi aN), (3, .ref 3 0)], [(3, .box [vi aT.A, vi aT.B, vb aT.Same, vs aT.Reason])]⟩ ?_
  refine SRun.nil ?_
  refine nx_n ?_
  refine swp_seq ?_
  refine swp_regJ h (fun j4 => ⟨23, [(4, vb j4)], []⟩) (fun v5 h => ?_) (fun j4 h => ?_)
  refine SRun.ck tbok 4 ⟨23, [(3, .ref 3 0), (6, vi aT.B), (8, vi (w64 (aN - 1)))], [(3, .box [vi aT.A, vi aT.B, vb aT.Same, vs aT.Reason])]⟩ ?_
  obtain ⟨x1, hx1, h⟩ := bind_some h
  refine SRun.ls (x_lstep_call (f := 56) (caps := []) (xs := [vi aT.B, vi 0, vi (w64 (aN - 1))]) (ys := [vi aT.B, vi 0, vi (w64 (aN - 1))]) (res := ⟨[.v (vb x1)], [], false⟩) (x := vb x1) (y := none) rfl ents56 (impl_within_run aT.B 0 (w64 (aN - 1)) _ hx1) rfl (by intro hc; cases hc)) ?_
  refine SRun.ck tbok 1 ⟨23, [(3, .ref 3 0), (10, vb x1)], [(3, .box [vi aT.A, vi aT.B, vb aT.Same, vs aT.Reason])]⟩ ?_
  refine SRun.cut [(10, fun b => b)] (b := x1) (by kernel_rfl) (fun hb => ?_) (fun hb => ?_)
  replace h := cond_t hb h
  refine SRun.ck tbok 5 ⟨23, [(3, .ref 3 0), (10, vb true), (12, vi aT.A), (15, vi (w64 (aT.B - 1)))], [(3, .box [vi aT.A, vi aT.B, vb aT.Same, vs aT.Reason])]⟩ ?_
  obtain ⟨x2, hx2, h⟩ := bind_some h
  refine SRun.ls (x_lstep_call (f := 56) (caps := []) (xs := [vi aT.A, vi 0, vi (w64 (aT.B - 1))]) (ys := [vi aT.A, vi 0, vi (w64 (aT.B - 1))]) (res := ⟨[.v (vb x2)], [], false⟩) (x := vb x2) (y := none) rfl ents56 (impl_within_run aT.A 0 (w64 (aT.B - 1)) _ hx2) rfl (by intro hc; cases hc)) ?_
  refine SRun.ck tbok 2 ⟨23, [(3, .ref 3 0), (18, vb x2)], [(3, .box [vi aT.A, vi aT.B, vb aT.Same, vs aT.Reason])]⟩ ?_
  refine SRun.cut [(18, fun b => b)] (b := x2) (by kernel_rfl) (fun hb => ?_) (fun hb => ?_)
  replace h := cond_t hb h
  refine SRun.ck tbok 2 ⟨23, [(18, vb true), (20, vs aT.Reason)], []⟩ ?_
  obtain ⟨x3, hx3, h⟩ := bind_some h
  refine SRun.ls (x_lstep_call (f := 83) (caps := []) (xs := [vs aT.Reason]) (ys := [vs aT.Reason]) (res := ⟨[.v (vb x3)], [], false⟩) (x := vb x3) (y := none) rfl ents83 (impl_IsWord_run aT.Reason _ hx3) rfl (by intro hc; cases hc)) ?_
  refine SRun.ck tbok 2 ⟨23, [(4, vb x3)], []⟩ ?_
  refine SRun.nil ?_
  replace h := Option.some.inj h
  subst h
  exact Le.sub0
  replace h := cond_f hb h
  refine SRun.ck tbok 5 ⟨23, [(4, vb false)], []⟩ ?_
  refine SRun.nil ?_
  replace h := Option.some.inj h
  subst h
  exact Le.sub0
  replace h := cond_f hb h
  refine SRun.ck tbok 13 ⟨23, [(4, vb false)], []⟩ ?_
  refine SRun.nil ?_
  replace h := Option.some.inj h
  subst h
  exact Le.sub0
  refine swp_ret ?_
  replace h := Option.some.inj h
  subst h
  exact q_fr (fin1 (by kernel_rfl) (finV rfl SV.flat_of (holds_t (by kernel_rfl))))
theorem ents59 : Ents Tryd.prog 59 := ents_of Tryd.func59 (by kernel_rfl) rfl
noncomputable def impl_AreTies_1 (aT : Tie) (c0 : Int) : Option (Bool) :=
  ((impl_isTie c0 aT).bind fun x1 => some (!x1))
set_option maxRecDepth 100000 in
set_option maxHeartbeats 4000000 in
theorem impl_AreTies_1_run (aT : Tie) (c0 : Int) (r : Bool) (h : impl_AreTies_1 aT c0 = some r) : SCall Tryd.prog 58 [.v (.agg [vi aT.A, vi aT.B, vb aT.Same, vs aT.Reason]), .v (.ptr [vi c0] 0)] ⟨[.v (vb r)], [], false⟩ := by
  refine scall_in Tryd.func58 rfl [(.tmp 3)] rfl (fun r => ⟨[.v (vb r)], [], false⟩) (r := r) ?_
  unfold impl_AreTies_1 at h
  refine swp_seq ?_
  refine swp_reg ?_
  refine SRun.ck tbok 2 ⟨8, [(1, .ptr [vi c0] 0), (2, .ref 2 0)], [(2, .box [vi aT.A, vi aT.B, vb aT.Same, vs aT.Reason])]⟩ ?_
  refine SRun.nil ?_
  refine nx_n ?_
  refine swp_seq ?_
  refine swp_reg ?_
  refine SRun.ck tbok 2 ⟨8, [(4, vi c0), (5, .agg [vi aT.A, vi aT.B, vb aT.Same, vs aT.Reason])], []⟩ ?_
  obtain ⟨x1, hx1, h⟩ := bind_some h
  refine SRun.ls (x_lstep_call (f := 59) (caps := []) (xs := [vi c0, .agg [vi aT.A, vi aT.B, vb aT.Same, vs aT.Reason]]) (ys := [vi c0, .agg [vi aT.A, vi aT.B, vb aT.Same, vs aT.Reason]]) (res := ⟨[.v (vb x1)], [], false⟩) (x := vb x1) (y := none) rfl ents59 (impl_isTie_run c0 aT _ hx1) rfl (by intro hc; cases hc)) ?_
  refine SRun.ck tbok 2 ⟨8, [(3, vb (!x1))], []⟩ ?_
  refine SRun.nil ?_
  refine nx_n ?_
  refine swp_ret ?_
  replace h := Option.some.inj h
  subst h
  exact q_fr (fin1 (by kernel_rfl) (finV rfl SV.flat_of (holds_t (by kernel_rfl))))
theorem ents58 : Ents Tryd.prog 58 := ents_of Tryd.func58 (by kernel_rfl) rfl
noncomputable def slices_IndexFunc_Tie_impl_AreTies_1 (aS : (List Tie)) (aF0 : Int) : Option (Int) :=
  (((forN (aS.length : Int) (fun (i3 : Int) (_ : Unit) => ((at' aS i3).bind fun x7 => ((impl_AreTies_1 x7 aF0).bind fun x8 => (bif x8 then some (.inr (.inr i3)) else some (.inl ()))))) (fun (_ : Unit) => .inl ()) 0 ())).bind (Sum.elim (fun (_ : Unit) => some (-1)) some))
set_option maxRecDepth 100000 in
set_option maxHeartbeats 4000000 in
theorem slices_IndexFunc_Tie_impl_AreTies_1_run (aS : (List Tie)) (aF0 : Int) (r : Int) (h : slices_IndexFunc_Tie_impl_AreTies_1 aS aF0 = some r) : SCall Tryd.prog 82 [.v (vl eTie aS), .v (.clo 58 [.ptr [vi aF0] 0])] ⟨[.v (vi r)], [], false⟩ := by
  refine scall_in Tryd.func82 rfl [(.tmp 4)] rfl (fun r => ⟨[.v (vi r)], [], false⟩) (r := r) ?_
  unfold slices_IndexFunc_Tie_impl_AreTies_1 at h
  refine swp_seq ?_
  refine swp_reg ?_
  refine SRun.ck tbok 1 ⟨19, [(0, vl eTie aS), (1, .clo 58 [.ptr [vi aF0] 0])], []⟩ ?_
  refine SRun.nil ?_
  refine nx_n ?_
  refine swp_seq ?_
  refine swp_seq ?_
  refine swp_reg ?_
  refine SRun.ck tbok 3 ⟨19, [(0, vl eTie aS), (1, .clo 58 [.ptr [vi aF0] 0]), (7, vi (aS.length : Int)), (8, vi 0)], []⟩ ?_
  refine SRun.nil ?_
  refine nx_n ?_
  refine swp_seqE (r := r) h (fun j1 => ⟨19, [], []⟩) (fun v2 h => ?_) (fun j1 h => ?_)
  refine swp_blk (a := v2) ?_
  refine swp_lpL (r := v2) (s := (0, ())) _ (fun s3 => ⟨19, [(0, vl eTie aS), (1, .clo 58 [.ptr [vi aF0] 0]), (7, vi (aS.length : Int)), (8, vi s3.1)], []⟩) _ (Le.sub0) h (fun s3 v4 h => ?_)
  refine swp_seq ?_
  refine swp_reg ?_
  refine SRun.ck tbok 1 ⟨19, [(0, vl eTie aS), (1, .clo 58 [.ptr [vi aF0] 0]), (7, vi (aS.length : Int)), (8, vi s3.1), (9, vb (decide (s3.1 < (aS.length : Int))))], []⟩ ?_
  refine SRun.nil ?_
  refine nx_n ?_
  refine swp_seq ?_
  refine swp_cond (b := (decide (s3.1 < (aS.length : Int)))) (by kernel_rfl) (fun hb => ?_) (fun hb => ?_)
  replace h := cond_t hb h
  refine swp_skip ?_
  refine nx_n ?_
  refine swp_seq ?_
  refine swp_seqL (r := v4) h (fun j5 => ⟨19, [(0, vl eTie aS), (1, .clo 58 [.ptr [vi aF0] 0]), (7, vi (aS.length : Int)), (8, vi s3.1)], []⟩) (fun v6 h => ?_) (fun j5 h => ?_)
  refine swp_blk (a := v6) ?_
  refine swp_seq ?_
  refine swp_reg ?_
  refine SRun.ck tbok 2 ⟨19, [(0, vl eTie aS), (1, .clo 58 [.ptr [vi aF0] 0]), (5, vi s3.1), (7, vi (aS.length : Int)), (8, vi s3.1)], []⟩ ?_
  refine SRun.nil ?_
  refine nx_n ?_
  refine swp_seq ?_
  refine swp_reg ?_
  refine SRun.ck tbok 3 ⟨19, [(0, vl eTie aS), (1, .clo 58 [.ptr [vi aF0] 0]), (5, vi s3.1), (7, vi (aS.length : Int)), (8, vi s3.1), (11, .clo 58 [.ptr [vi aF0] 0]), (12, vl eTie aS), (13, vi s3.1)], []⟩ ?_
  obtain ⟨x7, hx7, h⟩ := bind_some h
  refine SRun.ls (x_index (L := aS) (f := eTie) (ti := ti25) (tj := ti42) (e := 42) (k := .i64) tbok rfl hx7) ?_
  refine SRun.ck tbok 1 ⟨19, [(0, vl eTie aS), (1, .clo 58 [.ptr [vi aF0] 0]), (5, vi s3.1), (7, vi (aS.length : Int)), (8, vi s3.1), (11, .clo 58 [.ptr [vi aF0] 0]), (15, .agg [vi x7.A, vi x7.B, vb x7.Same, vs x7.Reason])], []⟩ ?_
  obtain ⟨x8, hx8, h⟩ := bind_some h
  refine SRun.ls (x_lstep_call (f := 58) (caps := [.ptr [vi aF0] 0]) (xs := [.agg [vi x7.A, vi x7.B, vb x7.Same, vs x7.Reason]]) (ys := [.agg [vi x7.A, vi x7.B, vb x7.Same, vs x7.Reason], .ptr [vi aF0] 0]) (res := ⟨[.v (vb x8)], [], false⟩) (x := vb x8) (y := none) rfl ents58 (impl_AreTies_1_run x7 aF0 _ hx8) rfl (by intro hc; cases hc)) ?_
  refine SRun.nil ?_
  refine nx_n ?_
  refine swp_cond (b := x8) (by kernel_rfl) (fun hb => ?_) (fun hb => ?_)
  replace h := cond_t hb h
  refine swp_seq ?_
  refine swp_reg ?_
  refine SRun.ck tbok 2 ⟨19, [(4, vi s3.1)], []⟩ ?_
  refine SRun.nil ?_
  refine nx_n ?_
  refine swp_ret ?_
  replace h := Option.some.inj h
  subst h
  exact q_br (q_rr (q_rr (q_br (q_rr (q_fr (fin1 (by kernel_rfl) (finV rfl SV.flat_of (holds_t (by kernel_rfl)))))))))
  replace h := cond_f hb h
  refine swp_skip ?_
  replace h := Option.some.inj h
  subst h
  exact q_bn (q_l (Le.sub0))
  refine swp_reg ?_
  refine SRun.ck tbok 2 ⟨19, [(0, vl eTie aS), (1, .clo 58 [.ptr [vi aF0] 0]), (7, vi (aS.length : Int)), (8, vi (w64 (s3.1 + 1)))], []⟩ ?_
  refine SRun.nil ?_
  replace h := Option.some.inj h
  subst h
  exact q_l (Le.sub0)
  replace h := cond_f hb h
  refine swp_exit ?_
  replace h := Option.some.inj h
  subst h
  exact nx_e (q_re (q_bh (q_l (Le.sub0))))
  refine swp_seq ?_
  refine swp_reg ?_
  refine SRun.ck tbok 1 ⟨19, [(4, vi (-1))], []⟩ ?_
  refine SRun.nil ?_
  refine nx_n ?_
  refine swp_ret ?_
  replace h := Option.some.inj h
  subst h
  exact q_fr (fin1 (by kernel_rfl) (finV rfl SV.flat_of (holds_t (by kernel_rfl))))
theorem ents82 : Ents Tryd.prog 82 := ents_of Tryd.func82 (by kernel_rfl) rfl
noncomputable def slices_ContainsFunc_Tie_impl_AreTies_1 (aS : (List Tie)) (aF0 : Int) : Option (Bool) :=
  ((slices_IndexFunc_Tie_impl_AreTies_1 aS aF0).bind fun x1 => some (decide (x1 ≥ 0)))
set_option maxRecDepth 100000 in
set_option maxHeartbeats 4000000 in
theorem slices_ContainsFunc_Tie_impl_AreTies_1_run (aS : (List Tie)) (aF0 : Int) (r : Bool) (h : slices_ContainsFunc_Tie_impl_AreTies_1 aS aF0 = some r) : SCall Tryd.prog 57 [.v (vl eTie aS), .v (.clo 58 [.ptr [vi aF0] 0])] ⟨[.v (vb r)], [], false⟩ := by
  refine scall_in Tryd.func57 rfl [(.tmp 4)] rfl (fun r => ⟨[.v (vb r)], [], false⟩) (r := r) ?_
  unfold slices_ContainsFunc_Tie_impl_AreTies_1 at h
  refine swp_seq ?_
  refine swp_reg ?_
  refine SRun.ck tbok 1 ⟨9, [(0, vl eTie aS), (1, .clo 58 [.ptr [vi aF0] 0])], []⟩ ?_
  refine SRun.nil ?_
  refine nx_n ?_
  refine swp_seq ?_
  refine swp_reg ?_
  refine SRun.ck tbok 2 ⟨9, [(5, vl eTie aS), (6, .clo 58 [.ptr [vi aF0] 0])], []⟩ ?_
  obtain ⟨x1, hx1, h⟩ := bind_some h
  refine SRun.ls (x_lstep_call (f := 82) (caps := []) (xs := [vl eTie aS, .clo 58 [.ptr [vi aF0] 0]]) (ys := [vl eTie aS, .clo 58 [.ptr [vi aF0] 0]]) (res := ⟨[.v (vi x1)], [], false⟩) (x := vi x1) (y := none) rfl ents82 (slices_IndexFunc_Tie_impl_AreTies_1_run aS aF0 _ hx1) rfl (by intro hc; cases hc)) ?_
  refine SRun.ck tbok 2 ⟨9, [(4, vb (decide (x1 ≥ 0)))], []⟩ ?_
  refine SRun.nil ?_
  refine nx_n ?_
  refine swp_ret ?_
  replace h := Option.some.inj h
  subst h
  exact q_fr (fin1 (by kernel_rfl) (finV rfl SV.flat_of (holds_t (by kernel_rfl))))
theorem ents57 : Ents Tryd.prog 57 := ents_of Tryd.func57 (by kernel_rfl) rfl
noncomputable def impl_AreTies (aN : Int) (aList : (List Tie)) : Option (Bool) :=
  ((((impl_within aN 1 12).bind fun x1 => (bif x1 then (bif (decide ((aList.length : Int) ≤ 20)) then ((slices_ContainsFunc_Tie_impl_AreTies_1 aList aN).bind fun x2 => some (!x2)) else some false) else some false))).bind fun (j3 : Bool) => some j3)
set_option maxRecDepth 100000 in
set_option maxHeartbeats 4000000 in
theorem impl_AreTies_run (aN : Int) (aList : (List Tie)) (r : Bool) (h : impl_AreTies aN aList = some r) : SCall Tryd.prog 17 [.v (vi aN), .v (vl eTie aList)] ⟨[.v (vb r)], [], false⟩ := by
  refine scall_in Tryd.func17 rfl [(.tmp 4)] rfl (fun r => ⟨[.v (vb r)], [], false⟩) (r := r) ?_
  unfold impl_AreTies at h
  refine swp_seq ?_
  refine swp_reg ?_
  refine SRun.ck tbok 2 ⟨18, [(1, vl eTie aList), (2, .ref 2 0)], [(2, .box [vi aN])]⟩ ?_
  refine SRun.nil ?_
  refine nx_n ?_
  refine swp_seq ?_
  refine swp_regJ h (fun j3 => ⟨18, [(4, vb j3)], []⟩) (fun v4 h => ?_) (fun j3 h => ?_)
  refine SRun.ck tbok 1 ⟨18, [(1, vl eTie aList), (2, .ref 2 0), (5, vi aN)], [(2, .box [vi aN])]⟩ ?_
  obtain ⟨x1, hx1, h⟩ := bind_some h
  refine SRun.ls (x_lstep_call (f := 56) (caps := []) (xs := [vi aN, vi 1, vi 12]) (ys := [vi aN, vi 1, vi 12]) (res := ⟨[.v (vb x1)], [], false⟩) (x := vb x1) (y := none) rfl ents56 (impl_within_run aN 1 12 _ hx1) rfl (by intro hc; cases hc)) ?_
  refine SRun.ck tbok 1 ⟨18, [(1, vl eTie aList), (2, .ref 2 0), (7, vb x1)], [(2, .box [vi aN])]⟩ ?_
  refine SRun.cut [(7, fun b => b)] (b := x1) (by kernel_rfl) (fun hb => ?_) (fun hb => ?_)
  replace h := cond_t hb h
  refine SRun.ck tbok 5 ⟨18, [(1, vl eTie aList), (2, .ref 2 0), (12, vb (decide ((aList.length : Int) ≤ 20)))], [(2, .box [vi aN])]⟩ ?_
  refine SRun.cut [(12, fun b => b)] (b := (decide ((aList.length : Int) ≤ 20))) (by kernel_rfl) (fun hb => ?_) (fun hb => ?_)
  replace h := cond_t hb h
  refine SRun.ck tbok 2 ⟨18, [(12, vb true), (13, vl eTie aList), (14, .clo 58 [.ref 2 0])], [(2, .box [vi aN])]⟩ ?_
  obtain ⟨x2, hx2, h⟩ := bind_some h
  refine SRun.ls (x_lstep_call (f := 57) (caps := []) (xs := [vl eTie aList, .clo 58 [.ref 2 0]]) (ys := [vl eTie aList, .clo 58 [.ptr [vi aN] 0]]) (res := ⟨[.v (vb x2)], [], false⟩) (x := vb x2) (y := none) rfl ents57 (slices_ContainsFunc_Tie_impl_AreTies_1_run aList aN _ hx2) rfl (by intro hc; cases hc)) ?_
  refine SRun.ck tbok 3 ⟨18, [(4, vb (!x2))], []⟩ ?_
  refine SRun.nil ?_
  replace h := Option.some.inj h
  subst h
  exact Le.sub0
  replace h := cond_f hb h
  refine SRun.ck tbok 6 ⟨18, [(4, vb false)], []⟩ ?_
  refine SRun.nil ?_
  replace h := Option.some.inj h
  subst h
  exact Le.sub0
  replace h := cond_f hb h
  refine SRun.ck tbok 11 ⟨18, [(4, vb false)], []⟩ ?_
  refine SRun.nil ?_
  replace h := Option.some.inj h
  subst h
  exact Le.sub0
  refine swp_ret ?_
  replace h := Option.some.inj h
  subst h
  exact q_fr (fin1 (by kernel_rfl) (finV rfl SV.flat_of (holds_t (by kernel_rfl))))
theorem ents17 : Ents Tryd.prog 17 := ents_of Tryd.func17 (by kernel_rfl) rfl
noncomputable def impl_areWithin (aList : (List Int)) (aLow : Int) (aHigh : Int) : Option (Bool) :=
  (((forN (aList.length : Int) (fun (i3 : Int) (_ : Unit) => ((at' aList i3).bind fun x7 => ((impl_within x7 aLow aHigh).bind fun x8 => (bif (!x8) then some (.inr (.inr false)) else some (.inl ()))))) (fun (_ : Unit) => .inl ()) 0 ())).bind (Sum.elim (fun (_ : Unit) => some true) some))
set_option maxRecDepth 100000 in
set_option maxHeartbeats 4000000 in
theorem impl_areWithin_run (aList : (List Int)) (aLow : Int) (aHigh : Int) (r : Bool) (h : impl_areWithin aList aLow aHigh = some r) : SCall Tryd.prog 87 [.v (vl (eI .i64) aList), .v (vi aLow), .v (vi aHigh)] ⟨[.v (vb r)], [], false⟩ := by
  refine scall_in Tryd.func87 rfl [(.tmp 6)] rfl (fun r => ⟨[.v (vb r)], [], false⟩) (r := r) ?_
  unfold impl_areWithin at h
  refine swp_seq ?_
  refine swp_reg ?_
  refine SRun.ck tbok 1 ⟨21, [(0, vl (eI .i64) aList), (1, vi aLow), (2, vi aHigh)], []⟩ ?_
  refine SRun.nil ?_
  refine nx_n ?_
  refine swp_seq ?_
  refine swp_seq ?_
  refine swp_reg ?_
  refine SRun.ck tbok 3 ⟨21, [(1, vi aLow), (2, vi aHigh), (9, vl (eI .i64) aList), (10, vi (aList.length : Int)), (11, vi 0)], []⟩ ?_
  refine SRun.nil ?_
  refine nx_n ?_
  refine swp_seqE (r := r) h (fun j1 => ⟨21, [], []⟩) (fun v2 h => ?_) (fun j1 h => ?_)
  refine swp_blk (a := v2) ?_
  refine swp_lpL (r := v2) (s := (0, ())) _ (fun s3 => ⟨21, [(1, vi aLow), (2, vi aHigh), (9, vl (eI .i64) aList), (10, vi (aList.length : Int)), (11, vi s3.1)], []⟩) _ (Le.sub0) h (fun s3 v4 h => ?_)
  refine swp_seq ?_
  refine swp_reg ?_
  refine SRun.ck tbok 1 ⟨21, [(1, vi aLow), (2, vi aHigh), (9, vl (eI .i64) aList), (10, vi (aList.length : Int)), (11, vi s3.1), (12, vb (decide (s3.1 < (aList.length : Int))))], []⟩ ?_
  refine SRun.nil ?_
  refine nx_n ?_
  refine swp_seq ?_
  refine swp_cond (b := (decide (s3.1 < (aList.length : Int)))) (by kernel_rfl) (fun hb => ?_) (fun hb => ?_)
  replace h := cond_t hb h
  refine swp_skip ?_
  refine nx_n ?_
  refine swp_seq ?_
  refine swp_seqL (r := v4) h (fun j5 => ⟨21, [(1, vi aLow), (2, vi aHigh), (9, vl (eI .i64) aList), (10, vi (aList.length : Int)), (11, vi s3.1)], []⟩) (fun v6 h => ?_) (fun j5 h => ?_)
  refine swp_blk (a := v6) ?_
  refine swp_seq ?_
  refine swp_reg ?_
  obtain ⟨x7, hx7, h⟩ := bind_some h
  refine SRun.ls (x_index (L := aList) (f := (eI .i64)) (ti := ti50) (tj := ti2) (e := 2) (k := .i64) tbok rfl hx7) ?_
  refine SRun.ck tbok 2 ⟨21, [(1, vi aLow), (2, vi aHigh), (8, vi x7), (9, vl (eI .i64) aList), (10, vi (aList.length : Int)), (11, vi s3.1)], []⟩ ?_
  refine SRun.nil ?_
  refine nx_n ?_
  refine swp_seq ?_
  refine swp_reg ?_
  refine SRun.ck tbok 3 ⟨21, [(1, vi aLow), (2, vi aHigh), (9, vl (eI .i64) aList), (10, vi (aList.length : Int)), (11, vi s3.1), (15, vi x7), (16, vi aLow), (17, vi aHigh)], []⟩ ?_
  obtain ⟨x8, hx8, h⟩ := bind_some h
  refine SRun.ls (x_lstep_call (f := 56) (caps := []) (xs := [vi x7, vi aLow, vi aHigh]) (ys := [vi x7, vi aLow, vi aHigh]) (res := ⟨[.v (vb x8)], [], false⟩) (x := vb x8) (y := none) rfl ents56 (impl_within_run x7 aLow aHigh _ hx8) rfl (by intro hc; cases hc)) ?_
  refine SRun.ck tbok 1 ⟨21, [(1, vi aLow), (2, vi aHigh), (9, vl (eI .i64) aList), (10, vi (aList.length : Int)), (11, vi s3.1), (19, vb (!x8))], []⟩ ?_
  refine SRun.nil ?_
  refine nx_n ?_
  refine swp_cond (b := (!x8)) (by kernel_rfl) (fun hb => ?_) (fun hb => ?_)
  replace h := cond_t hb h
  refine swp_seq ?_
  refine swp_reg ?_
  refine SRun.ck tbok 1 ⟨21, [(6, vb false)], []⟩ ?_
  refine SRun.nil ?_
  refine nx_n ?_
  refine swp_ret ?_
  replace h := Option.some.inj h
  subst h
  exact q_br (q_rr (q_rr (q_br (q_rr (q_fr (fin1 (by kernel_rfl) (finV rfl SV.flat_of (holds_t (by kernel_rfl)))))))))
  replace h := cond_f hb h
  refine swp_skip ?_
  replace h := Option.some.inj h
  subst h
  exact q_bn (q_l (Le.sub0))
  refine swp_reg ?_
  refine SRun.ck tbok 2 ⟨21, [(1, vi aLow), (2, vi aHigh), (9, vl (eI .i64) aList), (10, vi (aList.length : Int)), (11, vi (w64 (s3.1 + 1)))], []⟩ ?_
  refine SRun.nil ?_
  replace h := Option.some.inj h
  subst h
  exact q_l (Le.sub0)
  replace h := cond_f hb h
  refine swp_exit ?_
  replace h := Option.some.inj h
  subst h
  exact nx_e (q_re (q_bh (q_l (Le.sub0))))
  refine swp_seq ?_
  refine swp_reg ?_
  refine SRun.ck tbok 1 ⟨21, [(6, vb true)], []⟩ ?_
  refine SRun.nil ?_
  refine nx_n ?_
  refine swp_ret ?_
  replace h := Option.some.inj h
  subst h
  exact q_fr (fin1 (by kernel_rfl) (finV rfl SV.flat_of (holds_t (by kernel_rfl))))
theorem ents87 : Ents Tryd.prog 87 := ents_of Tryd.func87 (by kernel_rfl) rfl
noncomputable def impl_recordCode (aN : Int) (aList : (List Tie)) (aRecords : (List Int)) : Option (Int) :=
  ((((impl_AreTies aN aList).bind fun x3 => (bif (!x3) then some (.inr 1) else ((impl_areWithin aRecords 0 (w64 (aN - 1))).bind fun x4 => (bif (!x4) then some (.inr 2) else some (.inl ())))))).bind (Sum.elim (fun (_ : Unit) => some 0) some))
set_option maxRecDepth 100000 in
set_option maxHeartbeats 4000000 in
theorem impl_recordCode_run (aN : Int) (aList : (List Tie)) (aRecords : (List Int)) (r : Int) (h : impl_recordCode aN aList aRecords = some r) : SCall Tryd.prog 68 [.v (vi aN), .v (vl eTie aList), .v (vl (eI .i64) aRecords)] ⟨[.v (vi r)], [], false⟩ := by
  refine scall_in Tryd.func68 rfl [(.tmp 6)] rfl (fun r => ⟨[.v (vi r)], [], false⟩) (r := r) ?_
  unfold impl_recordCode at h
  refine swp_seq ?_
  refine swp_reg ?_
  refine SRun.ck tbok 1 ⟨18, [(0, vi aN), (1, vl eTie aList), (2, vl (eI .i64) aRecords)], []⟩ ?_
  refine SRun.nil ?_
  refine nx_n ?_
  refine swp_seq ?_
  refine swp_seqE (r := r) h (fun j1 => ⟨18, [], []⟩) (fun v2 h => ?_) (fun j1 h => ?_)
  refine swp_blk (a := v2) ?_
  refine swp_seq ?_
  refine swp_reg ?_
  refine SRun.ck tbok 2 ⟨18, [(0, vi aN), (2, vl (eI .i64) aRecords), (8, vi aN), (9, vl eTie aList)], []⟩ ?_
  obtain ⟨x3, hx3, h⟩ := bind_some h
  refine SRun.ls (x_lstep_call (f := 17) (caps := []) (xs := [vi aN, vl eTie aList]) (ys := [vi aN, vl eTie aList]) (res := ⟨[.v (vb x3)], [], false⟩) (x := vb x3) (y := none) rfl ents17 (impl_AreTies_run aN aList _ hx3) rfl (by intro hc; cases hc)) ?_
  refine SRun.ck tbok 2 ⟨18, [(0, vi aN), (2, vl (eI .i64) aRecords), (7, vb (!x3))], []⟩ ?_
  refine SRun.nil ?_
  refine nx_n ?_
  refine swp_cond (b := (!x3)) (by kernel_rfl) (fun hb => ?_) (fun hb => ?_)
  replace h := cond_t hb h
  refine swp_seq ?_
  refine swp_reg ?_
  refine SRun.ck tbok 1 ⟨18, [(6, vi 1)], []⟩ ?_
  refine SRun.nil ?_
  refine nx_n ?_
  refine swp_ret ?_
  replace h := Option.some.inj h
  subst h
  exact q_br (q_rr (q_fr (fin1 (by kernel_rfl) (finV rfl SV.flat_of (holds_t (by kernel_rfl))))))
  replace h := cond_f hb h
  refine swp_seq ?_
  refine swp_reg ?_
  refine SRun.ck tbok 3 ⟨18, [(13, vl (eI .i64) aRecords), (15, vi (w64 (aN - 1)))], []⟩ ?_
  obtain ⟨x4, hx4, h⟩ := bind_some h
  refine SRun.ls (x_lstep_call (f := 87) (caps := []) (xs := [vl (eI .i64) aRecords, vi 0, vi (w64 (aN - 1))]) (ys := [vl (eI .i64) aRecords, vi 0, vi (w64 (aN - 1))]) (res := ⟨[.v (vb x4)], [], false⟩) (x := vb x4) (y := none) rfl ents87 (impl_areWithin_run aRecords 0 (w64 (aN - 1)) _ hx4) rfl (by intro hc; cases hc)) ?_
  refine SRun.ck tbok 2 ⟨18, [(12, vb (!x4))], []⟩ ?_
  refine SRun.nil ?_
  refine nx_n ?_
  refine swp_cond (b := (!x4)) (by kernel_rfl) (fun hb => ?_) (fun hb => ?_)
  replace h := cond_t hb h
  refine swp_seq ?_
  refine swp_reg ?_
  refine SRun.ck tbok 1 ⟨18, [(6, vi 2)], []⟩ ?_
  refine SRun.nil ?_
  refine nx_n ?_
  refine swp_ret ?_
  replace h := Option.some.inj h
  subst h
  exact q_br (q_rr (q_fr (fin1 (by kernel_rfl) (finV rfl SV.flat_of (holds_t (by kernel_rfl))))))
  replace h := cond_f hb h
  refine swp_skip ?_
  replace h := Option.some.inj h
  subst h
  exact q_bn (q_l (Le.sub0))
  refine swp_seq ?_
  refine swp_reg ?_
  refine SRun.ck tbok 1 ⟨18, [(6, vi 0)], []⟩ ?_
  refine SRun.nil ?_
  refine nx_n ?_
  refine swp_ret ?_
  replace h := Option.some.inj h
  subst h
  exact q_fr (fin1 (by kernel_rfl) (finV rfl SV.flat_of (holds_t (by kernel_rfl))))
theorem ents68 : Ents Tryd.prog 68 := ents_of Tryd.func68 (by kernel_rfl) rfl

theorem ents92 : Ents Tryd.prog 92 := ents_of Tryd.func92 (by kernel_rfl) rfl
noncomputable def impl_far (aN : Int) (aList : (List Tie)) (aTo : Int) : Option ((List Int)) :=
  ((slices_Repeat_int64 ([(-1)] : List Int) aN).bind fun x1 => ((at' x1 aTo).bind fun _ => (((forS aN (fun (i5 : Int) (s5 : (List Int)) => (forS (aList.length : Int) (fun (i9 : Int) (s9 : (List Int)) => ((at' aList i9).bind fun x13 => (forS 2 (fun (i14 : Int) (s14 : (List Int)) => ((two' i14).bind fun _ => (((bif x13.Same then ((at' s14 (cond (i14 == 0) x13.A x13.B)).bind fun x19 => (bif (x19 == i5) then ((at' s14 (cond (i14 == 0) x13.B x13.A)).bind fun x20 => some (decide (x20 < 0))) else some false)) else some false)).bind fun (j21 : Bool) => (bif j21 then ((at' s14 (cond (i14 == 0) x13.B x13.A)).bind fun _ => some (List.set s14 (Int.toNat (cond (i14 == 0) x13.B x13.A)) (w64 (i5 + 1)))) else some s14)))) (fun (s14 : (List Int)) => s14) 0 s9))) (fun (s9 : (List Int)) => s9) 0 s5)) (fun (s5 : (List Int)) => s5) 0 (List.set x1 (Int.toNat aTo) 0))).bind fun (j3 : (List Int)) => some j3)))
set_option maxRecDepth 100000 in
set_option maxHeartbeats 4000000 in
theorem impl_far_run (aN : Int) (aList : (List Tie)) (aTo : Int) (r : (List Int)) (h : impl_far aN aList aTo = some r) : SCall Tryd.prog 76 [.v (vi aN), .v (vl eTie aList), .v (vi aTo)] ⟨[.own 2 1 r.length (r.map (eI .i64))], [], false⟩ := by
  refine scall_in Tryd.func76 rfl [(.tmp 6)] rfl (fun r => ⟨[.own 2 1 r.length (r.map (eI .i64))], [], false⟩) (r := r) ?_
  unfold impl_far at h
  refine swp_seq ?_
  refine swp_reg ?_
  refine SRun.ck tbok 1 ⟨72, [(0, vi aN), (1, vl eTie aList), (2, vi aTo)], []⟩ ?_
  refine SRun.nil ?_
  refine nx_n ?_
  refine swp_seq ?_
  refine swp_reg ?_
  refine SRun.ck tbok 2 ⟨72, [(0, vi aN), (1, vl eTie aList), (2, vi aTo), (13, .own 13), (14, vi aN)], [(13, .arr 2 1 ([(-1)] : List Int).length (([(-1)] : List Int).map (eI .i64)))]⟩ ?_
  obtain ⟨x1, hx1, h⟩ := bind_some h
  refine SRun.ls (x_lstep_call (f := 92) (caps := []) (xs := [.own 13, vi aN]) (ys := [vl (eI .i64) ([(-1)] : List Int), vi aN]) (res := ⟨[.own 2 1 x1.length (x1.map (eI .i64))], [], false⟩) (x := .own 15) (y := some (.arr 2 1 x1.length (x1.map (eI .i64)))) rfl ents92 (slices_Repeat_int64_run ([(-1)] : List Int) aN _ hx1) rfl (by intro hc; cases hc)) ?_
  refine SRun.ck tbok 1 ⟨72, [(0, vi aN), (1, vl eTie aList), (2, vi aTo), (7, .own 15)], [(15, .arr 2 1 x1.length (x1.map (eI .i64)))]⟩ ?_
  refine SRun.nil ?_
  refine nx_n ?_
  refine swp_seq ?_
  refine swp_reg ?_
  refine SRun.ck tbok 2 ⟨72, [(0, vi aN), (1, vl eTie aList), (7, .own 15), (16, .own 15), (17, vi aTo)], [(15, .arr 2 1 x1.length (x1.map (eI .i64)))]⟩ ?_
  obtain ⟨x2, hx2, h⟩ := bind_some h
  refine SRun.ls (x_index_own (d := 15) (L := x1) (f := (eI .i64)) (ti := ti50) (tj := ti2) (e := 2) (e' := 2) (m := 1) (k := .i64) tbok rfl hx2) ?_
  refine SRun.estep (x_store_own (d := 15) (m := 1) (j := 0) (L := x1) (f := (eI .i64)) (x := 0) (z := x2) (ti := ti2) (e := 2) (ts := [.int .i64 0]) (vs := [vi 0]) (v := vi 0) tbok rfl rfl hx2) ?_
  refine SRun.nil ?_
  refine nx_n ?_
  refine swp_seq ?_
  refine swp_seq ?_
  refine swp_reg ?_
  refine SRun.ck tbok 2 ⟨72, [(1, vl eTie aList), (7, .own 15), (19, vi aN), (20, vi 0)], [(15, .arr 2 1 (List.set x1 (Int.toNat aTo) 0).length ((List.set x1 (Int.toNat aTo) 0).map (eI .i64)))]⟩ ?_
  refine SRun.nil ?_
  refine nx_n ?_
  refine swp_seqJ h (fun j3 => ⟨72, [(7, .own 7)], [(7, .arr 2 1 j3.length (j3.map (eI .i64)))]⟩) (fun v4 h => ?_) (fun j3 h => ?_)
  refine swp_blk (a := v4) ?_
  refine swp_lpL (r := v4) (s := (0, (List.set x1 (Int.toNat aTo) 0))) _ (fun s5 => ⟨72, [(1, vl eTie aList), (7, .own 7), (19, vi aN), (20, vi s5.1)], [(7, .arr 2 1 s5.2.length (s5.2.map (eI .i64)))]⟩) _ ((Le.sub' ([(1, vl eTie aList), (7, .own 15), (19, vi aN), (20, vi 0)] : List (Nat × SV)) ([(15, .arr 2 1 (List.set x1 (Int.toNat aTo) 0).length ((List.set x1 (Int.toNat aTo) 0).map (eI .i64)))] : List (Nat × SO)) (by kernel_rfl) (by kernel_rfl)).trans ((Le.ren' (d := 15) (e := 7) (by kernel_rfl) (by kernel_rfl) (by kernel_rfl)).trans (Le.sub0))) h (fun s5 v6 h => ?_)
  refine swp_seq ?_
  refine swp_reg ?_
  refine SRun.ck tbok 1 ⟨72, [(1, vl eTie aList), (7, .own 7), (19, vi aN), (20, vi s5.1), (21, vb (decide (s5.1 < aN)))], [(7, .arr 2 1 s5.2.length (s5.2.map (eI .i64)))]⟩ ?_
  refine SRun.nil ?_
  refine nx_n ?_
  refine swp_seq ?_
  refine swp_cond (b := (decide (s5.1 < aN))) (by kernel_rfl) (fun hb => ?_) (fun hb => ?_)
  replace h := cond_t hb h
  refine swp_skip ?_
  refine nx_n ?_
  refine swp_seq ?_
  refine swp_seqJ h (fun j7 => ⟨72, [(1, vl eTie aList), (7, .own 7), (19, vi aN), (20, vi s5.1)], [(7, .arr 2 1 j7.length (j7.map (eI .i64)))]⟩) (fun v8 h => ?_) (fun j7 h => ?_)
  refine swp_blk (a := v8) ?_
  refine swp_seq ?_
  refine swp_reg ?_
  refine SRun.ck tbok 2 ⟨72, [(1, vl eTie aList), (7, .own 7), (8, vi s5.1), (19, vi aN), (20, vi s5.1)], [(7, .arr 2 1 s5.2.length (s5.2.map (eI .i64)))]⟩ ?_
  refine SRun.nil ?_
  refine nx_n ?_
  refine swp_seq ?_
  refine swp_reg ?_
  refine SRun.ck tbok 3 ⟨72, [(1, vl eTie aList), (7, .own 7), (8, vi s5.1), (19, vi aN), (20, vi s5.1), (23, vl eTie aList), (24, vi (aList.length : Int)), (25, vi 0)], [(7, .arr 2 1 s5.2.length (s5.2.map (eI .i64)))]⟩ ?_
  refine SRun.nil ?_
  refine nx_n ?_
  refine swp_blk (a := v8) ?_
  refine swp_lpL (r := v8) (s := (0, s5.2)) _ (fun s9 => ⟨72, [(1, vl eTie aList), (7, .own 7), (8, vi s5.1), (19, vi aN), (20, vi s5.1), (23, vl eTie aList), (24, vi (aList.length : Int)), (25, vi s9.1)], [(7, .arr 2 1 s9.2.length (s9.2.map (eI .i64)))]⟩) _ (Le.sub0) h (fun s9 v10 h => ?_)
  refine swp_seq ?_
  refine swp_reg ?_
  refine SRun.ck tbok 1 ⟨72, [(1, vl eTie aList), (7, .own 7), (8, vi s5.1), (19, vi aN), (20, vi s5.1), (23, vl eTie aList), (24, vi (aList.length : Int)), (25, vi s9.1), (26, vb (decide (s9.1 < (aList.length : Int))))], [(7, .arr 2 1 s9.2.length (s9.2.map (eI .i64)))]⟩ ?_
  refine SRun.nil ?_
  refine nx_n ?_
  refine swp_seq ?_
  refine swp_cond (b := (decide (s9.1 < (aList.length : Int)))) (by kernel_rfl) (fun hb => ?_) (fun hb => ?_)
  replace h := cond_t hb h
  refine swp_skip ?_
  refine nx_n ?_
  refine swp_seq ?_
  refine swp_seqJ h (fun j11 => ⟨72, [(1, vl eTie aList), (7, .own 7), (8, vi s5.1), (19, vi aN), (20, vi s5.1), (23, vl eTie aList), (24, vi (aList.length : Int)), (25, vi s9.1)], [(7, .arr 2 1 j11.length (j11.map (eI .i64)))]⟩) (fun v12 h => ?_) (fun j11 h => ?_)
  refine swp_blk (a := v12) ?_
  refine swp_seq ?_
  refine swp_reg ?_
  obtain ⟨x13, hx13, h⟩ := bind_some h
  refine SRun.ls (x_index (L := aList) (f := eTie) (ti := ti25) (tj := ti42) (e := 42) (k := .i64) tbok rfl hx13) ?_
  refine SRun.ck tbok 2 ⟨72, [(1, vl eTie aList), (7, .own 7), (8, vi s5.1), (10, .ref 10 0), (19, vi aN), (20, vi s5.1), (23, vl eTie aList), (24, vi (aList.length : Int)), (25, vi s9.1), (28, .agg [vi x13.A, vi x13.B, vb x13.Same, vs x13.Reason])], [(7, .arr 2 1 s9.2.length (s9.2.map (eI .i64))), (10, .box [vi 0, vi 0, vb false, vs (ByteArray.mk #[])])]⟩ ?_
  refine SRun.estep (x_estep_store (d := 10) (k := 0) (ti := ti42) (cs := [vi 0, vi 0, vb false, vs (ByteArray.mk #[])]) (vs := [vi x13.A, vi x13.B, vb x13.Same, vs x13.Reason]) (v := .agg [vi x13.A, vi x13.B, vb x13.Same, vs x13.Reason]) tbok rfl rfl) ?_
  refine SRun.nil ?_
  refine nx_n ?_
  refine swp_seq ?_
  refine swp_reg ?_
  refine SRun.ck tbok 4 ⟨72, [(1, vl eTie aList), (7, .own 7), (8, vi s5.1), (10, .ref 10 0), (19, vi aN), (20, vi s5.1), (23, vl eTie aList), (24, vi (aList.length : Int)), (25, vi s9.1), (30, vi x13.A), (32, vi x13.B)], [(7, .arr 2 1 s9.2.length (s9.2.map (eI .i64))), (10, .box [vi x13.A, vi x13.B, vb x13.Same, vs x13.Reason])]⟩ ?_
  refine SRun.ls (x_lstep_build (v := .agg [vi x13.A, vi x13.B]) tbok rfl) ?_
  refine SRun.ck tbok 4 ⟨72, [(1, vl eTie aList), (7, .own 7), (8, vi s5.1), (10, .ref 10 0), (19, vi aN), (20, vi s5.1), (23, vl eTie aList), (24, vi (aList.length : Int)), (25, vi s9.1), (33, .agg [vi x13.A, vi x13.B]), (35, vi x13.B), (37, vi x13.A)], [(7, .arr 2 1 s9.2.length (s9.2.map (eI .i64))), (10, .box [vi x13.A, vi x13.B, vb x13.Same, vs x13.Reason])]⟩ ?_
  refine SRun.ls (x_lstep_build (v := .agg [vi x13.B, vi x13.A]) tbok rfl) ?_
  refine SRun.ls (x_lstep_build (v := .agg [vi x13.A, vi x13.B, vi x13.B, vi x13.A]) tbok rfl) ?_
  refine SRun.ck tbok 1 ⟨72, [(1, vl eTie aList), (7, .own 7), (8, vi s5.1), (10, .ref 10 0), (19, vi aN), (20, vi s5.1), (23, vl eTie aList), (24, vi (aList.length : Int)), (25, vi s9.1), (39, .agg [vi x13.A, vi x13.B, vi x13.B, vi x13.A]), (40, vi 0)], [(7, .arr 2 1 s9.2.length (s9.2.map (eI .i64))), (10, .box [vi x13.A, vi x13.B, vb x13.Same, vs x13.Reason])]⟩ ?_
  refine SRun.nil ?_
  refine nx_n ?_
  refine swp_blk (a := v12) ?_
  refine swp_lpL (r := v12) (s := (0, s9.2)) _ (fun s14 => ⟨72, [(1, vl eTie aList), (7, .own 7), (8, vi s5.1), (10, .ref 10 0), (19, vi aN), (20, vi s5.1), (23, vl eTie aList), (24, vi (aList.length : Int)), (25, vi s9.1), (39, .agg [vi x13.A, vi x13.B, vi x13.B, vi x13.A]), (40, vi s14.1)], [(7, .arr 2 1 s14.2.length (s14.2.map (eI .i64))), (10, .box [vi x13.A, vi x13.B, vb x13.Same, vs x13.Reason])]⟩) _ (Le.sub0) h (fun s14 v15 h => ?_)
  refine swp_seq ?_
  refine swp_reg ?_
  refine SRun.ck tbok 1 ⟨72, [(1, vl eTie aList), (7, .own 7), (8, vi s5.1), (10, .ref 10 0), (19, vi aN), (20, vi s5.1), (23, vl eTie aList), (24, vi (aList.length : Int)), (25, vi s9.1), (39, .agg [vi x13.A, vi x13.B, vi x13.B, vi x13.A]), (40, vi s14.1), (41, vb (decide (s14.1 < 2)))], [(7, .arr 2 1 s14.2.length (s14.2.map (eI .i64))), (10, .box [vi x13.A, vi x13.B, vb x13.Same, vs x13.Reason])]⟩ ?_
  refine SRun.nil ?_
  refine nx_n ?_
  refine swp_seq ?_
  refine swp_cond (b := (decide (s14.1 < 2))) (by kernel_rfl) (fun hb => ?_) (fun hb => ?_)
  replace h := cond_t hb h
  refine swp_skip ?_
  refine nx_n ?_
  refine swp_seq ?_
  refine swp_seqJ h (fun j16 => ⟨72, [(1, vl eTie aList), (7, .own 7), (8, vi s5.1), (10, .ref 10 0), (19, vi aN), (20, vi s5.1), (23, vl eTie aList), (24, vi (aList.length : Int)), (25, vi s9.1), (39, .agg [vi x13.A, vi x13.B, vi x13.B, vi x13.A]), (40, vi s14.1)], [(7, .arr 2 1 j16.length (j16.map (eI .i64))), (10, .box [vi x13.A, vi x13.B, vb x13.Same, vs x13.Reason])]⟩) (fun v17 h => ?_) (fun j16 h => ?_)
  refine swp_blk (a := v17) ?_
  refine swp_seq ?_
  refine swp_reg ?_
  obtain ⟨x18, hx18, h⟩ := bind_some h
  refine SRun.ls (x_two tbok hx18 rfl (k := .i64) (e := 100) (m := 2) (ti := ti101) (tj := ti100) (cs := [vi x13.A, vi x13.B, vi x13.B, vi x13.A]) (v := .agg [vi (cond (s14.1 == 0) x13.A x13.B), vi (cond (s14.1 == 0) x13.B x13.A)]) (fun b => .agg [vi (cond b x13.A x13.B), vi (cond b x13.B x13.A)]) rfl) ?_
  refine SRun.ck tbok 1 ⟨72, [(1, vl eTie aList), (7, .own 7), (8, vi s5.1), (10, .ref 10 0), (12, .ref 12 0), (19, vi aN), (20, vi s5.1), (23, vl eTie aList), (24, vi (aList.length : Int)), (25, vi s9.1), (39, .agg [vi x13.A, vi x13.B, vi x13.B, vi x13.A]), (40, vi s14.1), (42, .agg [vi (cond (s14.1 == 0) x13.A x13.B), vi (cond (s14.1 == 0) x13.B x13.A)])], [(7, .arr 2 1 s14.2.length (s14.2.map (eI .i64))), (10, .box [vi x13.A, vi x13.B, vb x13.Same, vs x13.Reason]), (12, .box [vi 0, vi 0])]⟩ ?_
  refine SRun.estep (x_estep_store (d := 12) (k := 0) (ti := ti100) (cs := [vi 0, vi 0]) (vs := [vi (cond (s14.1 == 0) x13.A x13.B), vi (cond (s14.1 == 0) x13.B x13.A)]) (v := .agg [vi (cond (s14.1 == 0) x13.A x13.B), vi (cond (s14.1 == 0) x13.B x13.A)]) tbok rfl rfl) ?_
  refine SRun.nil ?_
  refine nx_n ?_
  refine swp_seq ?_
  refine swp_regJ h (fun j21 => ⟨72, [(1, vl eTie aList), (7, .own 7), (8, vi s5.1), (10, .ref 10 0), (12, .ref 12 0), (19, vi aN), (20, vi s5.1), (23, vl eTie aList), (24, vi (aList.length : Int)), (25, vi s9.1), (39, .agg [vi x13.A, vi x13.B, vi x13.B, vi x13.A]), (40, vi s14.1), (61, vb j21)], [(7, .arr 2 1 s14.2.length (s14.2.map (eI .i64))), (10, .box [vi x13.A, vi x13.B, vb x13.Same, vs x13.Reason]), (12, .box [vi (cond (s14.1 == 0) x13.A x13.B), vi (cond (s14.1 == 0) x13.B x13.A)])]⟩) (fun v22 h => ?_) (fun j21 h => ?_)
  refine SRun.ck tbok 3 ⟨72, [(1, vl eTie aList), (7, .own 7), (8, vi s5.1), (10, .ref 10 0), (12, .ref 12 0), (19, vi aN), (20, vi s5.1), (23, vl eTie aList), (24, vi (aList.length : Int)), (25, vi s9.1), (39, .agg [vi x13.A, vi x13.B, vi x13.B, vi x13.A]), (40, vi s14.1), (45, vb x13.Same)], [(7, .arr 2 1 s14.2.length (s14.2.map (eI .i64))), (10, .box [vi x13.A, vi x13.B, vb x13.Same, vs x13.Reason]), (12, .box [vi (cond (s14.1 == 0) x13.A x13.B), vi (cond (s14.1 == 0) x13.B x13.A)])]⟩ ?_
  refine SRun.cut [(45, fun b => b)] (b := x13.Same) (by kernel_rfl) (fun hb => ?_) (fun hb => ?_)
  replace h := cond_t hb h
  refine SRun.ck tbok 3 ⟨72, [(1, vl eTie aList), (7, .own 7), (8, vi s5.1), (10, .ref 10 0), (12, .ref 12 0), (19, vi aN), (20, vi s5.1), (23, vl eTie aList), (24, vi (aList.length : Int)), (25, vi s9.1), (39, .agg [vi x13.A, vi x13.B, vi x13.B, vi x13.A]), (40, vi s14.1), (45, vb true), (46, .own 7), (48, vi (cond (s14.1 == 0) x13.A x13.B))], [(7, .arr 2 1 s14.2.length (s14.2.map (eI .i64))), (10, .box [vi x13.A, vi x13.B, vb x13.Same, vs x13.Reason]), (12, .box [vi (cond (s14.1 == 0) x13.A x13.B), vi (cond (s14.1 == 0) x13.B x13.A)])]⟩ ?_
  obtain ⟨x19, hx19, h⟩ := bind_some h
  refine SRun.ls (x_index_own (d := 7) (L := s14.2) (f := (eI .i64)) (ti := ti50) (tj := ti2) (e := 2) (e' := 2) (m := 1) (k := .i64) tbok rfl hx19) ?_
  refine SRun.ls (x_load_own (d := 7) (m := 1) (j := 0) (L := s14.2) (f := (eI .i64)) (ti := ti2) (e := 2) (v := vi x19) tbok rfl hx19) ?_
  refine SRun.ck tbok 4 ⟨72, [(1, vl eTie aList), (7, .own 7), (8, vi s5.1), (10, .ref 10 0), (12, .ref 12 0), (19, vi aN), (20, vi s5.1), (23, vl eTie aList), (24, vi (aList.length : Int)), (25, vi s9.1), (39, .agg [vi x13.A, vi x13.B, vi x13.B, vi x13.A]), (40, vi s14.1), (54, vb (x19 == s5.1))], [(7, .arr 2 1 s14.2.length (s14.2.map (eI .i64))), (10, .box [vi x13.A, vi x13.B, vb x13.Same, vs x13.Reason]), (12, .box [vi (cond (s14.1 == 0) x13.A x13.B), vi (cond (s14.1 == 0) x13.B x13.A)])]⟩ ?_
  refine SRun.cut [(54, fun b => b)] (b := (x19 == s5.1)) (by kernel_rfl) (fun hb => ?_) (fun hb => ?_)
  replace h := cond_t hb h
  refine SRun.ck tbok 3 ⟨72, [(1, vl eTie aList), (7, .own 7), (8, vi s5.1), (10, .ref 10 0), (12, .ref 12 0), (19, vi aN), (20, vi s5.1), (23, vl eTie aList), (24, vi (aList.length : Int)), (25, vi s9.1), (39, .agg [vi x13.A, vi x13.B, vi x13.B, vi x13.A]), (40, vi s14.1), (54, vb true), (55, .own 7), (57, vi (cond (s14.1 == 0) x13.B x13.A))], [(7, .arr 2 1 s14.2.length (s14.2.map (eI .i64))), (10, .box [vi x13.A, vi x13.B, vb x13.Same, vs x13.Reason]), (12, .box [vi (cond (s14.1 == 0) x13.A x13.B), vi (cond (s14.1 == 0) x13.B x13.A)])]⟩ ?_
  obtain ⟨x20, hx20, h⟩ := bind_some h
  refine SRun.ls (x_index_own (d := 7) (L := s14.2) (f := (eI .i64)) (ti := ti50) (tj := ti2) (e := 2) (e' := 2) (m := 1) (k := .i64) tbok rfl hx20) ?_
  refine SRun.ls (x_load_own (d := 7) (m := 1) (j := 0) (L := s14.2) (f := (eI .i64)) (ti := ti2) (e := 2) (v := vi x20) tbok rfl hx20) ?_
  refine SRun.ck tbok 2 ⟨72, [(1, vl eTie aList), (7, .own 7), (8, vi s5.1), (10, .ref 10 0), (12, .ref 12 0), (19, vi aN), (20, vi s5.1), (23, vl eTie aList), (24, vi (aList.length : Int)), (25, vi s9.1), (39, .agg [vi x13.A, vi x13.B, vi x13.B, vi x13.A]), (40, vi s14.1), (61, vb (decide (x20 < 0)))], [(7, .arr 2 1 s14.2.length (s14.2.map (eI .i64))), (10, .box [vi x13.A, vi x13.B, vb x13.Same, vs x13.Reason]), (12, .box [vi (cond (s14.1 == 0) x13.A x13.B), vi (cond (s14.1 == 0) x13.B x13.A)])]⟩ ?_
  refine SRun.nil ?_
  replace h := Option.some.inj h
  subst h
  exact Le.sub0
  replace h := cond_f hb h
  refine SRun.ck tbok 7 ⟨72, [(1, vl eTie aList), (7, .own 7), (8, vi s5.1), (10, .ref 10 0), (12, .ref 12 0), (19, vi aN), (20, vi s5.1), (23, vl eTie aList), (24, vi (aList.length : Int)), (25, vi s9.1), (39, .agg [vi x13.A, vi x13.B, vi x13.B, vi x13.A]), (40, vi s14.1), (61, vb false)], [(7, .arr 2 1 s14.2.length (s14.2.map (eI .i64))), (10, .box [vi x13.A, vi x13.B, vb x13.Same, vs x13.Reason]), (12, .box [vi (cond (s14.1 == 0) x13.A x13.B), vi (cond (s14.1 == 0) x13.B x13.A)])]⟩ ?_
  refine SRun.nil ?_
  replace h := Option.some.inj h
  subst h
  exact Le.sub0
  replace h := cond_f hb h
  refine SRun.ck tbok 16 ⟨72, [(1, vl eTie aList), (7, .own 7), (8, vi s5.1), (10, .ref 10 0), (12, .ref 12 0), (19, vi aN), (20, vi s5.1), (23, vl eTie aList), (24, vi (aList.length : Int)), (25, vi s9.1), (39, .agg [vi x13.A, vi x13.B, vi x13.B, vi x13.A]), (40, vi s14.1), (61, vb false)], [(7, .arr 2 1 s14.2.length (s14.2.map (eI .i64))), (10, .box [vi x13.A, vi x13.B, vb x13.Same, vs x13.Reason]), (12, .box [vi (cond (s14.1 == 0) x13.A x13.B), vi (cond (s14.1 == 0) x13.B x13.A)])]⟩ ?_
  refine SRun.nil ?_
  replace h := Option.some.inj h
  subst h
  exact Le.sub0
  refine swp_cond (b := j21) (by kernel_rfl) (fun hb => ?_) (fun hb => ?_)
  replace h := cond_t hb h
  refine swp_reg ?_
  refine SRun.ck tbok 5 ⟨72, [(1, vl eTie aList), (7, .own 7), (8, vi s5.1), (10, .ref 10 0), (19, vi aN), (20, vi s5.1), (23, vl eTie aList), (24, vi (aList.length : Int)), (25, vi s9.1), (39, .agg [vi x13.A, vi x13.B, vi x13.B, vi x13.A]), (40, vi s14.1), (62, .own 7), (64, vi (cond (s14.1 == 0) x13.B x13.A)), (66, vi (w64 (s5.1 + 1)))], [(7, .arr 2 1 s14.2.length (s14.2.map (eI .i64))), (10, .box [vi x13.A, vi x13.B, vb x13.Same, vs x13.Reason])]⟩ ?_
  obtain ⟨x23, hx23, h⟩ := bind_some h
  refine SRun.ls (x_index_own (d := 7) (L := s14.2) (f := (eI .i64)) (ti := ti50) (tj := ti2) (e := 2) (e' := 2) (m := 1) (k := .i64) tbok rfl hx23) ?_
  refine SRun.estep (x_store_own (d := 7) (m := 1) (j := 0) (L := s14.2) (f := (eI .i64)) (x := (w64 (s5.1 + 1))) (z := x23) (ti := ti2) (e := 2) (ts := [.int .i64 (w64 (s5.1 + 1))]) (vs := [vi (w64 (s5.1 + 1))]) (v := vi (w64 (s5.1 + 1))) tbok rfl rfl hx23) ?_
  refine SRun.nil ?_
  replace h := Option.some.inj h
  subst h
  exact q_bn (q_j (Le.sub0))
  replace h := cond_f hb h
  refine swp_skip ?_
  replace h := Option.some.inj h
  subst h
  exact q_bn (q_j (Le.sub0))
  refine swp_reg ?_
  refine SRun.ck tbok 2 ⟨72, [(1, vl eTie aList), (7, .own 7), (8, vi s5.1), (10, .ref 10 0), (19, vi aN), (20, vi s5.1), (23, vl eTie aList), (24, vi (aList.length : Int)), (25, vi s9.1), (39, .agg [vi x13.A, vi x13.B, vi x13.B, vi x13.A]), (40, vi (w64 (s14.1 + 1)))], [(7, .arr 2 1 j16.length (j16.map (eI .i64))), (10, .box [vi x13.A, vi x13.B, vb x13.Same, vs x13.Reason])]⟩ ?_
  refine SRun.nil ?_
  replace h := Option.some.inj h
  subst h
  exact q_l (Le.sub0)
  replace h := cond_f hb h
  refine swp_exit ?_
  replace h := Option.some.inj h
  subst h
  exact nx_e (q_re (q_bh (q_bn (q_j (Le.sub0)))))
  refine swp_reg ?_
  refine SRun.ck tbok 2 ⟨72, [(1, vl eTie aList), (7, .own 7), (8, vi s5.1), (19, vi aN), (20, vi s5.1), (23, vl eTie aList), (24, vi (aList.length : Int)), (25, vi (w64 (s9.1 + 1)))], [(7, .arr 2 1 j11.length (j11.map (eI .i64)))]⟩ ?_
  refine SRun.nil ?_
  replace h := Option.some.inj h
  subst h
  exact q_l (Le.sub0)
  replace h := cond_f hb h
  refine swp_exit ?_
  replace h := Option.some.inj h
  subst h
  exact nx_e (q_re (q_bh (q_bn (q_j (Le.sub0)))))
  refine swp_reg ?_
  refine SRun.ck tbok 2 ⟨72, [(1, vl eTie aList), (7, .own 7), (19, vi aN), (20, vi (w64 (s5.1 + 1)))], [(7, .arr 2 1 j7.length (j7.map (eI .i64)))]⟩ ?_
  refine SRun.nil ?_
  replace h := Option.some.inj h
  subst h
  exact q_l (Le.sub0)
  replace h := cond_f hb h
  refine swp_exit ?_
  replace h := Option.some.inj h
  subst h
  exact nx_e (q_re (q_bh (q_j (Le.sub0))))
  refine swp_seq ?_
  refine swp_reg ?_
  refine SRun.ck tbok 2 ⟨72, [(6, .own 7)], [(7, .arr 2 1 j3.length (j3.map (eI .i64)))]⟩ ?_
  refine SRun.nil ?_
  refine nx_n ?_
  refine swp_ret ?_
  replace h := Option.some.inj h
  subst h
  exact q_fr (fin1 (by kernel_rfl) (finO (d := 7) (holds_t (by kernel_rfl)) (by kernel_rfl) (flat_map (eI_flat .i64) _) (by kernel_rfl)))
theorem ents76 : Ents Tryd.prog 76 := ents_of Tryd.func76 (by kernel_rfl) rfl
noncomputable def impl_step (aList : (List Tie)) (aDistances : (List Int)) (aAt : Int) : Option (Int × Int) :=
  (((forN (aList.length : Int) (fun (i3 : Int) (_ : Unit) => ((at' aList i3).bind fun x7 => (forN 2 (fun (i8 : Int) (_ : Unit) => ((two' i8).bind fun _ => (((bif x7.Same then (bif ((cond (i8 == 0) x7.A x7.B) == aAt) then ((at' aDistances (cond (i8 == 0) x7.B x7.A)).bind fun x13 => ((at' aDistances aAt).bind fun x14 => some (x13 == (w64 (x14 - 1))))) else some false) else some false)).bind fun (j15 : Bool) => (bif j15 then some (.inr (.inr (.inr (i3, (cond (i8 == 0) x7.B x7.A))))) else some (.inl ()))))) (fun (_ : Unit) => .inl ()) 0 ()))) (fun (_ : Unit) => .inl ()) 0 ())).bind (Sum.elim (fun (_ : Unit) => some (0, aAt)) some))
set_option maxRecDepth 100000 in
set_option maxHeartbeats 4000000 in
theorem impl_step_run (aList : (List Tie)) (aDistances : (List Int)) (aAt : Int) (r : Int × Int) (h : impl_step aList aDistances aAt = some r) : SCall Tryd.prog 91 [.v (vl eTie aList), .v (vl (eI .i64) aDistances), .v (vi aAt)] ⟨[.v (vi r.1), .v (vi r.2)], [], false⟩ := by
  refine scall_in Tryd.func91 rfl [(.tmp 6), (.tmp 7)] rfl (fun r => ⟨[.v (vi r.1), .v (vi r.2)], [], false⟩) (r := r) ?_
  unfold impl_step at h
  refine swp_seq ?_
  refine swp_reg ?_
  refine SRun.ck tbok 2 ⟨60, [(0, vl eTie aList), (1, vl (eI .i64) aDistances), (2, vi aAt)], []⟩ ?_
  refine SRun.nil ?_
  refine nx_n ?_
  refine swp_seq ?_
  refine swp_seq ?_
  refine swp_reg ?_
  refine SRun.ck tbok 3 ⟨60, [(1, vl (eI .i64) aDistances), (2, vi aAt), (12, vl eTie aList), (13, vi (aList.length : Int)), (14, vi 0)], []⟩ ?_
  refine SRun.nil ?_
  refine nx_n ?_
  refine swp_seqE (r := r) h (fun j1 => ⟨60, [(2, vi aAt)], []⟩) (fun v2 h => ?_) (fun j1 h => ?_)
  refine swp_blk (a := v2) ?_
  refine swp_lpL (r := v2) (s := (0, ())) _ (fun s3 => ⟨60, [(1, vl (eI .i64) aDistances), (2, vi aAt), (12, vl eTie aList), (13, vi (aList.length : Int)), (14, vi s3.1)], []⟩) _ (Le.sub0) h (fun s3 v4 h => ?_)
  refine swp_seq ?_
  refine swp_reg ?_
  refine SRun.ck tbok 1 ⟨60, [(1, vl (eI .i64) aDistances), (2, vi aAt), (12, vl eTie aList), (13, vi (aList.length : Int)), (14, vi s3.1), (15, vb (decide (s3.1 < (aList.length : Int))))], []⟩ ?_
  refine SRun.nil ?_
  refine nx_n ?_
  refine swp_seq ?_
  refine swp_cond (b := (decide (s3.1 < (aList.length : Int)))) (by kernel_rfl) (fun hb => ?_) (fun hb => ?_)
  replace h := cond_t hb h
  refine swp_skip ?_
  refine nx_n ?_
  refine swp_seq ?_
  refine swp_seqL (r := v4) h (fun j5 => ⟨60, [(1, vl (eI .i64) aDistances), (2, vi aAt), (12, vl eTie aList), (13, vi (aList.length : Int)), (14, vi s3.1)], []⟩) (fun v6 h => ?_) (fun j5 h => ?_)
  refine swp_blk (a := v6) ?_
  refine swp_seq ?_
  refine swp_reg ?_
  refine SRun.ck tbok 1 ⟨60, [(1, vl (eI .i64) aDistances), (2, vi aAt), (12, vl eTie aList), (13, vi (aList.length : Int)), (14, vi s3.1), (16, vi s3.1)], []⟩ ?_
  obtain ⟨x7, hx7, h⟩ := bind_some h
  refine SRun.ls (x_index (L := aList) (f := eTie) (ti := ti25) (tj := ti42) (e := 42) (k := .i64) tbok rfl hx7) ?_
  refine SRun.ck tbok 3 ⟨60, [(1, vl (eI .i64) aDistances), (2, vi aAt), (8, vi s3.1), (9, .ref 9 0), (12, vl eTie aList), (13, vi (aList.length : Int)), (14, vi s3.1), (18, .agg [vi x7.A, vi x7.B, vb x7.Same, vs x7.Reason])], [(9, .box [vi 0, vi 0, vb false, vs (ByteArray.mk #[])])]⟩ ?_
  refine SRun.estep (x_estep_store (d := 9) (k := 0) (ti := ti42) (cs := [vi 0, vi 0, vb false, vs (ByteArray.mk #[])]) (vs := [vi x7.A, vi x7.B, vb x7.Same, vs x7.Reason]) (v := .agg [vi x7.A, vi x7.B, vb x7.Same, vs x7.Reason]) tbok rfl rfl) ?_
  refine SRun.nil ?_
  refine nx_n ?_
  refine swp_seq ?_
  refine swp_reg ?_
  refine SRun.ck tbok 4 ⟨60, [(1, vl (eI .i64) aDistances), (2, vi aAt), (8, vi s3.1), (9, .ref 9 0), (12, vl eTie aList), (13, vi (aList.length : Int)), (14, vi s3.1), (20, vi x7.A), (22, vi x7.B)], [(9, .box [vi x7.A, vi x7.B, vb x7.Same, vs x7.Reason])]⟩ ?_
  refine SRun.ls (x_lstep_build (v := .agg [vi x7.A, vi x7.B]) tbok rfl) ?_
  refine SRun.ck tbok 4 ⟨60, [(1, vl (eI .i64) aDistances), (2, vi aAt), (8, vi s3.1), (9, .ref 9 0), (12, vl eTie aList), (13, vi (aList.length : Int)), (14, vi s3.1), (23, .agg [vi x7.A, vi x7.B]), (25, vi x7.B), (27, vi x7.A)], [(9, .box [vi x7.A, vi x7.B, vb x7.Same, vs x7.Reason])]⟩ ?_
  refine SRun.ls (x_lstep_build (v := .agg [vi x7.B, vi x7.A]) tbok rfl) ?_
  refine SRun.ls (x_lstep_build (v := .agg [vi x7.A, vi x7.B, vi x7.B, vi x7.A]) tbok rfl) ?_
  refine SRun.ck tbok 1 ⟨60, [(1, vl (eI .i64) aDistances), (2, vi aAt), (8, vi s3.1), (9, .ref 9 0), (12, vl eTie aList), (13, vi (aList.length : Int)), (14, vi s3.1), (29, .agg [vi x7.A, vi x7.B, vi x7.B, vi x7.A]), (30, vi 0)], [(9, .box [vi x7.A, vi x7.B, vb x7.Same, vs x7.Reason])]⟩ ?_
  refine SRun.nil ?_
  refine nx_n ?_
  refine swp_blk (a := v6) ?_
  refine swp_lpL (r := v6) (s := (0, ())) _ (fun s8 => ⟨60, [(1, vl (eI .i64) aDistances), (2, vi aAt), (8, vi s3.1), (9, .ref 9 0), (12, vl eTie aList), (13, vi (aList.length : Int)), (14, vi s3.1), (29, .agg [vi x7.A, vi x7.B, vi x7.B, vi x7.A]), (30, vi s8.1)], [(9, .box [vi x7.A, vi x7.B, vb x7.Same, vs x7.Reason])]⟩) _ (Le.sub0) h (fun s8 v9 h => ?_)
  refine swp_seq ?_
  refine swp_reg ?_
  refine SRun.ck tbok 1 ⟨60, [(1, vl (eI .i64) aDistances), (2, vi aAt), (8, vi s3.1), (9, .ref 9 0), (12, vl eTie aList), (13, vi (aList.length : Int)), (14, vi s3.1), (29, .agg [vi x7.A, vi x7.B, vi x7.B, vi x7.A]), (30, vi s8.1), (31, vb (decide (s8.1 < 2)))], [(9, .box [vi x7.A, vi x7.B, vb x7.Same, vs x7.Reason])]⟩ ?_
  refine SRun.nil ?_
  refine nx_n ?_
  refine swp_seq ?_
  refine swp_cond (b := (decide (s8.1 < 2))) (by kernel_rfl) (fun hb => ?_) (fun hb => ?_)
  replace h := cond_t hb h
  refine swp_skip ?_
  refine nx_n ?_
  refine swp_seq ?_
  refine swp_seqL (r := v9) h (fun j10 => ⟨60, [(1, vl (eI .i64) aDistances), (2, vi aAt), (8, vi s3.1), (9, .ref 9 0), (12, vl eTie aList), (13, vi (aList.length : Int)), (14, vi s3.1), (29, .agg [vi x7.A, vi x7.B, vi x7.B, vi x7.A]), (30, vi s8.1)], [(9, .box [vi x7.A, vi x7.B, vb x7.Same, vs x7.Reason])]⟩) (fun v11 h => ?_) (fun j10 h => ?_)
  refine swp_blk (a := v11) ?_
  refine swp_seq ?_
  refine swp_reg ?_
  obtain ⟨x12, hx12, h⟩ := bind_some h
  refine SRun.ls (x_two tbok hx12 rfl (k := .i64) (e := 100) (m := 2) (ti := ti101) (tj := ti100) (cs := [vi x7.A, vi x7.B, vi x7.B, vi x7.A]) (v := .agg [vi (cond (s8.1 == 0) x7.A x7.B), vi (cond (s8.1 == 0) x7.B x7.A)]) (fun b => .agg [vi (cond b x7.A x7.B), vi (cond b x7.B x7.A)]) rfl) ?_
  refine SRun.ck tbok 1 ⟨60, [(1, vl (eI .i64) aDistances), (2, vi aAt), (8, vi s3.1), (9, .ref 9 0), (11, .ref 11 0), (12, vl eTie aList), (13, vi (aList.length : Int)), (14, vi s3.1), (29, .agg [vi x7.A, vi x7.B, vi x7.B, vi x7.A]), (30, vi s8.1), (32, .agg [vi (cond (s8.1 == 0) x7.A x7.B), vi (cond (s8.1 == 0) x7.B x7.A)])], [(9, .box [vi x7.A, vi x7.B, vb x7.Same, vs x7.Reason]), (11, .box [vi 0, vi 0])]⟩ ?_
  refine SRun.estep (x_estep_store (d := 11) (k := 0) (ti := ti100) (cs := [vi 0, vi 0]) (vs := [vi (cond (s8.1 == 0) x7.A x7.B), vi (cond (s8.1 == 0) x7.B x7.A)]) (v := .agg [vi (cond (s8.1 == 0) x7.A x7.B), vi (cond (s8.1 == 0) x7.B x7.A)]) tbok rfl rfl) ?_
  refine SRun.nil ?_
  refine nx_n ?_
  refine swp_seq ?_
  refine swp_drJ mixed h (fun j15 => ⟨60, [(1, vl (eI .i64) aDistances), (2, vi aAt), (8, vi s3.1), (9, .ref 9 0), (11, .ref 11 0), (12, vl eTie aList), (13, vi (aList.length : Int)), (14, vi s3.1), (29, .agg [vi x7.A, vi x7.B, vi x7.B, vi x7.A]), (30, vi s8.1), (53, vb j15)], [(9, .box [vi x7.A, vi x7.B, vb x7.Same, vs x7.Reason]), (11, .box [vi (cond (s8.1 == 0) x7.A x7.B), vi (cond (s8.1 == 0) x7.B x7.A)])]⟩) (fun v16 h => ?_) (fun j15 h => ?_)
  refine DGo.chunk' tbok 3 (σ' := ⟨60, [(35, vb x7.Same), (34, vb x7.Same), (33, .ref 9 2), (1, vl (eI .i64) aDistances), (2, vi aAt), (8, vi s3.1), (9, .ref 9 0), (11, .ref 11 0), (12, vl eTie aList), (13, vi (aList.length : Int)), (14, vi s3.1), (29, .agg [vi x7.A, vi x7.B, vi x7.B, vi x7.A]), (30, vi s8.1), (32, .agg [vi (cond (s8.1 == 0) x7.A x7.B), vi (cond (s8.1 == 0) x7.B x7.A)])], [(11, .box [vi (cond (s8.1 == 0) x7.A x7.B), vi (cond (s8.1 == 0) x7.B x7.A)]), (9, .box [vi x7.A, vi x7.B, vb x7.Same, vs x7.Reason])]⟩) (by kernel_rfl) ?_
  refine DGo.cut [(35, fun b => b), (34, fun b => b)] (b := x7.Same) (by kernel_rfl) (fun hb => ?_) (fun hb => ?_)
  replace h := cond_t hb h
  refine DGo.chunk' tbok 6 (σ' := ⟨60, [(41, vb ((cond (s8.1 == 0) x7.A x7.B) == aAt)), (40, vb ((cond (s8.1 == 0) x7.A x7.B) == aAt)), (39, vb ((cond (s8.1 == 0) x7.A x7.B) == aAt)), (38, vi aAt), (37, vi (cond (s8.1 == 0) x7.A x7.B)), (36, .ref 11 0), (35, vb true), (34, vb true), (33, .ref 9 2), (1, vl (eI .i64) aDistances), (2, vi aAt), (8, vi s3.1), (9, .ref 9 0), (11, .ref 11 0), (12, vl eTie aList), (13, vi (aList.length : Int)), (14, vi s3.1), (29, .agg [vi x7.A, vi x7.B, vi x7.B, vi x7.A]), (30, vi s8.1), (32, .agg [vi (cond (s8.1 == 0) x7.A x7.B), vi (cond (s8.1 == 0) x7.B x7.A)])], [(11, .box [vi (cond (s8.1 == 0) x7.A x7.B), vi (cond (s8.1 == 0) x7.B x7.A)]), (9, .box [vi x7.A, vi x7.B, vb x7.Same, vs x7.Reason])]⟩) (by kernel_rfl) ?_
  refine DGo.cut [(41, fun b => b), (40, fun b => b), (39, fun b => b)] (b := ((cond (s8.1 == 0) x7.A x7.B) == aAt)) (by kernel_rfl) (fun hb => ?_) (fun hb => ?_)
  replace h := cond_t hb h
  refine DGo.chunk' tbok 3 (σ' := ⟨60, [(44, vi (cond (s8.1 == 0) x7.B x7.A)), (43, .ref 11 1), (42, vl (eI .i64) aDistances), (41, vb true), (40, vb true), (39, vb true), (38, vi aAt), (37, vi (cond (s8.1 == 0) x7.A x7.B)), (36, .ref 11 0), (35, vb true), (34, vb true), (33, .ref 9 2), (1, vl (eI .i64) aDistances), (2, vi aAt), (8, vi s3.1), (9, .ref 9 0), (11, .ref 11 0), (12, vl eTie aList), (13, vi (aList.length : Int)), (14, vi s3.1), (29, .agg [vi x7.A, vi x7.B, vi x7.B, vi x7.A]), (30, vi s8.1), (32, .agg [vi (cond (s8.1 == 0) x7.A x7.B), vi (cond (s8.1 == 0) x7.B x7.A)])], [(11, .box [vi (cond (s8.1 == 0) x7.A x7.B), vi (cond (s8.1 == 0) x7.B x7.A)]), (9, .box [vi x7.A, vi x7.B, vb x7.Same, vs x7.Reason])]⟩) (by kernel_rfl) ?_
  obtain ⟨x13, hx13, h⟩ := bind_some h
  refine DGo.step (x_index (L := aDistances) (f := (eI .i64)) (ti := ti50) (tj := ti2) (e := 2) (k := .i64) tbok rfl hx13) ?_
  refine DGo.chunk' tbok 3 (σ' := ⟨60, [(48, vi aAt), (47, vl (eI .i64) aDistances), (46, vi x13), (45, .ptr (((eI .i64) x13).map .tr) 0), (44, vi (cond (s8.1 == 0) x7.B x7.A)), (43, .ref 11 1), (42, vl (eI .i64) aDistances), (41, vb true), (40, vb true), (39, vb true), (38, vi aAt), (37, vi (cond (s8.1 == 0) x7.A x7.B)), (36, .ref 11 0), (35, vb true), (34, vb true), (33, .ref 9 2), (1, vl (eI .i64) aDistances), (2, vi aAt), (8, vi s3.1), (9, .ref 9 0), (11, .ref 11 0), (12, vl eTie aList), (13, vi (aList.length : Int)), (14, vi s3.1), (29, .agg [vi x7.A, vi x7.B, vi x7.B, vi x7.A]), (30, vi s8.1), (32, .agg [vi (cond (s8.1 == 0) x7.A x7.B), vi (cond (s8.1 == 0) x7.B x7.A)])], [(11, .box [vi (cond (s8.1 == 0) x7.A x7.B), vi (cond (s8.1 == 0) x7.B x7.A)]), (9, .box [vi x7.A, vi x7.B, vb x7.Same, vs x7.Reason])]⟩) (by kernel_rfl) ?_
  obtain ⟨x14, hx14, h⟩ := bind_some h
  refine DGo.step (x_index (L := aDistances) (f := (eI .i64)) (ti := ti50) (tj := ti2) (e := 2) (k := .i64) tbok rfl hx14) ?_
  refine DGo.chunk' tbok 4 (σ' := ⟨60, [(53, vb (x13 == (w64 (x14 - 1)))), (52, vb (x13 == (w64 (x14 - 1)))), (51, vi (w64 (x14 - 1))), (50, vi x14), (49, .ptr (((eI .i64) x14).map .tr) 0), (48, vi aAt), (47, vl (eI .i64) aDistances), (46, vi x13), (45, .ptr (((eI .i64) x13).map .tr) 0), (44, vi (cond (s8.1 == 0) x7.B x7.A)), (43, .ref 11 1), (42, vl (eI .i64) aDistances), (41, vb true), (40, vb true), (39, vb true), (38, vi aAt), (37, vi (cond (s8.1 == 0) x7.A x7.B)), (36, .ref 11 0), (35, vb true), (34, vb true), (33, .ref 9 2), (1, vl (eI .i64) aDistances), (2, vi aAt), (8, vi s3.1), (9, .ref 9 0), (11, .ref 11 0), (12, vl eTie aList), (13, vi (aList.length : Int)), (14, vi s3.1), (29, .agg [vi x7.A, vi x7.B, vi x7.B, vi x7.A]), (30, vi s8.1), (32, .agg [vi (cond (s8.1 == 0) x7.A x7.B), vi (cond (s8.1 == 0) x7.B x7.A)])], [(11, .box [vi (cond (s8.1 == 0) x7.A x7.B), vi (cond (s8.1 == 0) x7.B x7.A)]), (9, .box [vi x7.A, vi x7.B, vb x7.Same, vs x7.Reason])]⟩) (by kernel_rfl) ?_
  refine DGo.nil (by kernel_rfl) ?_
  replace h := Option.some.inj h
  subst h
  exact Le.sub0
  replace h := cond_f hb h
  refine DGo.chunk' tbok 12 (σ' := ⟨60, [(53, vb false), (52, .tup []), (51, .tup []), (50, .tup []), (49, .tup []), (48, .tup []), (47, .tup []), (46, .tup []), (45, .tup []), (44, .tup []), (43, .tup []), (42, .tup []), (41, vb false), (40, vb false), (39, vb false), (38, vi aAt), (37, vi (cond (s8.1 == 0) x7.A x7.B)), (36, .ref 11 0), (35, vb true), (34, vb true), (33, .ref 9 2), (1, vl (eI .i64) aDistances), (2, vi aAt), (8, vi s3.1), (9, .ref 9 0), (11, .ref 11 0), (12, vl eTie aList), (13, vi (aList.length : Int)), (14, vi s3.1), (29, .agg [vi x7.A, vi x7.B, vi x7.B, vi x7.A]), (30, vi s8.1), (32, .agg [vi (cond (s8.1 == 0) x7.A x7.B), vi (cond (s8.1 == 0) x7.B x7.A)])], [(11, .box [vi (cond (s8.1 == 0) x7.A x7.B), vi (cond (s8.1 == 0) x7.B x7.A)]), (9, .box [vi x7.A, vi x7.B, vb x7.Same, vs x7.Reason])]⟩) (by kernel_rfl) ?_
  refine DGo.nil (by kernel_rfl) ?_
  replace h := Option.some.inj h
  subst h
  exact Le.sub0
  replace h := cond_f hb h
  refine DGo.chunk' tbok 18 (σ' := ⟨60, [(53, vb false), (52, .tup []), (51, .tup []), (50, .tup []), (49, .tup []), (48, .tup []), (47, .tup []), (46, .tup []), (45, .tup []), (44, .tup []), (43, .tup []), (42, .tup []), (41, vb false), (40, vb false), (39, .tup []), (38, .tup []), (37, .tup []), (36, .tup []), (35, vb false), (34, vb false), (33, .ref 9 2), (1, vl (eI .i64) aDistances), (2, vi aAt), (8, vi s3.1), (9, .ref 9 0), (11, .ref 11 0), (12, vl eTie aList), (13, vi (aList.length : Int)), (14, vi s3.1), (29, .agg [vi x7.A, vi x7.B, vi x7.B, vi x7.A]), (30, vi s8.1), (32, .agg [vi (cond (s8.1 == 0) x7.A x7.B), vi (cond (s8.1 == 0) x7.B x7.A)])], [(11, .box [vi (cond (s8.1 == 0) x7.A x7.B), vi (cond (s8.1 == 0) x7.B x7.A)]), (9, .box [vi x7.A, vi x7.B, vb x7.Same, vs x7.Reason])]⟩) (by kernel_rfl) ?_
  refine DGo.nil (by kernel_rfl) ?_
  replace h := Option.some.inj h
  subst h
  exact Le.sub0
  refine swp_cond (b := j15) (by kernel_rfl) (fun hb => ?_) (fun hb => ?_)
  replace h := cond_t hb h
  refine swp_seq ?_
  refine swp_dr mixed ?_
  refine DGo.chunk' tbok 5 (σ' := ⟨60, [(7, vi (cond (s8.1 == 0) x7.B x7.A)), (6, vi s3.1), (56, vi (cond (s8.1 == 0) x7.B x7.A)), (55, .ref 11 1), (54, vi s3.1), (1, vl (eI .i64) aDistances), (2, vi aAt), (8, vi s3.1), (9, .ref 9 0), (11, .ref 11 0), (12, vl eTie aList), (13, vi (aList.length : Int)), (14, vi s3.1), (29, .agg [vi x7.A, vi x7.B, vi x7.B, vi x7.A]), (30, vi s8.1), (53, vb j15)], [(9, .box [vi x7.A, vi x7.B, vb x7.Same, vs x7.Reason]), (11, .box [vi (cond (s8.1 == 0) x7.A x7.B), vi (cond (s8.1 == 0) x7.B x7.A)])]⟩) (by kernel_rfl) ?_
  refine DGo.nil (by kernel_rfl) ?_
  refine nx_n ?_
  refine swp_ret ?_
  replace h := Option.some.inj h
  subst h
  exact q_br (q_rr (q_rr (q_br (q_br (q_rr (q_rr (q_br (q_rr (q_fr (fin2 (by kernel_rfl) (finV rfl SV.flat_of (holds_t (by kernel_rfl))) (finV rfl SV.flat_of (holds_t (by kernel_rfl)))))))))))))
  replace h := cond_f hb h
  refine swp_skip ?_
  replace h := Option.some.inj h
  subst h
  exact q_bn (q_l (Le.sub0))
  refine swp_reg ?_
  refine SRun.ck tbok 2 ⟨60, [(1, vl (eI .i64) aDistances), (2, vi aAt), (8, vi s3.1), (9, .ref 9 0), (12, vl eTie aList), (13, vi (aList.length : Int)), (14, vi s3.1), (29, .agg [vi x7.A, vi x7.B, vi x7.B, vi x7.A]), (30, vi (w64 (s8.1 + 1)))], [(9, .box [vi x7.A, vi x7.B, vb x7.Same, vs x7.Reason])]⟩ ?_
  refine SRun.nil ?_
  replace h := Option.some.inj h
  subst h
  exact q_l (Le.sub0)
  replace h := cond_f hb h
  refine swp_exit ?_
  replace h := Option.some.inj h
  subst h
  exact nx_e (q_re (q_bh (q_bn (q_l (Le.sub0)))))
  refine swp_reg ?_
  refine SRun.ck tbok 2 ⟨60, [(1, vl (eI .i64) aDistances), (2, vi aAt), (12, vl eTie aList), (13, vi (aList.length : Int)), (14, vi (w64 (s3.1 + 1)))], []⟩ ?_
  refine SRun.nil ?_
  replace h := Option.some.inj h
  subst h
  exact q_l (Le.sub0)
  replace h := cond_f hb h
  refine swp_exit ?_
  replace h := Option.some.inj h
  subst h
  exact nx_e (q_re (q_bh (q_l (Le.sub0))))
  refine swp_seq ?_
  refine swp_reg ?_
  refine SRun.ck tbok 3 ⟨60, [(6, vi 0), (7, vi aAt)], []⟩ ?_
  refine SRun.nil ?_
  refine nx_n ?_
  refine swp_ret ?_
  replace h := Option.some.inj h
  subst h
  exact q_fr (fin2 (by kernel_rfl) (finV rfl SV.flat_of (holds_t (by kernel_rfl))) (finV rfl SV.flat_of (holds_t (by kernel_rfl))))
theorem ents91 : Ents Tryd.prog 91 := ents_of Tryd.func91 (by kernel_rfl) rfl
noncomputable def impl_proofOf (aN : Int) (aList : (List Tie)) (aA : Int) (aB : Int) : Option ((List Int)) :=
  ((impl_far aN aList aB).bind fun x1 => (((loop (fun (s4 : Int × (List Int)) => (bif (s4.1 != aB) then ((impl_step aList x1 s4.1).bind fun x6 => ((app' s4.2 ([x6.1] : List Int)).bind fun x7 => some (.inl (x6.2, x7)))) else some (.inr s4.2))) (aA, ([] : List Int)))).bind fun (j2 : (List Int)) => some j2))
set_option maxRecDepth 100000 in
set_option maxHeartbeats 4000000 in
theorem impl_proofOf_run (aN : Int) (aList : (List Tie)) (aA : Int) (aB : Int) (r : (List Int)) (h : impl_proofOf aN aList aA aB = some r) : SCall Tryd.prog 73 [.v (vi aN), .v (vl eTie aList), .v (vi aA), .v (vi aB)] ⟨[.own 2 1 r.length (r.map (eI .i64))], [], false⟩ := by
  refine scall_in Tryd.func73 rfl [(.tmp 8)] rfl (fun r => ⟨[.own 2 1 r.length (r.map (eI .i64))], [], false⟩) (r := r) ?_
  unfold impl_proofOf at h
  refine swp_seq ?_
  refine swp_reg ?_
  refine SRun.ck tbok 1 ⟨33, [(0, vi aN), (1, vl eTie aList), (2, vi aA), (3, vi aB)], []⟩ ?_
  refine SRun.nil ?_
  refine nx_n ?_
  refine swp_seq ?_
  refine swp_reg ?_
  refine SRun.ck tbok 3 ⟨33, [(1, vl eTie aList), (2, vi aA), (3, vi aB), (13, vi aN), (14, vl eTie aList), (15, vi aB)], []⟩ ?_
  obtain ⟨x1, hx1, h⟩ := bind_some h
  refine SRun.ls (x_lstep_call (f := 76) (caps := []) (xs := [vi aN, vl eTie aList, vi aB]) (ys := [vi aN, vl eTie aList, vi aB]) (res := ⟨[.own 2 1 x1.length (x1.map (eI .i64))], [], false⟩) (x := .own 16) (y := some (.arr 2 1 x1.length (x1.map (eI .i64)))) rfl ents76 (impl_far_run aN aList aB _ hx1) rfl (by intro hc; cases hc)) ?_
  refine SRun.ck tbok 1 ⟨33, [(1, vl eTie aList), (2, vi aA), (3, vi aB), (9, .own 16)], [(16, .arr 2 1 x1.length (x1.map (eI .i64)))]⟩ ?_
  refine SRun.nil ?_
  refine nx_n ?_
  refine swp_seq ?_
  refine swp_reg ?_
  refine SRun.ck tbok 1 ⟨33, [(1, vl eTie aList), (2, vi aA), (3, vi aB), (9, .own 16), (10, .own 10)], [(10, .arr 2 1 ([] : List Int).length (([] : List Int).map (eI .i64))), (16, .arr 2 1 x1.length (x1.map (eI .i64)))]⟩ ?_
  refine SRun.nil ?_
  refine nx_n ?_
  refine swp_seq ?_
  refine swp_seqJ h (fun j2 => ⟨33, [(10, .own 10)], [(10, .arr 2 1 j2.length (j2.map (eI .i64)))]⟩) (fun v3 h => ?_) (fun j2 h => ?_)
  refine swp_blk (a := v3) ?_
  refine swp_lpL (r := v3) (s := (aA, ([] : List Int))) _ (fun s4 => ⟨33, [(1, vl eTie aList), (2, vi s4.1), (3, vi aB), (9, .own 9), (10, .own 10)], [(10, .arr 2 1 s4.2.length (s4.2.map (eI .i64))), (9, .arr 2 1 x1.length (x1.map (eI .i64)))]⟩) _ ((Le.sub' ([(1, vl eTie aList), (2, vi aA), (3, vi aB), (9, .own 16), (10, .own 10)] : List (Nat × SV)) ([(10, .arr 2 1 ([] : List Int).length (([] : List Int).map (eI .i64))), (16, .arr 2 1 x1.length (x1.map (eI .i64)))] : List (Nat × SO)) (by kernel_rfl) (by kernel_rfl)).trans ((Le.ren' (d := 16) (e := 9) (by kernel_rfl) (by kernel_rfl) (by kernel_rfl)).trans (Le.sub0))) h (fun s4 v5 h => ?_)
  refine swp_seq ?_
  refine swp_seq ?_
  refine swp_reg ?_
  refine SRun.ck tbok 3 ⟨33, [(1, vl eTie aList), (2, vi s4.1), (3, vi aB), (9, .own 9), (10, .own 10), (19, vb (s4.1 != aB))], [(9, .arr 2 1 x1.length (x1.map (eI .i64))), (10, .arr 2 1 s4.2.length (s4.2.map (eI .i64)))]⟩ ?_
  refine SRun.nil ?_
  refine nx_n ?_
  refine swp_cond (b := (s4.1 != aB)) (by kernel_rfl) (fun hb => ?_) (fun hb => ?_)
  replace h := cond_t hb h
  refine swp_skip ?_
  refine nx_n ?_
  refine swp_blk (a := v5) ?_
  refine swp_seq ?_
  refine swp_reg ?_
  refine SRun.ck tbok 3 ⟨33, [(1, vl eTie aList), (3, vi aB), (9, .own 9), (10, .own 10), (21, vl eTie aList), (22, .own 9), (23, vi s4.1)], [(9, .arr 2 1 x1.length (x1.map (eI .i64))), (10, .arr 2 1 s4.2.length (s4.2.map (eI .i64)))]⟩ ?_
  obtain ⟨x6, hx6, h⟩ := bind_some h
  refine SRun.ls (x_lstep_call (f := 91) (caps := []) (xs := [vl eTie aList, .own 9, vi s4.1]) (ys := [vl eTie aList, vl (eI .i64) x1, vi s4.1]) (res := ⟨[.v (vi x6.1), .v (vi x6.2)], [], false⟩) (x := .tup [vi x6.1, vi x6.2]) (y := none) rfl ents91 (impl_step_run aList x1 s4.1 _ hx6) rfl (by intro hc; cases hc)) ?_
  refine SRun.ck tbok 5 ⟨33, [(1, vl eTie aList), (3, vi aB), (9, .own 9), (10, .own 10), (11, vi x6.1), (12, vi x6.2)], [(9, .arr 2 1 x1.length (x1.map (eI .i64))), (10, .arr 2 1 s4.2.length (s4.2.map (eI .i64)))]⟩ ?_
  refine SRun.nil ?_
  refine nx_n ?_
  refine swp_seq ?_
  refine swp_reg ?_
  refine SRun.ck tbok 3 ⟨33, [(1, vl eTie aList), (3, vi aB), (9, .own 9), (12, vi x6.2), (27, .own 10), (29, .own 29)], [(9, .arr 2 1 x1.length (x1.map (eI .i64))), (10, .arr 2 1 s4.2.length (s4.2.map (eI .i64))), (29, .arr 2 1 ([x6.1] : List Int).length (([x6.1] : List Int).map (eI .i64)))]⟩ ?_
  obtain ⟨x7, hx7, h⟩ := bind_some h
  refine SRun.estep (x_append (f := (eI .i64)) (t := 50) (ti := ti50) (tj := ti2) (zs := [.int .i64 0]) (e := 2) (m := 1) (d := 10) (xv := .own 29) hx7 tbok rfl rfl rfl rfl (x_src_o (e := 2))) ?_
  refine SRun.ck tbok 1 ⟨33, [(1, vl eTie aList), (3, vi aB), (9, .own 9), (10, .own 30), (12, vi x6.2)], [(9, .arr 2 1 x1.length (x1.map (eI .i64))), (30, .arr 2 1 x7.length (x7.map (eI .i64)))]⟩ ?_
  refine SRun.nil ?_
  refine nx_n ?_
  refine swp_reg ?_
  refine SRun.ck tbok 2 ⟨33, [(1, vl eTie aList), (2, vi x6.2), (3, vi aB), (9, .own 9), (10, .own 30)], [(9, .arr 2 1 x1.length (x1.map (eI .i64))), (30, .arr 2 1 x7.length (x7.map (eI .i64)))]⟩ ?_
  refine SRun.nil ?_
  replace h := Option.some.inj h
  subst h
  exact q_bn (q_l ((Le.sub' ([(1, vl eTie aList), (2, vi x6.2), (3, vi aB), (9, .own 9), (10, .own 30)] : List (Nat × SV)) ([(9, .arr 2 1 x1.length (x1.map (eI .i64))), (30, .arr 2 1 x7.length (x7.map (eI .i64)))] : List (Nat × SO)) (by kernel_rfl) (by kernel_rfl)).trans ((Le.ren' (d := 30) (e := 10) (by kernel_rfl) (by kernel_rfl) (by kernel_rfl)).trans (Le.sub0))))
  replace h := cond_f hb h
  refine swp_exit ?_
  replace h := Option.some.inj h
  subst h
  exact nx_e (q_re (q_bh (q_j (Le.sub0))))
  refine swp_seq ?_
  refine swp_reg ?_
  refine SRun.ck tbok 2 ⟨33, [(8, .own 10)], [(10, .arr 2 1 j2.length (j2.map (eI .i64)))]⟩ ?_
  refine SRun.nil ?_
  refine nx_n ?_
  refine swp_ret ?_
  replace h := Option.some.inj h
  subst h
  exact q_fr (fin1 (by kernel_rfl) (finO (d := 10) (holds_t (by kernel_rfl)) (by kernel_rfl) (flat_map (eI_flat .i64) _) (by kernel_rfl)))
theorem ents73 : Ents Tryd.prog 73 := ents_of Tryd.func73 (by kernel_rfl) rfl
noncomputable def impl_ProofOf (aN : Int) (aList : (List Tie)) (aA : Int) (aB : Int) : Option ((List Int) × Int) :=
  ((impl_recordCode aN aList ([aA, aB] : List Int)).bind fun x1 => (((bif (x1 != 0) then some (.inr (([] : List Int), x1)) else ((impl_far aN aList aB).bind fun x4 => ((at' x4 aA).bind fun x5 => (bif (decide (x5 < 0)) then some (.inr (([] : List Int), 4)) else some (.inl ())))))).bind (Sum.elim (fun (_ : Unit) => ((impl_proofOf aN aList aA aB).bind fun x6 => some (x6, 0))) some)))
set_option maxRecDepth 100000 in
set_option maxHeartbeats 4000000 in
theorem impl_ProofOf_run (aN : Int) (aList : (List Tie)) (aA : Int) (aB : Int) (r : (List Int) × Int) (h : impl_ProofOf aN aList aA aB = some r) : SCall Tryd.prog 44 [.v (vi aN), .v (vl eTie aList), .v (vi aA), .v (vi aB)] ⟨[.own 2 1 r.1.length (r.1.map (eI .i64)), .v (vi r.2)], [], false⟩ := by
  refine scall_in Tryd.func44 rfl [(.tmp 8), (.tmp 9)] rfl (fun r => ⟨[.own 2 1 r.1.length (r.1.map (eI .i64)), .v (vi r.2)], [], false⟩) (r := r) ?_
  unfold impl_ProofOf at h
  refine swp_seq ?_
  refine swp_reg ?_
  refine SRun.ck tbok 2 ⟨35, [(0, vi aN), (1, vl eTie aList), (2, vi aA), (3, vi aB)], []⟩ ?_
  refine SRun.nil ?_
  refine nx_n ?_
  refine swp_seq ?_
  refine swp_reg ?_
  refine SRun.ck tbok 5 ⟨35, [(0, vi aN), (1, vl eTie aList), (2, vi aA), (3, vi aB), (11, vi aN), (12, vl eTie aList), (15, .own 15)], [(15, .arr 2 1 ([aA, aB] : List Int).length (([aA, aB] : List Int).map (eI .i64)))]⟩ ?_
  obtain ⟨x1, hx1, h⟩ := bind_some h
  refine SRun.ls (x_lstep_call (f := 68) (caps := []) (xs := [vi aN, vl eTie aList, .own 15]) (ys := [vi aN, vl eTie aList, vl (eI .i64) ([aA, aB] : List Int)]) (res := ⟨[.v (vi x1)], [], false⟩) (x := vi x1) (y := none) rfl ents68 (impl_recordCode_run aN aList ([aA, aB] : List Int) _ hx1) rfl (by intro hc; cases hc)) ?_
  refine SRun.ck tbok 1 ⟨35, [(0, vi aN), (1, vl eTie aList), (2, vi aA), (3, vi aB), (10, vi x1)], []⟩ ?_
  refine SRun.nil ?_
  refine nx_n ?_
  refine swp_seq ?_
  refine swp_seqE (r := r) h (fun j2 => ⟨35, [(0, vi aN), (1, vl eTie aList), (2, vi aA), (3, vi aB)], []⟩) (fun v3 h => ?_) (fun j2 h => ?_)
  refine swp_blk (a := v3) ?_
  refine swp_seq ?_
  refine swp_reg ?_
  refine SRun.ck tbok 3 ⟨35, [(0, vi aN), (1, vl eTie aList), (2, vi aA), (3, vi aB), (10, vi x1), (17, vb (x1 != 0))], []⟩ ?_
  refine SRun.nil ?_
  refine nx_n ?_
  refine swp_cond (b := (x1 != 0)) (by kernel_rfl) (fun hb => ?_) (fun hb => ?_)
  replace h := cond_t hb h
  refine swp_seq ?_
  refine swp_reg ?_
  refine SRun.ck tbok 3 ⟨35, [(8, .own 8), (9, vi x1)], [(8, .arr 2 1 ([] : List Int).length (([] : List Int).map (eI .i64)))]⟩ ?_
  refine SRun.nil ?_
  refine nx_n ?_
  refine swp_ret ?_
  replace h := Option.some.inj h
  subst h
  exact q_br (q_rr (q_fr (fin2 (by kernel_rfl) (finO (d := 8) (holds_t (by kernel_rfl)) (by kernel_rfl) (flat_map (eI_flat .i64) _) (by kernel_rfl)) (finV rfl SV.flat_of (holds_t (by kernel_rfl))))))
  replace h := cond_f hb h
  refine swp_seq ?_
  refine swp_reg ?_
  refine SRun.ck tbok 3 ⟨35, [(0, vi aN), (1, vl eTie aList), (2, vi aA), (3, vi aB), (22, vi aN), (23, vl eTie aList), (24, vi aB)], []⟩ ?_
  obtain ⟨x4, hx4, h⟩ := bind_some h
  refine SRun.ls (x_lstep_call (f := 76) (caps := []) (xs := [vi aN, vl eTie aList, vi aB]) (ys := [vi aN, vl eTie aList, vi aB]) (res := ⟨[.own 2 1 x4.length (x4.map (eI .i64))], [], false⟩) (x := .own 25) (y := some (.arr 2 1 x4.length (x4.map (eI .i64)))) rfl ents76 (impl_far_run aN aList aB _ hx4) rfl (by intro hc; cases hc)) ?_
  refine SRun.ck tbok 1 ⟨35, [(0, vi aN), (1, vl eTie aList), (2, vi aA), (3, vi aB), (25, .own 25), (26, vi aA)], [(25, .arr 2 1 x4.length (x4.map (eI .i64)))]⟩ ?_
  obtain ⟨x5, hx5, h⟩ := bind_some h
  refine SRun.ls (x_index_own (d := 25) (L := x4) (f := (eI .i64)) (ti := ti50) (tj := ti2) (e := 2) (e' := 2) (m := 1) (k := .i64) tbok rfl hx5) ?_
  refine SRun.ls (x_load_own (d := 25) (m := 1) (j := 0) (L := x4) (f := (eI .i64)) (ti := ti2) (e := 2) (v := vi x5) tbok rfl hx5) ?_
  refine SRun.ck tbok 2 ⟨35, [(0, vi aN), (1, vl eTie aList), (2, vi aA), (3, vi aB), (21, vb (decide (x5 < 0)))], []⟩ ?_
  refine SRun.nil ?_
  refine nx_n ?_
  refine swp_cond (b := (decide (x5 < 0))) (by kernel_rfl) (fun hb => ?_) (fun hb => ?_)
  replace h := cond_t hb h
  refine swp_seq ?_
  refine swp_reg ?_
  refine SRun.ck tbok 2 ⟨35, [(8, .own 8), (9, vi 4)], [(8, .arr 2 1 ([] : List Int).length (([] : List Int).map (eI .i64)))]⟩ ?_
  refine SRun.nil ?_
  refine nx_n ?_
  refine swp_ret ?_
  replace h := Option.some.inj h
  subst h
  exact q_br (q_rr (q_fr (fin2 (by kernel_rfl) (finO (d := 8) (holds_t (by kernel_rfl)) (by kernel_rfl) (flat_map (eI_flat .i64) _) (by kernel_rfl)) (finV rfl SV.flat_of (holds_t (by kernel_rfl))))))
  replace h := cond_f hb h
  refine swp_skip ?_
  replace h := Option.some.inj h
  subst h
  exact q_bn (q_l (Le.sub0))
  refine swp_seq ?_
  refine swp_reg ?_
  refine SRun.ck tbok 4 ⟨35, [(30, vi aN), (31, vl eTie aList), (32, vi aA), (33, vi aB)], []⟩ ?_
  obtain ⟨x6, hx6, h⟩ := bind_some h
  refine SRun.ls (x_lstep_call (f := 73) (caps := []) (xs := [vi aN, vl eTie aList, vi aA, vi aB]) (ys := [vi aN, vl eTie aList, vi aA, vi aB]) (res := ⟨[.own 2 1 x6.length (x6.map (eI .i64))], [], false⟩) (x := .own 34) (y := some (.arr 2 1 x6.length (x6.map (eI .i64)))) rfl ents73 (impl_proofOf_run aN aList aA aB _ hx6) rfl (by intro hc; cases hc)) ?_
  refine SRun.ck tbok 2 ⟨35, [(8, .own 34), (9, vi 0)], [(34, .arr 2 1 x6.length (x6.map (eI .i64)))]⟩ ?_
  refine SRun.nil ?_
  refine nx_n ?_
  refine swp_ret ?_
  replace h := Option.some.inj h
  subst h
  exact q_fr (fin2 (by kernel_rfl) (finO (d := 34) (holds_t (by kernel_rfl)) (by kernel_rfl) (flat_map (eI_flat .i64) _) (by kernel_rfl)) (finV rfl SV.flat_of (holds_t (by kernel_rfl))))
theorem ents44 : Ents Tryd.prog 44 := ents_of Tryd.func44 (by kernel_rfl) rfl
noncomputable def spec_l01In (aN : Int) (aLow : Int) (aHigh : Int) : Option (Bool) :=
  some ((decide (aN ≥ aLow)) && (decide (aN ≤ aHigh)))
set_option maxRecDepth 100000 in
set_option maxHeartbeats 4000000 in
theorem spec_l01In_run (aN : Int) (aLow : Int) (aHigh : Int) (r : Bool) (h : spec_l01In aN aLow aHigh = some r) : SCall Tryd.prog 55 [.v (vi aN), .v (vi aLow), .v (vi aHigh)] ⟨[.v (vb r)], [], false⟩ := by
  refine scall_in Tryd.func55 rfl [(.tmp 6)] rfl (fun r => ⟨[.v (vb r)], [], false⟩) (r := r) ?_
  unfold spec_l01In at h
  refine swp_seq ?_
  refine swp_reg ?_
  refine SRun.ck tbok 1 ⟨15, [(0, vi aN), (1, vi aLow), (2, vi aHigh)], []⟩ ?_
  refine SRun.nil ?_
  refine nx_n ?_
  refine swp_seq ?_
  refine swp_regP ⟨15, [(6, vb ((decide (aN ≥ aLow)) && (decide (aN ≤ aHigh))))], []⟩ ?_ ?_
  refine SRun.ck tbok 4 ⟨15, [(0, vi aN), (2, vi aHigh), (10, vb (decide (aN ≥ aLow)))], []⟩ ?_
  generalize (decide (aN ≥ aLow)) = bb
  cases bb
  refine SRun.ck tbok 5 ⟨15, [(6, vb false)], []⟩ ?_
  exact SRun.nil (Le.sub0)
  refine SRun.ck tbok 5 ⟨15, [(6, vb (decide (aN ≤ aHigh)))], []⟩ ?_
  exact SRun.nil (Le.sub0)
  refine swp_ret ?_
  replace h := Option.some.inj h
  subst h
  exact q_fr (fin1 (by kernel_rfl) (finV rfl SV.flat_of (holds_t (by kernel_rfl))))
theorem ents55 : Ents Tryd.prog 55 := ents_of Tryd.func55 (by kernel_rfl) rfl
noncomputable def spec_IsWord (aS : ByteArray) : Option (Bool) :=
  (((forN (aS.size : Int) (fun (i3 : Int) (_ : Unit) => ((((byte' aS i3).bind fun x7 => (bif (decide (x7 < 97)) then some true else ((byte' aS i3).bind fun x8 => some (decide (x8 > 122)))))).bind fun (j9 : Bool) => (bif j9 then some (.inr (.inr false)) else some (.inl ())))) (fun (_ : Unit) => .inl ()) 0 ())).bind (Sum.elim (fun (_ : Unit) => ((spec_l01In (aS.size : Int) 1 16).bind fun x11 => some x11)) some))
set_option maxRecDepth 100000 in
set_option maxHeartbeats 4000000 in
theorem spec_IsWord_run (aS : ByteArray) (r : Bool) (h : spec_IsWord aS = some r) : SCall Tryd.prog 54 [.v (vs aS)] ⟨[.v (vb r)], [], false⟩ := by
  refine scall_in Tryd.func54 rfl [(.tmp 2)] rfl (fun r => ⟨[.v (vb r)], [], false⟩) (r := r) ?_
  unfold spec_IsWord at h
  refine swp_seq ?_
  refine swp_reg ?_
  refine SRun.ck tbok 1 ⟨23, [(0, vs aS)], []⟩ ?_
  refine SRun.nil ?_
  refine nx_n ?_
  refine swp_seq ?_
  refine swp_seq ?_
  refine swp_reg ?_
  refine SRun.ck tbok 1 ⟨23, [(0, vs aS), (3, vi 0)], []⟩ ?_
  refine SRun.nil ?_
  refine nx_n ?_
  refine swp_seqE (r := r) h (fun j1 => ⟨23, [(0, vs aS)], []⟩) (fun v2 h => ?_) (fun j1 h => ?_)
  refine swp_blk (a := v2) ?_
  refine swp_lpL (r := v2) (s := (0, ())) _ (fun s3 => ⟨23, [(0, vs aS), (3, vi s3.1)], []⟩) _ (Le.sub0) h (fun s3 v4 h => ?_)
  refine swp_seq ?_
  refine swp_seq ?_
  refine swp_reg ?_
  refine SRun.ck tbok 4 ⟨23, [(0, vs aS), (3, vi s3.1), (7, vb (decide (s3.1 < (aS.size : Int))))], []⟩ ?_
  refine SRun.nil ?_
  refine nx_n ?_
  refine swp_cond (b := (decide (s3.1 < (aS.size : Int)))) (by kernel_rfl) (fun hb => ?_) (fun hb => ?_)
  replace h := cond_t hb h
  refine swp_skip ?_
  refine nx_n ?_
  refine swp_seq ?_
  refine swp_seqL (r := v4) h (fun j5 => ⟨23, [(0, vs aS), (3, vi s3.1)], []⟩) (fun v6 h => ?_) (fun j5 h => ?_)
  refine swp_blk (a := v6) ?_
  refine swp_seq ?_
  refine swp_regJ h (fun j9 => ⟨23, [(0, vs aS), (3, vi s3.1), (19, vb j9)], []⟩) (fun v10 h => ?_) (fun j9 h => ?_)
  refine SRun.ck tbok 2 ⟨23, [(0, vs aS), (3, vi s3.1), (10, vs aS), (11, vi s3.1)], []⟩ ?_
  obtain ⟨x7, hx7, h⟩ := bind_some h
  refine SRun.ls (x_byte (ti := ti9) (k := .i64) hx7 tbok rfl) ?_
  refine SRun.ck tbok 2 ⟨23, [(0, vs aS), (3, vi s3.1), (14, vb (decide (x7 < 97)))], []⟩ ?_
  refine SRun.cut [(14, fun b => b)] (b := (decide (x7 < 97))) (by kernel_rfl) (fun hb => ?_) (fun hb => ?_)
  replace h := cond_t hb h
  refine SRun.ck tbok 5 ⟨23, [(0, vs aS), (3, vi s3.1), (19, vb true)], []⟩ ?_
  refine SRun.nil ?_
  replace h := Option.some.inj h
  subst h
  exact Le.sub0
  replace h := cond_f hb h
  refine SRun.ck tbok 2 ⟨23, [(0, vs aS), (3, vi s3.1), (14, vb false), (15, vs aS), (16, vi s3.1)], []⟩ ?_
  obtain ⟨x8, hx8, h⟩ := bind_some h
  refine SRun.ls (x_byte (ti := ti9) (k := .i64) hx8 tbok rfl) ?_
  refine SRun.ck tbok 2 ⟨23, [(0, vs aS), (3, vi s3.1), (19, vb (decide (x8 > 122)))], []⟩ ?_
  refine SRun.nil ?_
  replace h := Option.some.inj h
  subst h
  exact Le.sub0
  refine swp_cond (b := j9) (by kernel_rfl) (fun hb => ?_) (fun hb => ?_)
  replace h := cond_t hb h
  refine swp_seq ?_
  refine swp_reg ?_
  refine SRun.ck tbok 1 ⟨23, [(2, vb false)], []⟩ ?_
  refine SRun.nil ?_
  refine nx_n ?_
  refine swp_ret ?_
  replace h := Option.some.inj h
  subst h
  exact q_br (q_rr (q_rr (q_br (q_rr (q_fr (fin1 (by kernel_rfl) (finV rfl SV.flat_of (holds_t (by kernel_rfl)))))))))
  replace h := cond_f hb h
  refine swp_skip ?_
  replace h := Option.some.inj h
  subst h
  exact q_bn (q_l (Le.sub0))
  refine swp_reg ?_
  refine SRun.ck tbok 3 ⟨23, [(0, vs aS), (3, vi (w64 (s3.1 + 1)))], []⟩ ?_
  refine SRun.nil ?_
  replace h := Option.some.inj h
  subst h
  exact q_l (Le.sub0)
  replace h := cond_f hb h
  refine swp_exit ?_
  replace h := Option.some.inj h
  subst h
  exact nx_e (q_re (q_bh (q_l (Le.sub0))))
  refine swp_seq ?_
  refine swp_reg ?_
  refine SRun.ck tbok 2 ⟨23, [(21, vi (aS.size : Int))], []⟩ ?_
  obtain ⟨x11, hx11, h⟩ := bind_some h
  refine SRun.ls (x_lstep_call (f := 55) (caps := []) (xs := [vi (aS.size : Int), vi 1, vi 16]) (ys := [vi (aS.size : Int), vi 1, vi 16]) (res := ⟨[.v (vb x11)], [], false⟩) (x := vb x11) (y := none) rfl ents55 (spec_l01In_run (aS.size : Int) 1 16 _ hx11) rfl (by intro hc; cases hc)) ?_
  refine SRun.ck tbok 1 ⟨23, [(2, vb x11)], []⟩ ?_
  refine SRun.nil ?_
  refine nx_n ?_
  refine swp_ret ?_
  replace h := Option.some.inj h
  subst h
  exact q_fr (fin1 (by kernel_rfl) (finV rfl SV.flat_of (holds_t (by kernel_rfl))))
theorem ents54 : Ents Tryd.prog 54 := ents_of Tryd.func54 (by kernel_rfl) rfl
noncomputable def spec_AreTies (aN : Int) (aList : (List Tie)) : Option (Bool) :=
  (((forN (aList.length : Int) (fun (i3 : Int) (_ : Unit) => ((at' aList i3).bind fun x7 => (((bif (decide (x7.A < 0)) then some true else (bif (decide (x7.B ≤ x7.A)) then some true else (bif (decide (x7.B ≥ aN)) then some true else ((spec_IsWord x7.Reason).bind fun x8 => some (!x8)))))).bind fun (j9 : Bool) => (bif j9 then some (.inr (.inr false)) else some (.inl ()))))) (fun (_ : Unit) => .inl ()) 0 ())).bind (Sum.elim (fun (_ : Unit) => ((((spec_l01In aN 1 12).bind fun x11 => (bif x11 then some (decide ((aList.length : Int) ≤ 20)) else some false))).bind fun (j12 : Bool) => some j12)) some))
set_option maxRecDepth 100000 in
set_option maxHeartbeats 4000000 in
theorem spec_AreTies_run (aN : Int) (aList : (List Tie)) (r : Bool) (h : spec_AreTies aN aList = some r) : SCall Tryd.prog 15 [.v (vi aN), .v (vl eTie aList)] ⟨[.v (vb r)], [], false⟩ := by
  refine scall_in Tryd.func15 rfl [(.tmp 4)] rfl (fun r => ⟨[.v (vb r)], [], false⟩) (r := r) ?_
  unfold spec_AreTies at h
  refine swp_seq ?_
  refine swp_reg ?_
  refine SRun.ck tbok 1 ⟨46, [(0, vi aN), (1, vl eTie aList)], []⟩ ?_
  refine SRun.nil ?_
  refine nx_n ?_
  refine swp_seq ?_
  refine swp_seq ?_
  refine swp_reg ?_
  refine SRun.ck tbok 1 ⟨46, [(0, vi aN), (1, vl eTie aList), (5, vi 0)], []⟩ ?_
  refine SRun.nil ?_
  refine nx_n ?_
  refine swp_seqE (r := r) h (fun j1 => ⟨46, [(0, vi aN), (1, vl eTie aList)], []⟩) (fun v2 h => ?_) (fun j1 h => ?_)
  refine swp_blk (a := v2) ?_
  refine swp_lpL (r := v2) (s := (0, ())) _ (fun s3 => ⟨46, [(0, vi aN), (1, vl eTie aList), (5, vi s3.1)], []⟩) _ (Le.sub0) h (fun s3 v4 h => ?_)
  refine swp_seq ?_
  refine swp_seq ?_
  refine swp_reg ?_
  refine SRun.ck tbok 4 ⟨46, [(0, vi aN), (1, vl eTie aList), (5, vi s3.1), (10, vb (decide (s3.1 < (aList.length : Int))))], []⟩ ?_
  refine SRun.nil ?_
  refine nx_n ?_
  refine swp_cond (b := (decide (s3.1 < (aList.length : Int)))) (by kernel_rfl) (fun hb => ?_) (fun hb => ?_)
  replace h := cond_t hb h
  refine swp_skip ?_
  refine nx_n ?_
  refine swp_seq ?_
  refine swp_seqL (r := v4) h (fun j5 => ⟨46, [(0, vi aN), (1, vl eTie aList), (5, vi s3.1)], []⟩) (fun v6 h => ?_) (fun j5 h => ?_)
  refine swp_blk (a := v6) ?_
  refine swp_seq ?_
  refine swp_reg ?_
  refine SRun.ck tbok 2 ⟨46, [(0, vi aN), (1, vl eTie aList), (5, vi s3.1), (13, vl eTie aList), (14, vi s3.1)], []⟩ ?_
  obtain ⟨x7, hx7, h⟩ := bind_some h
  refine SRun.ls (x_index (L := aList) (f := eTie) (ti := ti25) (tj := ti42) (e := 42) (k := .i64) tbok rfl hx7) ?_
  refine SRun.ck tbok 2 ⟨46, [(0, vi aN), (1, vl eTie aList), (5, vi s3.1), (6, .ref 6 0), (16, .agg [vi x7.A, vi x7.B, vb x7.Same, vs x7.Reason])], [(6, .box [vi 0, vi 0, vb false, vs (ByteArray.mk #[])])]⟩ ?_
  refine SRun.estep (x_estep_store (d := 6) (k := 0) (ti := ti42) (cs := [vi 0, vi 0, vb false, vs (ByteArray.mk #[])]) (vs := [vi x7.A, vi x7.B, vb x7.Same, vs x7.Reason]) (v := .agg [vi x7.A, vi x7.B, vb x7.Same, vs x7.Reason]) tbok rfl rfl) ?_
  refine SRun.nil ?_
  refine nx_n ?_
  refine swp_seq ?_
  refine swp_regJ h (fun j9 => ⟨46, [(0, vi aN), (1, vl eTie aList), (5, vi s3.1), (38, vb j9)], []⟩) (fun v10 h => ?_) (fun j9 h => ?_)
  refine SRun.ck tbok 4 ⟨46, [(0, vi aN), (1, vl eTie aList), (5, vi s3.1), (6, .ref 6 0), (20, vb (decide (x7.A < 0)))], [(6, .box [vi x7.A, vi x7.B, vb x7.Same, vs x7.Reason])]⟩ ?_
  refine SRun.cut [(20, fun b => b)] (b := (decide (x7.A < 0))) (by kernel_rfl) (fun hb => ?_) (fun hb => ?_)
  replace h := cond_t hb h
  refine SRun.ck tbok 18 ⟨46, [(0, vi aN), (1, vl eTie aList), (5, vi s3.1), (38, vb true)], []⟩ ?_
  refine SRun.nil ?_
  replace h := Option.some.inj h
  subst h
  exact Le.sub0
  replace h := cond_f hb h
  refine SRun.ck tbok 7 ⟨46, [(0, vi aN), (1, vl eTie aList), (5, vi s3.1), (6, .ref 6 0), (27, vb (decide (x7.B ≤ x7.A)))], [(6, .box [vi x7.A, vi x7.B, vb x7.Same, vs x7.Reason])]⟩ ?_
  refine SRun.cut [(27, fun b => b)] (b := (decide (x7.B ≤ x7.A))) (by kernel_rfl) (fun hb => ?_) (fun hb => ?_)
  replace h := cond_t hb h
  refine SRun.ck tbok 11 ⟨46, [(0, vi aN), (1, vl eTie aList), (5, vi s3.1), (38, vb true)], []⟩ ?_
  refine SRun.nil ?_
  replace h := Option.some.inj h
  subst h
  exact Le.sub0
  replace h := cond_f hb h
  refine SRun.ck tbok 6 ⟨46, [(0, vi aN), (1, vl eTie aList), (5, vi s3.1), (6, .ref 6 0), (33, vb (decide (x7.B ≥ aN)))], [(6, .box [vi x7.A, vi x7.B, vb x7.Same, vs x7.Reason])]⟩ ?_
  refine SRun.cut [(33, fun b => b)] (b := (decide (x7.B ≥ aN))) (by kernel_rfl) (fun hb => ?_) (fun hb => ?_)
  replace h := cond_t hb h
  refine SRun.ck tbok 5 ⟨46, [(0, vi aN), (1, vl eTie aList), (5, vi s3.1), (38, vb true)], []⟩ ?_
  refine SRun.nil ?_
  replace h := Option.some.inj h
  subst h
  exact Le.sub0
  replace h := cond_f hb h
  refine SRun.ck tbok 2 ⟨46, [(0, vi aN), (1, vl eTie aList), (5, vi s3.1), (33, vb false), (35, vs x7.Reason)], []⟩ ?_
  obtain ⟨x8, hx8, h⟩ := bind_some h
  refine SRun.ls (x_lstep_call (f := 54) (caps := []) (xs := [vs x7.Reason]) (ys := [vs x7.Reason]) (res := ⟨[.v (vb x8)], [], false⟩) (x := vb x8) (y := none) rfl ents54 (spec_IsWord_run x7.Reason _ hx8) rfl (by intro hc; cases hc)) ?_
  refine SRun.ck tbok 2 ⟨46, [(0, vi aN), (1, vl eTie aList), (5, vi s3.1), (38, vb (!x8))], []⟩ ?_
  refine SRun.nil ?_
  replace h := Option.some.inj h
  subst h
  exact Le.sub0
  refine swp_cond (b := j9) (by kernel_rfl) (fun hb => ?_) (fun hb => ?_)
  replace h := cond_t hb h
  refine swp_seq ?_
  refine swp_reg ?_
  refine SRun.ck tbok 1 ⟨46, [(4, vb false)], []⟩ ?_
  refine SRun.nil ?_
  refine nx_n ?_
  refine swp_ret ?_
  replace h := Option.some.inj h
  subst h
  exact q_br (q_rr (q_rr (q_br (q_rr (q_fr (fin1 (by kernel_rfl) (finV rfl SV.flat_of (holds_t (by kernel_rfl)))))))))
  replace h := cond_f hb h
  refine swp_skip ?_
  replace h := Option.some.inj h
  subst h
  exact q_bn (q_l (Le.sub0))
  refine swp_reg ?_
  refine SRun.ck tbok 3 ⟨46, [(0, vi aN), (1, vl eTie aList), (5, vi (w64 (s3.1 + 1)))], []⟩ ?_
  refine SRun.nil ?_
  replace h := Option.some.inj h
  subst h
  exact q_l (Le.sub0)
  replace h := cond_f hb h
  refine swp_exit ?_
  replace h := Option.some.inj h
  subst h
  exact nx_e (q_re (q_bh (q_l (Le.sub0))))
  refine swp_seq ?_
  refine swp_regJ h (fun j12 => ⟨46, [(4, vb j12)], []⟩) (fun v13 h => ?_) (fun j12 h => ?_)
  refine SRun.ck tbok 1 ⟨46, [(1, vl eTie aList), (39, vi aN)], []⟩ ?_
  obtain ⟨x11, hx11, h⟩ := bind_some h
  refine SRun.ls (x_lstep_call (f := 55) (caps := []) (xs := [vi aN, vi 1, vi 12]) (ys := [vi aN, vi 1, vi 12]) (res := ⟨[.v (vb x11)], [], false⟩) (x := vb x11) (y := none) rfl ents55 (spec_l01In_run aN 1 12 _ hx11) rfl (by intro hc; cases hc)) ?_
  refine SRun.ck tbok 1 ⟨46, [(1, vl eTie aList), (41, vb x11)], []⟩ ?_
  refine SRun.cut [(41, fun b => b)] (b := x11) (by kernel_rfl) (fun hb => ?_) (fun hb => ?_)
  replace h := cond_t hb h
  refine SRun.ck tbok 5 ⟨46, [(4, vb (decide ((aList.length : Int) ≤ 20)))], []⟩ ?_
  refine SRun.nil ?_
  replace h := Option.some.inj h
  subst h
  exact Le.sub0
  replace h := cond_f hb h
  refine SRun.ck tbok 5 ⟨46, [(4, vb false)], []⟩ ?_
  refine SRun.nil ?_
  replace h := Option.some.inj h
  subst h
  exact Le.sub0
  refine swp_ret ?_
  replace h := Option.some.inj h
  subst h
  exact q_fr (fin1 (by kernel_rfl) (finV rfl SV.flat_of (holds_t (by kernel_rfl))))
theorem ents15 : Ents Tryd.prog 15 := ents_of Tryd.func15 (by kernel_rfl) rfl
noncomputable def spec_l31Code (aN : Int) (aList : (List Tie)) (aA : Int) (aB : Int) : Option (Int) :=
  ((spec_AreTies aN aList).bind fun x1 => (bif (!x1) then some 1 else ((((spec_l01In aA 0 (w64 (aN - 1))).bind fun x2 => (bif (!x2) then some true else ((spec_l01In aB 0 (w64 (aN - 1))).bind fun x3 => some (!x3))))).bind fun (j4 : Bool) => (bif j4 then some 2 else some 0))))
set_option maxRecDepth 100000 in
set_option maxHeartbeats 4000000 in
theorem spec_l31Code_run (aN : Int) (aList : (List Tie)) (aA : Int) (aB : Int) (r : Int) (h : spec_l31Code aN aList aA aB = some r) : SCall Tryd.prog 67 [.v (vi aN), .v (vl eTie aList), .v (vi aA), .v (vi aB)] ⟨[.v (vi r)], [], false⟩ := by
  refine scall_in Tryd.func67 rfl [(.tmp 8)] rfl (fun r => ⟨[.v (vi r)], [], false⟩) (r := r) ?_
  unfold spec_l31Code at h
  refine swp_seq ?_
  refine swp_reg ?_
  refine SRun.ck tbok 1 ⟨25, [(0, vi aN), (1, vl eTie aList), (2, vi aA), (3, vi aB)], []⟩ ?_
  refine SRun.nil ?_
  refine nx_n ?_
  refine swp_seq ?_
  refine swp_seq ?_
  refine swp_reg ?_
  refine SRun.ck tbok 2 ⟨25, [(0, vi aN), (2, vi aA), (3, vi aB), (9, vi aN), (10, vl eTie aList)], []⟩ ?_
  obtain ⟨x1, hx1, h⟩ := bind_some h
  refine SRun.ls (x_lstep_call (f := 15) (caps := []) (xs := [vi aN, vl eTie aList]) (ys := [vi aN, vl eTie aList]) (res := ⟨[.v (vb x1)], [], false⟩) (x := vb x1) (y := none) rfl ents15 (spec_AreTies_run aN aList _ hx1) rfl (by intro hc; cases hc)) ?_
  refine SRun.ck tbok 1 ⟨25, [(0, vi aN), (2, vi aA), (3, vi aB), (12, vb (!x1))], []⟩ ?_
  refine SRun.nil ?_
  refine nx_n ?_
  refine swp_cond (b := (!x1)) (by kernel_rfl) (fun hb => ?_) (fun hb => ?_)
  replace h := cond_t hb h
  refine swp_seq ?_
  refine swp_reg ?_
  refine SRun.ck tbok 1 ⟨25, [(8, vi 1)], []⟩ ?_
  refine SRun.nil ?_
  refine nx_n ?_
  refine swp_ret ?_
  replace h := Option.some.inj h
  subst h
  exact nx_r (q_fr (fin1 (by kernel_rfl) (finV rfl SV.flat_of (holds_t (by kernel_rfl)))))
  replace h := cond_f hb h
  refine swp_skip ?_
  refine nx_n ?_
  refine swp_seq ?_
  refine swp_seq ?_
  refine swp_regJ h (fun j4 => ⟨25, [(24, vb j4)], []⟩) (fun v5 h => ?_) (fun j4 h => ?_)
  refine SRun.ck tbok 3 ⟨25, [(0, vi aN), (3, vi aB), (13, vi aA), (15, vi (w64 (aN - 1)))], []⟩ ?_
  obtain ⟨x2, hx2, h⟩ := bind_some h
  refine SRun.ls (x_lstep_call (f := 55) (caps := []) (xs := [vi aA, vi 0, vi (w64 (aN - 1))]) (ys := [vi aA, vi 0, vi (w64 (aN - 1))]) (res := ⟨[.v (vb x2)], [], false⟩) (x := vb x2) (y := none) rfl ents55 (spec_l01In_run aA 0 (w64 (aN - 1)) _ hx2) rfl (by intro hc; cases hc)) ?_
  refine SRun.ck tbok 2 ⟨25, [(0, vi aN), (3, vi aB), (18, vb (!x2))], []⟩ ?_
  refine SRun.cut [(18, fun b => b)] (b := (!x2)) (by kernel_rfl) (fun hb => ?_) (fun hb => ?_)
  replace h := cond_t hb h
  refine SRun.ck tbok 6 ⟨25, [(24, vb true)], []⟩ ?_
  refine SRun.nil ?_
  replace h := Option.some.inj h
  subst h
  exact Le.sub0
  replace h := cond_f hb h
  refine SRun.ck tbok 3 ⟨25, [(18, vb false), (19, vi aB), (21, vi (w64 (aN - 1)))], []⟩ ?_
  obtain ⟨x3, hx3, h⟩ := bind_some h
  refine SRun.ls (x_lstep_call (f := 55) (caps := []) (xs := [vi aB, vi 0, vi (w64 (aN - 1))]) (ys := [vi aB, vi 0, vi (w64 (aN - 1))]) (res := ⟨[.v (vb x3)], [], false⟩) (x := vb x3) (y := none) rfl ents55 (spec_l01In_run aB 0 (w64 (aN - 1)) _ hx3) rfl (by intro hc; cases hc)) ?_
  refine SRun.ck tbok 2 ⟨25, [(24, vb (!x3))], []⟩ ?_
  refine SRun.nil ?_
  replace h := Option.some.inj h
  subst h
  exact Le.sub0
  refine swp_cond (b := j4) (by kernel_rfl) (fun hb => ?_) (fun hb => ?_)
  replace h := cond_t hb h
  refine swp_seq ?_
  refine swp_reg ?_
  refine SRun.ck tbok 1 ⟨25, [(8, vi 2)], []⟩ ?_
  refine SRun.nil ?_
  refine nx_n ?_
  refine swp_ret ?_
  replace h := Option.some.inj h
  subst h
  exact nx_r (q_fr (fin1 (by kernel_rfl) (finV rfl SV.flat_of (holds_t (by kernel_rfl)))))
  replace h := cond_f hb h
  refine swp_skip ?_
  refine nx_n ?_
  refine swp_seq ?_
  refine swp_reg ?_
  refine SRun.ck tbok 1 ⟨25, [(8, vi 0)], []⟩ ?_
  refine SRun.nil ?_
  refine nx_n ?_
  refine swp_ret ?_
  replace h := Option.some.inj h
  subst h
  exact q_fr (fin1 (by kernel_rfl) (finV rfl SV.flat_of (holds_t (by kernel_rfl))))
theorem ents67 : Ents Tryd.prog 67 := ents_of Tryd.func67 (by kernel_rfl) rfl
noncomputable def spec_l31Group (aN : Int) (aList : (List Tie)) (aA : Int) : Option ((List Int)) :=
  ((make' false aN).bind fun x1 => ((at' x1 aA).bind fun _ => (((loop (fun (s5 : Bool × (List Bool)) => (bif s5.1 then (forS (aList.length : Int) (fun (i7 : Int) (s7 : Bool × (List Bool)) => ((at' aList i7).bind fun x11 => (((bif x11.Same then ((at' s7.2 x11.A).bind fun x12 => ((at' s7.2 x11.B).bind fun x13 => some (!(x12 == x13)))) else some false)).bind fun (j14 : Bool) => (bif j14 then ((at' s7.2 x11.A).bind fun _ => ((at' (List.set s7.2 (Int.toNat x11.A) true) x11.B).bind fun _ => some (true, (List.set (List.set s7.2 (Int.toNat x11.A) true) (Int.toNat x11.B) true)))) else some (s7.1, s7.2))))) (fun (s7 : Bool × (List Bool)) => (.inl (s7.1, s7.2))) 0 (false, s5.2)) else some (.inr s5.2))) (true, (List.set x1 (Int.toNat aA) true)))).bind fun (j3 : (List Bool)) => (((forS aN (fun (i20 : Int) (s20 : (List Int)) => ((at' j3 i20).bind fun x24 => (bif x24 then ((app' s20 ([i20] : List Int)).bind fun x25 => some x25) else some s20))) (fun (s20 : (List Int)) => s20) 0 ([] : List Int))).bind fun (j18 : (List Int)) => some j18))))
set_option maxRecDepth 100000 in
set_option maxHeartbeats 4000000 in
theorem spec_l31Group_run (aN : Int) (aList : (List Tie)) (aA : Int) (r : (List Int)) (h : spec_l31Group aN aList aA = some r) : SCall Tryd.prog 75 [.v (vi aN), .v (vl eTie aList), .v (vi aA)] ⟨[.own 2 1 r.length (r.map (eI .i64))], [], false⟩ := by
  refine scall_in Tryd.func75 rfl [(.tmp 6)] rfl (fun r => ⟨[.own 2 1 r.length (r.map (eI .i64))], [], false⟩) (r := r) ?_
  unfold spec_l31Group at h
  refine swp_seq ?_
  refine swp_reg ?_
  refine SRun.ck tbok 1 ⟨67, [(0, vi aN), (1, vl eTie aList), (2, vi aA)], []⟩ ?_
  refine SRun.nil ?_
  refine nx_n ?_
  refine swp_seq ?_
  refine swp_reg ?_
  refine SRun.ck tbok 1 ⟨67, [(0, vi aN), (1, vl eTie aList), (2, vi aA), (13, vi aN)], []⟩ ?_
  obtain ⟨x1, hx1, h⟩ := bind_some h
  refine SRun.ls (x_make (z := false) (f := eB) (ti := ti98) (tj := ti4) (e := 4) (m := 1) (k := .i64) (k' := .i64) hx1 tbok rfl rfl (zs := [.bool false])) ?_
  refine SRun.ck tbok 1 ⟨67, [(0, vi aN), (1, vl eTie aList), (2, vi aA), (7, .own 14)], [(14, .arr 4 1 x1.length (x1.map eB))]⟩ ?_
  refine SRun.nil ?_
  refine nx_n ?_
  refine swp_seq ?_
  refine swp_reg ?_
  refine SRun.ck tbok 2 ⟨67, [(0, vi aN), (1, vl eTie aList), (7, .own 14), (15, .own 14), (16, vi aA)], [(14, .arr 4 1 x1.length (x1.map eB))]⟩ ?_
  obtain ⟨x2, hx2, h⟩ := bind_some h
  refine SRun.ls (x_index_own (d := 14) (L := x1) (f := eB) (ti := ti98) (tj := ti4) (e := 4) (e' := 4) (m := 1) (k := .i64) tbok rfl hx2) ?_
  refine SRun.estep (x_store_own (d := 14) (m := 1) (j := 0) (L := x1) (f := eB) (x := true) (z := x2) (ti := ti4) (e := 4) (ts := [.bool true]) (vs := [vb true]) (v := vb true) tbok rfl rfl hx2) ?_
  refine SRun.nil ?_
  refine nx_n ?_
  refine swp_seq ?_
  refine swp_seq ?_
  refine swp_reg ?_
  refine SRun.ck tbok 1 ⟨67, [(0, vi aN), (1, vl eTie aList), (7, .own 14), (8, vb true)], [(14, .arr 4 1 (List.set x1 (Int.toNat aA) true).length ((List.set x1 (Int.toNat aA) true).map eB))]⟩ ?_
  refine SRun.nil ?_
  refine nx_n ?_
  refine swp_seqJ h (fun j3 => ⟨67, [(0, vi aN), (7, .own 7)], [(7, .arr 4 1 j3.length (j3.map eB))]⟩) (fun v4 h => ?_) (fun j3 h => ?_)
  refine swp_blk (a := v4) ?_
  refine swp_lpL (r := v4) (s := (true, (List.set x1 (Int.toNat aA) true))) _ (fun s5 => ⟨67, [(0, vi aN), (1, vl eTie aList), (7, .own 7), (8, vb s5.1)], [(7, .arr 4 1 s5.2.length (s5.2.map eB))]⟩) _ ((Le.sub' ([(0, vi aN), (1, vl eTie aList), (7, .own 14), (8, vb true)] : List (Nat × SV)) ([(14, .arr 4 1 (List.set x1 (Int.toNat aA) true).length ((List.set x1 (Int.toNat aA) true).map eB))] : List (Nat × SO)) (by kernel_rfl) (by kernel_rfl)).trans ((Le.ren' (d := 14) (e := 7) (by kernel_rfl) (by kernel_rfl) (by kernel_rfl)).trans (Le.sub0))) h (fun s5 v6 h => ?_)
  refine swp_seq ?_
  refine swp_seq ?_
  refine swp_reg ?_
  refine SRun.ck tbok 1 ⟨67, [(0, vi aN), (1, vl eTie aList), (7, .own 7), (18, vb s5.1)], [(7, .arr 4 1 s5.2.length (s5.2.map eB))]⟩ ?_
  refine SRun.nil ?_
  refine nx_n ?_
  refine swp_cond (b := s5.1) (by kernel_rfl) (fun hb => ?_) (fun hb => ?_)
  replace h := cond_t hb h
  refine swp_skip ?_
  refine nx_n ?_
  refine swp_blk (a := v6) ?_
  refine swp_seq ?_
  refine swp_reg ?_
  refine SRun.ck tbok 1 ⟨67, [(0, vi aN), (1, vl eTie aList), (7, .own 7), (8, vb false)], [(7, .arr 4 1 s5.2.length (s5.2.map eB))]⟩ ?_
  refine SRun.nil ?_
  refine nx_n ?_
  refine swp_seq ?_
  refine swp_reg ?_
  refine SRun.ck tbok 1 ⟨67, [(0, vi aN), (1, vl eTie aList), (7, .own 7), (8, vb false), (9, vi 0)], [(7, .arr 4 1 s5.2.length (s5.2.map eB))]⟩ ?_
  refine SRun.nil ?_
  refine nx_n ?_
  refine swp_blk (a := v6) ?_
  refine swp_lpL (r := v6) (s := (0, false, s5.2)) _ (fun s7 => ⟨67, [(0, vi aN), (1, vl eTie aList), (7, .own 7), (8, vb s7.2.1), (9, vi s7.1)], [(7, .arr 4 1 s7.2.2.length (s7.2.2.map eB))]⟩) _ (Le.sub0) h (fun s7 v8 h => ?_)
  refine swp_seq ?_
  refine swp_seq ?_
  refine swp_reg ?_
  refine SRun.ck tbok 4 ⟨67, [(0, vi aN), (1, vl eTie aList), (7, .own 7), (8, vb s7.2.1), (9, vi s7.1), (22, vb (decide (s7.1 < (aList.length : Int))))], [(7, .arr 4 1 s7.2.2.length (s7.2.2.map eB))]⟩ ?_
  refine SRun.nil ?_
  refine nx_n ?_
  refine swp_cond (b := (decide (s7.1 < (aList.length : Int)))) (by kernel_rfl) (fun hb => ?_) (fun hb => ?_)
  replace h := cond_t hb h
  refine swp_skip ?_
  refine nx_n ?_
  refine swp_seq ?_
  refine swp_seqJ h (fun j9 => ⟨67, [(0, vi aN), (1, vl eTie aList), (7, .own 7), (8, vb j9.1), (9, vi s7.1)], [(7, .arr 4 1 j9.2.length (j9.2.map eB))]⟩) (fun v10 h => ?_) (fun j9 h => ?_)
  refine swp_blk (a := v10) ?_
  refine swp_seq ?_
  refine swp_reg ?_
  refine SRun.ck tbok 2 ⟨67, [(0, vi aN), (1, vl eTie aList), (7, .own 7), (8, vb s7.2.1), (9, vi s7.1), (25, vl eTie aList), (26, vi s7.1)], [(7, .arr 4 1 s7.2.2.length (s7.2.2.map eB))]⟩ ?_
  obtain ⟨x11, hx11, h⟩ := bind_some h
  refine SRun.ls (x_index (L := aList) (f := eTie) (ti := ti25) (tj := ti42) (e := 42) (k := .i64) tbok rfl hx11) ?_
  refine SRun.ck tbok 2 ⟨67, [(0, vi aN), (1, vl eTie aList), (7, .own 7), (8, vb s7.2.1), (9, vi s7.1), (10, .ref 10 0), (28, .agg [vi x11.A, vi x11.B, vb x11.Same, vs x11.Reason])], [(7, .arr 4 1 s7.2.2.length (s7.2.2.map eB)), (10, .box [vi 0, vi 0, vb false, vs (ByteArray.mk #[])])]⟩ ?_
  refine SRun.estep (x_estep_store (d := 10) (k := 0) (ti := ti42) (cs := [vi 0, vi 0, vb false, vs (ByteArray.mk #[])]) (vs := [vi x11.A, vi x11.B, vb x11.Same, vs x11.Reason]) (v := .agg [vi x11.A, vi x11.B, vb x11.Same, vs x11.Reason]) tbok rfl rfl) ?_
  refine SRun.nil ?_
  refine nx_n ?_
  refine swp_seq ?_
  refine swp_drJ mixed h (fun j14 => ⟨67, [(0, vi aN), (1, vl eTie aList), (7, .own 7), (8, vb s7.2.1), (9, vi s7.1), (10, .ref 10 0), (43, vb j14)], [(7, .arr 4 1 s7.2.2.length (s7.2.2.map eB)), (10, .box [vi x11.A, vi x11.B, vb x11.Same, vs x11.Reason])]⟩) (fun v15 h => ?_) (fun j14 h => ?_)
  refine DGo.chunk' tbok 3 (σ' := ⟨67, [(31, vb x11.Same), (30, vb x11.Same), (29, .ref 10 2), (0, vi aN), (1, vl eTie aList), (7, .own 7), (8, vb s7.2.1), (9, vi s7.1), (10, .ref 10 0), (28, .agg [vi x11.A, vi x11.B, vb x11.Same, vs x11.Reason])], [(10, .box [vi x11.A, vi x11.B, vb x11.Same, vs x11.Reason]), (7, .arr 4 1 s7.2.2.length (s7.2.2.map eB))]⟩) (by kernel_rfl) ?_
  refine DGo.cut [(31, fun b => b), (30, fun b => b)] (b := x11.Same) (by kernel_rfl) (fun hb => ?_) (fun hb => ?_)
  replace h := cond_t hb h
  refine DGo.chunk' tbok 3 (σ' := ⟨67, [(34, vi x11.A), (33, .ref 10 0), (32, .own 7), (31, vb true), (30, vb true), (29, .ref 10 2), (0, vi aN), (1, vl eTie aList), (7, .own 7), (8, vb s7.2.1), (9, vi s7.1), (10, .ref 10 0), (28, .agg [vi x11.A, vi x11.B, vb x11.Same, vs x11.Reason])], [(10, .box [vi x11.A, vi x11.B, vb x11.Same, vs x11.Reason]), (7, .arr 4 1 s7.2.2.length (s7.2.2.map eB))]⟩) (by kernel_rfl) ?_
  obtain ⟨x12, hx12, h⟩ := bind_some h
  refine DGo.step (x_index_own (d := 7) (L := s7.2.2) (f := eB) (ti := ti98) (tj := ti4) (e := 4) (e' := 4) (m := 1) (k := .i64) tbok rfl hx12) ?_
  refine DGo.step (x_load_own (d := 7) (m := 1) (j := 0) (L := s7.2.2) (f := eB) (ti := ti4) (e := 4) (v := vb x12) tbok rfl hx12) ?_
  refine DGo.chunk' tbok 3 (σ' := ⟨67, [(39, vi x11.B), (38, .ref 10 1), (37, .own 7), (36, vb x12), (35, .eref 7 1 (Int.toNat x11.A) 0), (34, vi x11.A), (33, .ref 10 0), (32, .own 7), (31, vb true), (30, vb true), (29, .ref 10 2), (0, vi aN), (1, vl eTie aList), (7, .own 7), (8, vb s7.2.1), (9, vi s7.1), (10, .ref 10 0), (28, .agg [vi x11.A, vi x11.B, vb x11.Same, vs x11.Reason])], [(10, .box [vi x11.A, vi x11.B, vb x11.Same, vs x11.Reason]), (7, .arr 4 1 s7.2.2.length (s7.2.2.map eB))]⟩) (by kernel_rfl) ?_
  obtain ⟨x13, hx13, h⟩ := bind_some h
  refine DGo.step (x_index_own (d := 7) (L := s7.2.2) (f := eB) (ti := ti98) (tj := ti4) (e := 4) (e' := 4) (m := 1) (k := .i64) tbok rfl hx13) ?_
  refine DGo.step (x_load_own (d := 7) (m := 1) (j := 0) (L := s7.2.2) (f := eB) (ti := ti4) (e := 4) (v := vb x13) tbok rfl hx13) ?_
  refine DGo.step (x_lstep_eqb tbok (ti := ti4) (i := x12) (j := x13) true rfl) ?_
  refine DGo.chunk' tbok 1 (σ' := ⟨67, [(43, vb (!(x12 == x13))), (42, vb (!(x12 == x13))), (41, vb x13), (40, .eref 7 1 (Int.toNat x11.B) 0), (39, vi x11.B), (38, .ref 10 1), (37, .own 7), (36, vb x12), (35, .eref 7 1 (Int.toNat x11.A) 0), (34, vi x11.A), (33, .ref 10 0), (32, .own 7), (31, vb true), (30, vb true), (29, .ref 10 2), (0, vi aN), (1, vl eTie aList), (7, .own 7), (8, vb s7.2.1), (9, vi s7.1), (10, .ref 10 0), (28, .agg [vi x11.A, vi x11.B, vb x11.Same, vs x11.Reason])], [(10, .box [vi x11.A, vi x11.B, vb x11.Same, vs x11.Reason]), (7, .arr 4 1 s7.2.2.length (s7.2.2.map eB))]⟩) (by kernel_rfl) ?_
  refine DGo.nil (by kernel_rfl) ?_
  replace h := Option.some.inj h
  subst h
  exact Le.sub0
  replace h := cond_f hb h
  refine DGo.chunk' tbok 12 (σ' := ⟨67, [(43, vb false), (42, .tup []), (41, .tup []), (40, .tup []), (39, .tup []), (38, .tup []), (37, .tup []), (36, .tup []), (35, .tup []), (34, .tup []), (33, .tup []), (32, .tup []), (31, vb false), (30, vb false), (29, .ref 10 2), (0, vi aN), (1, vl eTie aList), (7, .own 7), (8, vb s7.2.1), (9, vi s7.1), (10, .ref 10 0), (28, .agg [vi x11.A, vi x11.B, vb x11.Same, vs x11.Reason])], [(10, .box [vi x11.A, vi x11.B, vb x11.Same, vs x11.Reason]), (7, .arr 4 1 s7.2.2.length (s7.2.2.map eB))]⟩) (by kernel_rfl) ?_
  refine DGo.nil (by kernel_rfl) ?_
  replace h := Option.some.inj h
  subst h
  exact Le.sub0
  refine swp_cond (b := j14) (by kernel_rfl) (fun hb => ?_) (fun hb => ?_)
  replace h := cond_t hb h
  refine swp_seq ?_
  refine swp_reg ?_
  refine SRun.ck tbok 3 ⟨67, [(0, vi aN), (1, vl eTie aList), (7, .own 7), (9, vi s7.1), (10, .ref 10 0), (44, .own 7), (46, vi x11.A)], [(7, .arr 4 1 s7.2.2.length (s7.2.2.map eB)), (10, .box [vi x11.A, vi x11.B, vb x11.Same, vs x11.Reason])]⟩ ?_
  obtain ⟨x16, hx16, h⟩ := bind_some h
  refine SRun.ls (x_index_own (d := 7) (L := s7.2.2) (f := eB) (ti := ti98) (tj := ti4) (e := 4) (e' := 4) (m := 1) (k := .i64) tbok rfl hx16) ?_
  refine SRun.estep (x_store_own (d := 7) (m := 1) (j := 0) (L := s7.2.2) (f := eB) (x := true) (z := x16) (ti := ti4) (e := 4) (ts := [.bool true]) (vs := [vb true]) (v := vb true) tbok rfl rfl hx16) ?_
  refine SRun.nil ?_
  refine nx_n ?_
  refine swp_seq ?_
  refine swp_reg ?_
  refine SRun.ck tbok 3 ⟨67, [(0, vi aN), (1, vl eTie aList), (7, .own 7), (9, vi s7.1), (48, .own 7), (50, vi x11.B)], [(7, .arr 4 1 (List.set s7.2.2 (Int.toNat x11.A) true).length ((List.set s7.2.2 (Int.toNat x11.A) true).map eB))]⟩ ?_
  obtain ⟨x17, hx17, h⟩ := bind_some h
  refine SRun.ls (x_index_own (d := 7) (L := (List.set s7.2.2 (Int.toNat x11.A) true)) (f := eB) (ti := ti98) (tj := ti4) (e := 4) (e' := 4) (m := 1) (k := .i64) tbok rfl hx17) ?_
  refine SRun.estep (x_store_own (d := 7) (m := 1) (j := 0) (L := (List.set s7.2.2 (Int.toNat x11.A) true)) (f := eB) (x := true) (z := x17) (ti := ti4) (e := 4) (ts := [.bool true]) (vs := [vb true]) (v := vb true) tbok rfl rfl hx17) ?_
  refine SRun.nil ?_
  refine nx_n ?_
  refine swp_reg ?_
  refine SRun.ck tbok 1 ⟨67, [(0, vi aN), (1, vl eTie aList), (7, .own 7), (8, vb true), (9, vi s7.1)], [(7, .arr 4 1 (List.set (List.set s7.2.2 (Int.toNat x11.A) true) (Int.toNat x11.B) true).length ((List.set (List.set s7.2.2 (Int.toNat x11.A) true) (Int.toNat x11.B) true).map eB))]⟩ ?_
  refine SRun.nil ?_
  replace h := Option.some.inj h
  subst h
  exact q_bn (q_j (Le.sub0))
  replace h := cond_f hb h
  refine swp_skip ?_
  replace h := Option.some.inj h
  subst h
  exact q_bn (q_j (Le.sub0))
  refine swp_reg ?_
  refine SRun.ck tbok 3 ⟨67, [(0, vi aN), (1, vl eTie aList), (7, .own 7), (8, vb j9.1), (9, vi (w64 (s7.1 + 1)))], [(7, .arr 4 1 j9.2.length (j9.2.map eB))]⟩ ?_
  refine SRun.nil ?_
  replace h := Option.some.inj h
  subst h
  exact q_l (Le.sub0)
  replace h := cond_f hb h
  refine swp_exit ?_
  replace h := Option.some.inj h
  subst h
  exact nx_e (q_re (q_bh (q_bn (q_l (Le.sub0)))))
  replace h := cond_f hb h
  refine swp_exit ?_
  replace h := Option.some.inj h
  subst h
  exact nx_e (q_re (q_bh (q_j (Le.sub0))))
  refine swp_seq ?_
  refine swp_reg ?_
  refine SRun.ck tbok 2 ⟨67, [(0, vi aN), (7, .own 7), (11, .own 52)], [(7, .arr 4 1 j3.length (j3.map eB)), (52, .arr 2 1 ([] : List Int).length (([] : List Int).map (eI .i64)))]⟩ ?_
  refine SRun.nil ?_
  refine nx_n ?_
  refine swp_seq ?_
  refine swp_seq ?_
  refine swp_reg ?_
  refine SRun.ck tbok 1 ⟨67, [(0, vi aN), (7, .own 7), (11, .own 52), (12, vi 0)], [(7, .arr 4 1 j3.length (j3.map eB)), (52, .arr 2 1 ([] : List Int).length (([] : List Int).map (eI .i64)))]⟩ ?_
  refine SRun.nil ?_
  refine nx_n ?_
  refine swp_seqJ h (fun j18 => ⟨67, [(11, .own 11)], [(11, .arr 2 1 j18.length (j18.map (eI .i64)))]⟩) (fun v19 h => ?_) (fun j18 h => ?_)
  refine swp_blk (a := v19) ?_
  refine swp_lpL (r := v19) (s := (0, ([] : List Int))) _ (fun s20 => ⟨67, [(0, vi aN), (7, .own 7), (11, .own 11), (12, vi s20.1)], [(7, .arr 4 1 j3.length (j3.map eB)), (11, .arr 2 1 s20.2.length (s20.2.map (eI .i64)))]⟩) _ ((Le.sub' ([(0, vi aN), (7, .own 7), (11, .own 52), (12, vi 0)] : List (Nat × SV)) ([(7, .arr 4 1 j3.length (j3.map eB)), (52, .arr 2 1 ([] : List Int).length (([] : List Int).map (eI .i64)))] : List (Nat × SO)) (by kernel_rfl) (by kernel_rfl)).trans ((Le.ren' (d := 52) (e := 11) (by kernel_rfl) (by kernel_rfl) (by kernel_rfl)).trans (Le.sub0))) h (fun s20 v21 h => ?_)
  refine swp_seq ?_
  refine swp_seq ?_
  refine swp_reg ?_
  refine SRun.ck tbok 3 ⟨67, [(0, vi aN), (7, .own 7), (11, .own 11), (12, vi s20.1), (55, vb (decide (s20.1 < aN)))], [(7, .arr 4 1 j3.length (j3.map eB)), (11, .arr 2 1 s20.2.length (s20.2.map (eI .i64)))]⟩ ?_
  refine SRun.nil ?_
  refine nx_n ?_
  refine swp_cond (b := (decide (s20.1 < aN))) (by kernel_rfl) (fun hb => ?_) (fun hb => ?_)
  replace h := cond_t hb h
  refine swp_skip ?_
  refine nx_n ?_
  refine swp_seq ?_
  refine swp_seqJ h (fun j22 => ⟨67, [(0, vi aN), (7, .own 7), (11, .own 11), (12, vi s20.1)], [(7, .arr 4 1 j3.length (j3.map eB)), (11, .arr 2 1 j22.length (j22.map (eI .i64)))]⟩) (fun v23 h => ?_) (fun j22 h => ?_)
  refine swp_blk (a := v23) ?_
  refine swp_seq ?_
  refine swp_reg ?_
  refine SRun.ck tbok 2 ⟨67, [(0, vi aN), (7, .own 7), (11, .own 11), (12, vi s20.1), (58, .own 7), (59, vi s20.1)], [(7, .arr 4 1 j3.length (j3.map eB)), (11, .arr 2 1 s20.2.length (s20.2.map (eI .i64)))]⟩ ?_
  obtain ⟨x24, hx24, h⟩ := bind_some h
  refine SRun.ls (x_index_own (d := 7) (L := j3) (f := eB) (ti := ti98) (tj := ti4) (e := 4) (e' := 4) (m := 1) (k := .i64) tbok rfl hx24) ?_
  refine SRun.ls (x_load_own (d := 7) (m := 1) (j := 0) (L := j3) (f := eB) (ti := ti4) (e := 4) (v := vb x24) tbok rfl hx24) ?_
  refine SRun.nil ?_
  refine nx_n ?_
  refine swp_cond (b := x24) (by kernel_rfl) (fun hb => ?_) (fun hb => ?_)
  replace h := cond_t hb h
  refine swp_reg ?_
  refine SRun.ck tbok 3 ⟨67, [(0, vi aN), (7, .own 7), (12, vi s20.1), (62, .own 11), (64, .own 64)], [(7, .arr 4 1 j3.length (j3.map eB)), (11, .arr 2 1 s20.2.length (s20.2.map (eI .i64))), (64, .arr 2 1 ([s20.1] : List Int).length (([s20.1] : List Int).map (eI .i64)))]⟩ ?_
  obtain ⟨x25, hx25, h⟩ := bind_some h
  refine SRun.estep (x_append (f := (eI .i64)) (t := 50) (ti := ti50) (tj := ti2) (zs := [.int .i64 0]) (e := 2) (m := 1) (d := 11) (xv := .own 64) hx25 tbok rfl rfl rfl rfl (x_src_o (e := 2))) ?_
  refine SRun.ck tbok 1 ⟨67, [(0, vi aN), (7, .own 7), (11, .own 65), (12, vi s20.1)], [(7, .arr 4 1 j3.length (j3.map eB)), (65, .arr 2 1 x25.length (x25.map (eI .i64)))]⟩ ?_
  refine SRun.nil ?_
  replace h := Option.some.inj h
  subst h
  exact q_bn (q_j ((Le.sub' ([(0, vi aN), (7, .own 7), (11, .own 65), (12, vi s20.1)] : List (Nat × SV)) ([(7, .arr 4 1 j3.length (j3.map eB)), (65, .arr 2 1 x25.length (x25.map (eI .i64)))] : List (Nat × SO)) (by kernel_rfl) (by kernel_rfl)).trans ((Le.ren' (d := 65) (e := 11) (by kernel_rfl) (by kernel_rfl) (by kernel_rfl)).trans (Le.sub0))))
  replace h := cond_f hb h
  refine swp_skip ?_
  replace h := Option.some.inj h
  subst h
  exact q_bn (q_j (Le.sub0))
  refine swp_reg ?_
  refine SRun.ck tbok 3 ⟨67, [(0, vi aN), (7, .own 7), (11, .own 11), (12, vi (w64 (s20.1 + 1)))], [(7, .arr 4 1 j3.length (j3.map eB)), (11, .arr 2 1 j22.length (j22.map (eI .i64)))]⟩ ?_
  refine SRun.nil ?_
  replace h := Option.some.inj h
  subst h
  exact q_l (Le.sub0)
  replace h := cond_f hb h
  refine swp_exit ?_
  replace h := Option.some.inj h
  subst h
  exact nx_e (q_re (q_bh (q_j (Le.sub0))))
  refine swp_seq ?_
  refine swp_reg ?_
  refine SRun.ck tbok 2 ⟨67, [(6, .own 11)], [(11, .arr 2 1 j18.length (j18.map (eI .i64)))]⟩ ?_
  refine SRun.nil ?_
  refine nx_n ?_
  refine swp_ret ?_
  replace h := Option.some.inj h
  subst h
  exact q_fr (fin1 (by kernel_rfl) (finO (d := 11) (holds_t (by kernel_rfl)) (by kernel_rfl) (flat_map (eI_flat .i64) _) (by kernel_rfl)))
theorem ents75 : Ents Tryd.prog 75 := ents_of Tryd.func75 (by kernel_rfl) rfl
noncomputable def spec_l01Has (aList : (List Int)) (aX : Int) : Option (Bool) :=
  (((forN (aList.length : Int) (fun (i3 : Int) (_ : Unit) => ((at' aList i3).bind fun x7 => (bif (x7 == aX) then some (.inr (.inr true)) else some (.inl ())))) (fun (_ : Unit) => .inl ()) 0 ())).bind (Sum.elim (fun (_ : Unit) => some false) some))
set_option maxRecDepth 100000 in
set_option maxHeartbeats 4000000 in
theorem spec_l01Has_run (aList : (List Int)) (aX : Int) (r : Bool) (h : spec_l01Has aList aX = some r) : SCall Tryd.prog 74 [.v (vl (eI .i64) aList), .v (vi aX)] ⟨[.v (vb r)], [], false⟩ := by
  refine scall_in Tryd.func74 rfl [(.tmp 4)] rfl (fun r => ⟨[.v (vb r)], [], false⟩) (r := r) ?_
  unfold spec_l01Has at h
  refine swp_seq ?_
  refine swp_reg ?_
  refine SRun.ck tbok 1 ⟨18, [(0, vl (eI .i64) aList), (1, vi aX)], []⟩ ?_
  refine SRun.nil ?_
  refine nx_n ?_
  refine swp_seq ?_
  refine swp_seq ?_
  refine swp_reg ?_
  refine SRun.ck tbok 1 ⟨18, [(0, vl (eI .i64) aList), (1, vi aX), (5, vi 0)], []⟩ ?_
  refine SRun.nil ?_
  refine nx_n ?_
  refine swp_seqE (r := r) h (fun j1 => ⟨18, [], []⟩) (fun v2 h => ?_) (fun j1 h => ?_)
  refine swp_blk (a := v2) ?_
  refine swp_lpL (r := v2) (s := (0, ())) _ (fun s3 => ⟨18, [(0, vl (eI .i64) aList), (1, vi aX), (5, vi s3.1)], []⟩) _ (Le.sub0) h (fun s3 v4 h => ?_)
  refine swp_seq ?_
  refine swp_seq ?_
  refine swp_reg ?_
  refine SRun.ck tbok 4 ⟨18, [(0, vl (eI .i64) aList), (1, vi aX), (5, vi s3.1), (9, vb (decide (s3.1 < (aList.length : Int))))], []⟩ ?_
  refine SRun.nil ?_
  refine nx_n ?_
  refine swp_cond (b := (decide (s3.1 < (aList.length : Int)))) (by kernel_rfl) (fun hb => ?_) (fun hb => ?_)
  replace h := cond_t hb h
  refine swp_skip ?_
  refine nx_n ?_
  refine swp_seq ?_
  refine swp_seqL (r := v4) h (fun j5 => ⟨18, [(0, vl (eI .i64) aList), (1, vi aX), (5, vi s3.1)], []⟩) (fun v6 h => ?_) (fun j5 h => ?_)
  refine swp_blk (a := v6) ?_
  refine swp_seq ?_
  refine swp_reg ?_
  refine SRun.ck tbok 2 ⟨18, [(0, vl (eI .i64) aList), (1, vi aX), (5, vi s3.1), (12, vl (eI .i64) aList), (13, vi s3.1)], []⟩ ?_
  obtain ⟨x7, hx7, h⟩ := bind_some h
  refine SRun.ls (x_index (L := aList) (f := (eI .i64)) (ti := ti50) (tj := ti2) (e := 2) (k := .i64) tbok rfl hx7) ?_
  refine SRun.ck tbok 3 ⟨18, [(0, vl (eI .i64) aList), (1, vi aX), (5, vi s3.1), (17, vb (x7 == aX))], []⟩ ?_
  refine SRun.nil ?_
  refine nx_n ?_
  refine swp_cond (b := (x7 == aX)) (by kernel_rfl) (fun hb => ?_) (fun hb => ?_)
  replace h := cond_t hb h
  refine swp_seq ?_
  refine swp_reg ?_
  refine SRun.ck tbok 1 ⟨18, [(4, vb true)], []⟩ ?_
  refine SRun.nil ?_
  refine nx_n ?_
  refine swp_ret ?_
  replace h := Option.some.inj h
  subst h
  exact q_br (q_rr (q_rr (q_br (q_rr (q_fr (fin1 (by kernel_rfl) (finV rfl SV.flat_of (holds_t (by kernel_rfl)))))))))
  replace h := cond_f hb h
  refine swp_skip ?_
  replace h := Option.some.inj h
  subst h
  exact q_bn (q_l (Le.sub0))
  refine swp_reg ?_
  refine SRun.ck tbok 3 ⟨18, [(0, vl (eI .i64) aList), (1, vi aX), (5, vi (w64 (s3.1 + 1)))], []⟩ ?_
  refine SRun.nil ?_
  replace h := Option.some.inj h
  subst h
  exact q_l (Le.sub0)
  replace h := cond_f hb h
  refine swp_exit ?_
  replace h := Option.some.inj h
  subst h
  exact nx_e (q_re (q_bh (q_l (Le.sub0))))
  refine swp_seq ?_
  refine swp_reg ?_
  refine SRun.ck tbok 1 ⟨18, [(4, vb false)], []⟩ ?_
  refine SRun.nil ?_
  refine nx_n ?_
  refine swp_ret ?_
  replace h := Option.some.inj h
  subst h
  exact q_fr (fin1 (by kernel_rfl) (finV rfl SV.flat_of (holds_t (by kernel_rfl))))
theorem ents74 : Ents Tryd.prog 74 := ents_of Tryd.func74 (by kernel_rfl) rfl
noncomputable def spec_l31Proof (aN : Int) (aList : (List Tie)) (aA : Int) (aB : Int) : Option ((List Int)) :=
  ((make' 0 aN).bind fun x1 => (((forS aN (fun (i4 : Int) (s4 : (List Int)) => ((at' s4 i4).bind fun _ => some (List.set s4 (Int.toNat i4) 12))) (fun (s4 : (List Int)) => s4) 0 x1)).bind fun (j2 : (List Int)) => ((at' j2 aB).bind fun _ => (((forS aN (fun (_ : Int) (s12 : (List Int)) => (forS (aList.length : Int) (fun (i16 : Int) (s16 : (List Int)) => ((at' aList i16).bind fun x20 => (bif x20.Same then ((at' s16 x20.A).bind fun x21 => ((at' s16 x20.B).bind fun x22 => ((at' s16 x20.A).bind fun _ => ((at' (List.set s16 (Int.toNat x20.A) (minI x21 (w64 (x22 + 1)))) x20.B).bind fun x24 => ((at' (List.set s16 (Int.toNat x20.A) (minI x21 (w64 (x22 + 1)))) x20.A).bind fun x25 => ((at' (List.set s16 (Int.toNat x20.A) (minI x21 (w64 (x22 + 1)))) x20.B).bind fun _ => some (List.set (List.set s16 (Int.toNat x20.A) (minI x21 (w64 (x22 + 1)))) (Int.toNat x20.B) (minI x24 (w64 (x25 + 1)))))))))) else some s16))) (fun (s16 : (List Int)) => s16) 0 s12)) (fun (s12 : (List Int)) => s12) 0 (List.set j2 (Int.toNat aB) 0))).bind fun (j10 : (List Int)) => (((loop (fun (s29 : Int × (List Int)) => (bif (s29.1 != aB) then (forN (aList.length : Int) (fun (i31 : Int) (s31 : Int × (List Int)) => ((at' aList i31).bind fun x35 => (((bif x35.Same then (bif (x35.A == s31.1) then ((at' j10 (w64 ((w64 (x35.A + x35.B)) - s31.1))).bind fun x36 => ((at' j10 s31.1).bind fun x37 => some (x36 == (w64 (x37 - 1))))) else (bif (x35.B == s31.1) then ((at' j10 (w64 ((w64 (x35.A + x35.B)) - s31.1))).bind fun x38 => ((at' j10 s31.1).bind fun x39 => some (x38 == (w64 (x39 - 1))))) else some false)) else some false)).bind fun (j40 : Bool) => (bif j40 then ((app' s31.2 ([i31] : List Int)).bind fun x42 => some (.inr (.inl ((w64 ((w64 (x35.A + x35.B)) - s31.1)), x42)))) else some (.inl (s31.1, s31.2)))))) (fun (s31 : Int × (List Int)) => (.inl (s31.1, s31.2))) 0 (s29.1, s29.2)) else some (.inr s29.2))) (aA, ([] : List Int)))).bind fun (j27 : (List Int)) => some j27)))))
set_option maxRecDepth 100000 in
set_option maxHeartbeats 4000000 in
theorem spec_l31Proof_run (aN : Int) (aList : (List Tie)) (aA : Int) (aB : Int) (r : (List Int)) (h : spec_l31Proof aN aList aA aB = some r) : SCall Tryd.prog 72 [.v (vi aN), .v (vl eTie aList), .v (vi aA), .v (vi aB)] ⟨[.own 2 1 r.length (r.map (eI .i64))], [], false⟩ := by
  refine scall_in Tryd.func72 rfl [(.tmp 8)] rfl (fun r => ⟨[.own 2 1 r.length (r.map (eI .i64))], [], false⟩) (r := r) ?_
  unfold spec_l31Proof at h
  refine swp_seq ?_
  refine swp_reg ?_
  refine SRun.ck tbok 1 ⟨137, [(0, vi aN), (1, vl eTie aList), (2, vi aA), (3, vi aB)], []⟩ ?_
  refine SRun.nil ?_
  refine nx_n ?_
  refine swp_seq ?_
  refine swp_reg ?_
  refine SRun.ck tbok 1 ⟨137, [(0, vi aN), (1, vl eTie aList), (2, vi aA), (3, vi aB), (17, vi aN)], []⟩ ?_
  obtain ⟨x1, hx1, h⟩ := bind_some h
  refine SRun.ls (x_make (z := 0) (f := (eI .i64)) (ti := ti50) (tj := ti2) (e := 2) (m := 1) (k := .i64) (k' := .i64) hx1 tbok rfl rfl (zs := [.int .i64 0])) ?_
  refine SRun.ck tbok 1 ⟨137, [(0, vi aN), (1, vl eTie aList), (2, vi aA), (3, vi aB), (9, .own 18)], [(18, .arr 2 1 x1.length (x1.map (eI .i64)))]⟩ ?_
  refine SRun.nil ?_
  refine nx_n ?_
  refine swp_seq ?_
  refine swp_seq ?_
  refine swp_reg ?_
  refine SRun.ck tbok 1 ⟨137, [(0, vi aN), (1, vl eTie aList), (2, vi aA), (3, vi aB), (9, .own 18), (10, vi 0)], [(18, .arr 2 1 x1.length (x1.map (eI .i64)))]⟩ ?_
  refine SRun.nil ?_
  refine nx_n ?_
  refine swp_seqJ h (fun j2 => ⟨137, [(0, vi aN), (1, vl eTie aList), (2, vi aA), (3, vi aB), (9, .own 9)], [(9, .arr 2 1 j2.length (j2.map (eI .i64)))]⟩) (fun v3 h => ?_) (fun j2 h => ?_)
  refine swp_blk (a := v3) ?_
  refine swp_lpL (r := v3) (s := (0, x1)) _ (fun s4 => ⟨137, [(0, vi aN), (1, vl eTie aList), (2, vi aA), (3, vi aB), (9, .own 9), (10, vi s4.1)], [(9, .arr 2 1 s4.2.length (s4.2.map (eI .i64)))]⟩) _ ((Le.sub' ([(0, vi aN), (1, vl eTie aList), (2, vi aA), (3, vi aB), (9, .own 18), (10, vi 0)] : List (Nat × SV)) ([(18, .arr 2 1 x1.length (x1.map (eI .i64)))] : List (Nat × SO)) (by kernel_rfl) (by kernel_rfl)).trans ((Le.ren' (d := 18) (e := 9) (by kernel_rfl) (by kernel_rfl) (by kernel_rfl)).trans (Le.sub0))) h (fun s4 v5 h => ?_)
  refine swp_seq ?_
  refine swp_seq ?_
  refine swp_reg ?_
  refine SRun.ck tbok 3 ⟨137, [(0, vi aN), (1, vl eTie aList), (2, vi aA), (3, vi aB), (9, .own 9), (10, vi s4.1), (21, vb (decide (s4.1 < aN)))], [(9, .arr 2 1 s4.2.length (s4.2.map (eI .i64)))]⟩ ?_
  refine SRun.nil ?_
  refine nx_n ?_
  refine swp_cond (b := (decide (s4.1 < aN))) (by kernel_rfl) (fun hb => ?_) (fun hb => ?_)
  replace h := cond_t hb h
  refine swp_skip ?_
  refine nx_n ?_
  refine swp_seq ?_
  refine swp_seqJ h (fun j6 => ⟨137, [(0, vi aN), (1, vl eTie aList), (2, vi aA), (3, vi aB), (9, .own 9), (10, vi s4.1)], [(9, .arr 2 1 j6.length (j6.map (eI .i64)))]⟩) (fun v7 h => ?_) (fun j6 h => ?_)
  refine swp_blk (a := v7) ?_
  refine swp_reg ?_
  refine SRun.ck tbok 2 ⟨137, [(0, vi aN), (1, vl eTie aList), (2, vi aA), (3, vi aB), (9, .own 9), (10, vi s4.1), (24, .own 9), (25, vi s4.1)], [(9, .arr 2 1 s4.2.length (s4.2.map (eI .i64)))]⟩ ?_
  obtain ⟨x8, hx8, h⟩ := bind_some h
  refine SRun.ls (x_index_own (d := 9) (L := s4.2) (f := (eI .i64)) (ti := ti50) (tj := ti2) (e := 2) (e' := 2) (m := 1) (k := .i64) tbok rfl hx8) ?_
  refine SRun.estep (x_store_own (d := 9) (m := 1) (j := 0) (L := s4.2) (f := (eI .i64)) (x := 12) (z := x8) (ti := ti2) (e := 2) (ts := [.int .i64 12]) (vs := [vi 12]) (v := vi 12) tbok rfl rfl hx8) ?_
  refine SRun.nil ?_
  replace h := Option.some.inj h
  subst h
  exact q_bn (q_j (Le.sub0))
  refine swp_reg ?_
  refine SRun.ck tbok 3 ⟨137, [(0, vi aN), (1, vl eTie aList), (2, vi aA), (3, vi aB), (9, .own 9), (10, vi (w64 (s4.1 + 1)))], [(9, .arr 2 1 j6.length (j6.map (eI .i64)))]⟩ ?_
  refine SRun.nil ?_
  replace h := Option.some.inj h
  subst h
  exact q_l (Le.sub0)
  replace h := cond_f hb h
  refine swp_exit ?_
  replace h := Option.some.inj h
  subst h
  exact nx_e (q_re (q_bh (q_j (Le.sub0))))
  refine swp_seq ?_
  refine swp_reg ?_
  refine SRun.ck tbok 2 ⟨137, [(0, vi aN), (1, vl eTie aList), (2, vi aA), (3, vi aB), (9, .own 9), (27, .own 9), (28, vi aB)], [(9, .arr 2 1 j2.length (j2.map (eI .i64)))]⟩ ?_
  obtain ⟨x9, hx9, h⟩ := bind_some h
  refine SRun.ls (x_index_own (d := 9) (L := j2) (f := (eI .i64)) (ti := ti50) (tj := ti2) (e := 2) (e' := 2) (m := 1) (k := .i64) tbok rfl hx9) ?_
  refine SRun.estep (x_store_own (d := 9) (m := 1) (j := 0) (L := j2) (f := (eI .i64)) (x := 0) (z := x9) (ti := ti2) (e := 2) (ts := [.int .i64 0]) (vs := [vi 0]) (v := vi 0) tbok rfl rfl hx9) ?_
  refine SRun.nil ?_
  refine nx_n ?_
  refine swp_seq ?_
  refine swp_seq ?_
  refine swp_reg ?_
  refine SRun.ck tbok 1 ⟨137, [(0, vi aN), (1, vl eTie aList), (2, vi aA), (3, vi aB), (9, .own 9), (11, vi 0)], [(9, .arr 2 1 (List.set j2 (Int.toNat aB) 0).length ((List.set j2 (Int.toNat aB) 0).map (eI .i64)))]⟩ ?_
  refine SRun.nil ?_
  refine nx_n ?_
  refine swp_seqJ h (fun j10 => ⟨137, [(1, vl eTie aList), (2, vi aA), (3, vi aB), (9, .own 9)], [(9, .arr 2 1 j10.length (j10.map (eI .i64)))]⟩) (fun v11 h => ?_) (fun j10 h => ?_)
  refine swp_blk (a := v11) ?_
  refine swp_lpL (r := v11) (s := (0, (List.set j2 (Int.toNat aB) 0))) _ (fun s12 => ⟨137, [(0, vi aN), (1, vl eTie aList), (2, vi aA), (3, vi aB), (9, .own 9), (11, vi s12.1)], [(9, .arr 2 1 s12.2.length (s12.2.map (eI .i64)))]⟩) _ (Le.sub0) h (fun s12 v13 h => ?_)
  refine swp_seq ?_
  refine swp_seq ?_
  refine swp_reg ?_
  refine SRun.ck tbok 3 ⟨137, [(0, vi aN), (1, vl eTie aList), (2, vi aA), (3, vi aB), (9, .own 9), (11, vi s12.1), (32, vb (decide (s12.1 < aN)))], [(9, .arr 2 1 s12.2.length (s12.2.map (eI .i64)))]⟩ ?_
  refine SRun.nil ?_
  refine nx_n ?_
  refine swp_cond (b := (decide (s12.1 < aN))) (by kernel_rfl) (fun hb => ?_) (fun hb => ?_)
  replace h := cond_t hb h
  refine swp_skip ?_
  refine nx_n ?_
  refine swp_seq ?_
  refine swp_seqJ h (fun j14 => ⟨137, [(0, vi aN), (1, vl eTie aList), (2, vi aA), (3, vi aB), (9, .own 9), (11, vi s12.1)], [(9, .arr 2 1 j14.length (j14.map (eI .i64)))]⟩) (fun v15 h => ?_) (fun j14 h => ?_)
  refine swp_blk (a := v15) ?_
  refine swp_seq ?_
  refine swp_reg ?_
  refine SRun.ck tbok 1 ⟨137, [(0, vi aN), (1, vl eTie aList), (2, vi aA), (3, vi aB), (9, .own 9), (11, vi s12.1), (12, vi 0)], [(9, .arr 2 1 s12.2.length (s12.2.map (eI .i64)))]⟩ ?_
  refine SRun.nil ?_
  refine nx_n ?_
  refine swp_blk (a := v15) ?_
  refine swp_lpL (r := v15) (s := (0, s12.2)) _ (fun s16 => ⟨137, [(0, vi aN), (1, vl eTie aList), (2, vi aA), (3, vi aB), (9, .own 9), (11, vi s12.1), (12, vi s16.1)], [(9, .arr 2 1 s16.2.length (s16.2.map (eI .i64)))]⟩) _ (Le.sub0) h (fun s16 v17 h => ?_)
  refine swp_seq ?_
  refine swp_seq ?_
  refine swp_reg ?_
  refine SRun.ck tbok 4 ⟨137, [(0, vi aN), (1, vl eTie aList), (2, vi aA), (3, vi aB), (9, .own 9), (11, vi s12.1), (12, vi s16.1), (38, vb (decide (s16.1 < (aList.length : Int))))], [(9, .arr 2 1 s16.2.length (s16.2.map (eI .i64)))]⟩ ?_
  refine SRun.nil ?_
  refine nx_n ?_
  refine swp_cond (b := (decide (s16.1 < (aList.length : Int)))) (by kernel_rfl) (fun hb => ?_) (fun hb => ?_)
  replace h := cond_t hb h
  refine swp_skip ?_
  refine nx_n ?_
  refine swp_seq ?_
  refine swp_seqJ h (fun j18 => ⟨137, [(0, vi aN), (1, vl eTie aList), (2, vi aA), (3, vi aB), (9, .own 9), (11, vi s12.1), (12, vi s16.1)], [(9, .arr 2 1 j18.length (j18.map (eI .i64)))]⟩) (fun v19 h => ?_) (fun j18 h => ?_)
  refine swp_blk (a := v19) ?_
  refine swp_seq ?_
  refine swp_reg ?_
  refine SRun.ck tbok 2 ⟨137, [(0, vi aN), (1, vl eTie aList), (2, vi aA), (3, vi aB), (9, .own 9), (11, vi s12.1), (12, vi s16.1), (41, vl eTie aList), (42, vi s16.1)], [(9, .arr 2 1 s16.2.length (s16.2.map (eI .i64)))]⟩ ?_
  obtain ⟨x20, hx20, h⟩ := bind_some h
  refine SRun.ls (x_index (L := aList) (f := eTie) (ti := ti25) (tj := ti42) (e := 42) (k := .i64) tbok rfl hx20) ?_
  refine SRun.ck tbok 2 ⟨137, [(0, vi aN), (1, vl eTie aList), (2, vi aA), (3, vi aB), (9, .own 9), (11, vi s12.1), (12, vi s16.1), (13, .ref 13 0), (44, .agg [vi x20.A, vi x20.B, vb x20.Same, vs x20.Reason])], [(9, .arr 2 1 s16.2.length (s16.2.map (eI .i64))), (13, .box [vi 0, vi 0, vb false, vs (ByteArray.mk #[])])]⟩ ?_
  refine SRun.estep (x_estep_store (d := 13) (k := 0) (ti := ti42) (cs := [vi 0, vi 0, vb false, vs (ByteArray.mk #[])]) (vs := [vi x20.A, vi x20.B, vb x20.Same, vs x20.Reason]) (v := .agg [vi x20.A, vi x20.B, vb x20.Same, vs x20.Reason]) tbok rfl rfl) ?_
  refine SRun.nil ?_
  refine nx_n ?_
  refine swp_seq ?_
  refine swp_reg ?_
  refine SRun.ck tbok 2 ⟨137, [(0, vi aN), (1, vl eTie aList), (2, vi aA), (3, vi aB), (9, .own 9), (11, vi s12.1), (12, vi s16.1), (13, .ref 13 0), (46, vb x20.Same)], [(9, .arr 2 1 s16.2.length (s16.2.map (eI .i64))), (13, .box [vi x20.A, vi x20.B, vb x20.Same, vs x20.Reason])]⟩ ?_
  refine SRun.nil ?_
  refine nx_n ?_
  refine swp_cond (b := x20.Same) (by kernel_rfl) (fun hb => ?_) (fun hb => ?_)
  replace h := cond_t hb h
  refine swp_seq ?_
  refine swp_dr mixed ?_
  refine DGo.chunk' tbok 6 (σ' := ⟨137, [(52, vi x20.A), (51, .ref 13 0), (50, .own 9), (49, vi x20.A), (48, .ref 13 0), (47, .own 9), (0, vi aN), (1, vl eTie aList), (2, vi aA), (3, vi aB), (9, .own 9), (11, vi s12.1), (12, vi s16.1), (13, .ref 13 0), (46, vb x20.Same)], [(9, .arr 2 1 s16.2.length (s16.2.map (eI .i64))), (13, .box [vi x20.A, vi x20.B, vb x20.Same, vs x20.Reason])]⟩) (by kernel_rfl) ?_
  obtain ⟨x21, hx21, h⟩ := bind_some h
  refine DGo.step (x_index_own (d := 9) (L := s16.2) (f := (eI .i64)) (ti := ti50) (tj := ti2) (e := 2) (e' := 2) (m := 1) (k := .i64) tbok rfl hx21) ?_
  refine DGo.step (x_load_own (d := 9) (m := 1) (j := 0) (L := s16.2) (f := (eI .i64)) (ti := ti2) (e := 2) (v := vi x21) tbok rfl hx21) ?_
  refine DGo.chunk' tbok 3 (σ' := ⟨137, [(57, vi x20.B), (56, .ref 13 1), (55, .own 9), (54, vi x21), (53, .eref 9 1 (Int.toNat x20.A) 0), (52, vi x20.A), (51, .ref 13 0), (50, .own 9), (49, vi x20.A), (48, .ref 13 0), (47, .own 9), (0, vi aN), (1, vl eTie aList), (2, vi aA), (3, vi aB), (9, .own 9), (11, vi s12.1), (12, vi s16.1), (13, .ref 13 0), (46, vb x20.Same)], [(9, .arr 2 1 s16.2.length (s16.2.map (eI .i64))), (13, .box [vi x20.A, vi x20.B, vb x20.Same, vs x20.Reason])]⟩) (by kernel_rfl) ?_
  obtain ⟨x22, hx22, h⟩ := bind_some h
  refine DGo.step (x_index_own (d := 9) (L := s16.2) (f := (eI .i64)) (ti := ti50) (tj := ti2) (e := 2) (e' := 2) (m := 1) (k := .i64) tbok rfl hx22) ?_
  refine DGo.step (x_load_own (d := 9) (m := 1) (j := 0) (L := s16.2) (f := (eI .i64)) (ti := ti2) (e := 2) (v := vi x22) tbok rfl hx22) ?_
  refine DGo.chunk' tbok 2 (σ' := ⟨137, [(61, vi (minI x21 (w64 (x22 + 1)))), (60, vi (w64 (x22 + 1))), (59, vi x22), (58, .eref 9 1 (Int.toNat x20.B) 0), (57, vi x20.B), (56, .ref 13 1), (55, .own 9), (54, vi x21), (53, .eref 9 1 (Int.toNat x20.A) 0), (52, vi x20.A), (51, .ref 13 0), (50, .own 9), (49, vi x20.A), (48, .ref 13 0), (47, .own 9), (0, vi aN), (1, vl eTie aList), (2, vi aA), (3, vi aB), (9, .own 9), (11, vi s12.1), (12, vi s16.1), (13, .ref 13 0), (46, vb x20.Same)], [(9, .arr 2 1 s16.2.length (s16.2.map (eI .i64))), (13, .box [vi x20.A, vi x20.B, vb x20.Same, vs x20.Reason])]⟩) (by kernel_rfl) ?_
  obtain ⟨x23, hx23, h⟩ := bind_some h
  refine DGo.step (x_index_own (d := 9) (L := s16.2) (f := (eI .i64)) (ti := ti50) (tj := ti2) (e := 2) (e' := 2) (m := 1) (k := .i64) tbok rfl hx23) ?_
  refine DGo.seq (by kernel_rfl) (by kernel_rfl) ?_
  refine SRun.estep (x_store_own (d := 9) (m := 1) (j := 0) (L := s16.2) (f := (eI .i64)) (x := (minI x21 (w64 (x22 + 1)))) (z := x23) (ti := ti2) (e := 2) (ts := [.int .i64 (minI x21 (w64 (x22 + 1)))]) (vs := [vi (minI x21 (w64 (x22 + 1)))]) (v := vi (minI x21 (w64 (x22 + 1)))) tbok rfl rfl hx23) ?_
  refine SRun.nil ?_
  refine nx_n ?_
  refine swp_dr mixed ?_
  refine DGo.chunk' tbok 6 (σ' := ⟨137, [(68, vi x20.B), (67, .ref 13 1), (66, .own 9), (65, vi x20.B), (64, .ref 13 1), (63, .own 9), (62, .eref 9 1 (Int.toNat x20.A) 0), (61, vi (minI x21 (w64 (x22 + 1)))), (60, vi (w64 (x22 + 1))), (59, vi x22), (58, .eref 9 1 (Int.toNat x20.B) 0), (57, vi x20.B), (56, .ref 13 1), (55, .own 9), (54, vi x21), (53, .eref 9 1 (Int.toNat x20.A) 0), (52, vi x20.A), (51, .ref 13 0), (50, .own 9), (49, vi x20.A), (48, .ref 13 0), (47, .own 9), (0, vi aN), (1, vl eTie aList), (2, vi aA), (3, vi aB), (9, .own 9), (11, vi s12.1), (12, vi s16.1), (13, .ref 13 0), (46, vb x20.Same)], [(9, .arr 2 1 (List.set s16.2 (Int.toNat x20.A) (minI x21 (w64 (x22 + 1)))).length ((List.set s16.2 (Int.toNat x20.A) (minI x21 (w64 (x22 + 1)))).map (eI .i64))), (13, .box [vi x20.A, vi x20.B, vb x20.Same, vs x20.Reason])]⟩) (by kernel_rfl) ?_
  obtain ⟨x24, hx24, h⟩ := bind_some h
  refine DGo.step (x_index_own (d := 9) (L := (List.set s16.2 (Int.toNat x20.A) (minI x21 (w64 (x22 + 1))))) (f := (eI .i64)) (ti := ti50) (tj := ti2) (e := 2) (e' := 2) (m := 1) (k := .i64) tbok rfl hx24) ?_
  refine DGo.step (x_load_own (d := 9) (m := 1) (j := 0) (L := (List.set s16.2 (Int.toNat x20.A) (minI x21 (w64 (x22 + 1))))) (f := (eI .i64)) (ti := ti2) (e := 2) (v := vi x24) tbok rfl hx24) ?_
  refine DGo.chunk' tbok 3 (σ' := ⟨137, [(73, vi x20.A), (72, .ref 13 0), (71, .own 9), (70, vi x24), (69, .eref 9 1 (Int.toNat x20.B) 0), (68, vi x20.B), (67, .ref 13 1), (66, .own 9), (65, vi x20.B), (64, .ref 13 1), (63, .own 9), (62, .eref 9 1 (Int.toNat x20.A) 0), (61, vi (minI x21 (w64 (x22 + 1)))), (60, vi (w64 (x22 + 1))), (59, vi x22), (58, .eref 9 1 (Int.toNat x20.B) 0), (57, vi x20.B), (56, .ref 13 1), (55, .own 9), (54, vi x21), (53, .eref 9 1 (Int.toNat x20.A) 0), (52, vi x20.A), (51, .ref 13 0), (50, .own 9), (49, vi x20.A), (48, .ref 13 0), (47, .own 9), (0, vi aN), (1, vl eTie aList), (2, vi aA), (3, vi aB), (9, .own 9), (11, vi s12.1), (12, vi s16.1), (13, .ref 13 0), (46, vb x20.Same)], [(9, .arr 2 1 (List.set s16.2 (Int.toNat x20.A) (minI x21 (w64 (x22 + 1)))).length ((List.set s16.2 (Int.toNat x20.A) (minI x21 (w64 (x22 + 1)))).map (eI .i64))), (13, .box [vi x20.A, vi x20.B, vb x20.Same, vs x20.Reason])]⟩) (by kernel_rfl) ?_
  obtain ⟨x25, hx25, h⟩ := bind_some h
  refine DGo.step (x_index_own (d := 9) (L := (List.set s16.2 (Int.toNat x20.A) (minI x21 (w64 (x22 + 1))))) (f := (eI .i64)) (ti := ti50) (tj := ti2) (e := 2) (e' := 2) (m := 1) (k := .i64) tbok rfl hx25) ?_
  refine DGo.step (x_load_own (d := 9) (m := 1) (j := 0) (L := (List.set s16.2 (Int.toNat x20.A) (minI x21 (w64 (x22 + 1))))) (f := (eI .i64)) (ti := ti2) (e := 2) (v := vi x25) tbok rfl hx25) ?_
  refine DGo.chunk' tbok 2 (σ' := ⟨137, [(77, vi (minI x24 (w64 (x25 + 1)))), (76, vi (w64 (x25 + 1))), (75, vi x25), (74, .eref 9 1 (Int.toNat x20.A) 0), (73, vi x20.A), (72, .ref 13 0), (71, .own 9), (70, vi x24), (69, .eref 9 1 (Int.toNat x20.B) 0), (68, vi x20.B), (67, .ref 13 1), (66, .own 9), (65, vi x20.B), (64, .ref 13 1), (63, .own 9), (62, .eref 9 1 (Int.toNat x20.A) 0), (61, vi (minI x21 (w64 (x22 + 1)))), (60, vi (w64 (x22 + 1))), (59, vi x22), (58, .eref 9 1 (Int.toNat x20.B) 0), (57, vi x20.B), (56, .ref 13 1), (55, .own 9), (54, vi x21), (53, .eref 9 1 (Int.toNat x20.A) 0), (52, vi x20.A), (51, .ref 13 0), (50, .own 9), (49, vi x20.A), (48, .ref 13 0), (47, .own 9), (0, vi aN), (1, vl eTie aList), (2, vi aA), (3, vi aB), (9, .own 9), (11, vi s12.1), (12, vi s16.1), (13, .ref 13 0), (46, vb x20.Same)], [(9, .arr 2 1 (List.set s16.2 (Int.toNat x20.A) (minI x21 (w64 (x22 + 1)))).length ((List.set s16.2 (Int.toNat x20.A) (minI x21 (w64 (x22 + 1)))).map (eI .i64))), (13, .box [vi x20.A, vi x20.B, vb x20.Same, vs x20.Reason])]⟩) (by kernel_rfl) ?_
  obtain ⟨x26, hx26, h⟩ := bind_some h
  refine DGo.step (x_index_own (d := 9) (L := (List.set s16.2 (Int.toNat x20.A) (minI x21 (w64 (x22 + 1))))) (f := (eI .i64)) (ti := ti50) (tj := ti2) (e := 2) (e' := 2) (m := 1) (k := .i64) tbok rfl hx26) ?_
  refine DGo.seq (by kernel_rfl) (by kernel_rfl) ?_
  refine SRun.estep (x_store_own (d := 9) (m := 1) (j := 0) (L := (List.set s16.2 (Int.toNat x20.A) (minI x21 (w64 (x22 + 1))))) (f := (eI .i64)) (x := (minI x24 (w64 (x25 + 1)))) (z := x26) (ti := ti2) (e := 2) (ts := [.int .i64 (minI x24 (w64 (x25 + 1)))]) (vs := [vi (minI x24 (w64 (x25 + 1)))]) (v := vi (minI x24 (w64 (x25 + 1)))) tbok rfl rfl hx26) ?_
  refine SRun.nil ?_
  replace h := Option.some.inj h
  subst h
  exact q_bn (q_j (Le.sub0))
  replace h := cond_f hb h
  refine swp_skip ?_
  replace h := Option.some.inj h
  subst h
  exact q_bn (q_j (Le.sub0))
  refine swp_reg ?_
  refine SRun.ck tbok 3 ⟨137, [(0, vi aN), (1, vl eTie aList), (2, vi aA), (3, vi aB), (9, .own 9), (11, vi s12.1), (12, vi (w64 (s16.1 + 1)))], [(9, .arr 2 1 j18.length (j18.map (eI .i64)))]⟩ ?_
  refine SRun.nil ?_
  replace h := Option.some.inj h
  subst h
  exact q_l (Le.sub0)
  replace h := cond_f hb h
  refine swp_exit ?_
  replace h := Option.some.inj h
  subst h
  exact nx_e (q_re (q_bh (q_bn (q_j (Le.sub0)))))
  refine swp_reg ?_
  refine SRun.ck tbok 3 ⟨137, [(0, vi aN), (1, vl eTie aList), (2, vi aA), (3, vi aB), (9, .own 9), (11, vi (w64 (s12.1 + 1)))], [(9, .arr 2 1 j14.length (j14.map (eI .i64)))]⟩ ?_
  refine SRun.nil ?_
  replace h := Option.some.inj h
  subst h
  exact q_l (Le.sub0)
  replace h := cond_f hb h
  refine swp_exit ?_
  replace h := Option.some.inj h
  subst h
  exact nx_e (q_re (q_bh (q_j (Le.sub0))))
  refine swp_seq ?_
  refine swp_reg ?_
  refine SRun.ck tbok 2 ⟨137, [(1, vl eTie aList), (2, vi aA), (3, vi aB), (9, .own 9), (14, .own 79)], [(9, .arr 2 1 j10.length (j10.map (eI .i64))), (79, .arr 2 1 ([] : List Int).length (([] : List Int).map (eI .i64)))]⟩ ?_
  refine SRun.nil ?_
  refine nx_n ?_
  refine swp_seq ?_
  refine swp_seqJ h (fun j27 => ⟨137, [(14, .own 14)], [(14, .arr 2 1 j27.length (j27.map (eI .i64)))]⟩) (fun v28 h => ?_) (fun j27 h => ?_)
  refine swp_blk (a := v28) ?_
  refine swp_lpL (r := v28) (s := (aA, ([] : List Int))) _ (fun s29 => ⟨137, [(1, vl eTie aList), (2, vi s29.1), (3, vi aB), (9, .own 9), (14, .own 14)], [(9, .arr 2 1 j10.length (j10.map (eI .i64))), (14, .arr 2 1 s29.2.length (s29.2.map (eI .i64)))]⟩) _ ((Le.sub' ([(1, vl eTie aList), (2, vi aA), (3, vi aB), (9, .own 9), (14, .own 79)] : List (Nat × SV)) ([(9, .arr 2 1 j10.length (j10.map (eI .i64))), (79, .arr 2 1 ([] : List Int).length (([] : List Int).map (eI .i64)))] : List (Nat × SO)) (by kernel_rfl) (by kernel_rfl)).trans ((Le.ren' (d := 79) (e := 14) (by kernel_rfl) (by kernel_rfl) (by kernel_rfl)).trans (Le.sub0))) h (fun s29 v30 h => ?_)
  refine swp_seq ?_
  refine swp_seq ?_
  refine swp_reg ?_
  refine SRun.ck tbok 3 ⟨137, [(1, vl eTie aList), (2, vi s29.1), (3, vi aB), (9, .own 9), (14, .own 14), (82, vb (s29.1 != aB))], [(9, .arr 2 1 j10.length (j10.map (eI .i64))), (14, .arr 2 1 s29.2.length (s29.2.map (eI .i64)))]⟩ ?_
  refine SRun.nil ?_
  refine nx_n ?_
  refine swp_cond (b := (s29.1 != aB)) (by kernel_rfl) (fun hb => ?_) (fun hb => ?_)
  replace h := cond_t hb h
  refine swp_skip ?_
  refine nx_n ?_
  refine swp_blk (a := v30) ?_
  refine swp_seq ?_
  refine swp_reg ?_
  refine SRun.ck tbok 1 ⟨137, [(1, vl eTie aList), (2, vi s29.1), (3, vi aB), (9, .own 9), (14, .own 14), (15, vi 0)], [(9, .arr 2 1 j10.length (j10.map (eI .i64))), (14, .arr 2 1 s29.2.length (s29.2.map (eI .i64)))]⟩ ?_
  refine SRun.nil ?_
  refine nx_n ?_
  refine swp_blk (a := v30) ?_
  refine swp_lpL (r := v30) (s := (0, s29.1, s29.2)) _ (fun s31 => ⟨137, [(1, vl eTie aList), (2, vi s31.2.1), (3, vi aB), (9, .own 9), (14, .own 14), (15, vi s31.1)], [(9, .arr 2 1 j10.length (j10.map (eI .i64))), (14, .arr 2 1 s31.2.2.length (s31.2.2.map (eI .i64)))]⟩) _ (Le.sub0) h (fun s31 v32 h => ?_)
  refine swp_seq ?_
  refine swp_seq ?_
  refine swp_reg ?_
  refine SRun.ck tbok 4 ⟨137, [(1, vl eTie aList), (2, vi s31.2.1), (3, vi aB), (9, .own 9), (14, .own 14), (15, vi s31.1), (86, vb (decide (s31.1 < (aList.length : Int))))], [(9, .arr 2 1 j10.length (j10.map (eI .i64))), (14, .arr 2 1 s31.2.2.length (s31.2.2.map (eI .i64)))]⟩ ?_
  refine SRun.nil ?_
  refine nx_n ?_
  refine swp_cond (b := (decide (s31.1 < (aList.length : Int)))) (by kernel_rfl) (fun hb => ?_) (fun hb => ?_)
  replace h := cond_t hb h
  refine swp_skip ?_
  refine nx_n ?_
  refine swp_seq ?_
  refine swp_seqL (r := v32) h (fun j33 => ⟨137, [(1, vl eTie aList), (2, vi j33.1), (3, vi aB), (9, .own 9), (14, .own 14), (15, vi s31.1)], [(9, .arr 2 1 j10.length (j10.map (eI .i64))), (14, .arr 2 1 j33.2.length (j33.2.map (eI .i64)))]⟩) (fun v34 h => ?_) (fun j33 h => ?_)
  refine swp_blk (a := v34) ?_
  refine swp_seq ?_
  refine swp_reg ?_
  refine SRun.ck tbok 2 ⟨137, [(1, vl eTie aList), (2, vi s31.2.1), (3, vi aB), (9, .own 9), (14, .own 14), (15, vi s31.1), (89, vl eTie aList), (90, vi s31.1)], [(9, .arr 2 1 j10.length (j10.map (eI .i64))), (14, .arr 2 1 s31.2.2.length (s31.2.2.map (eI .i64)))]⟩ ?_
  obtain ⟨x35, hx35, h⟩ := bind_some h
  refine SRun.ls (x_index (L := aList) (f := eTie) (ti := ti25) (tj := ti42) (e := 42) (k := .i64) tbok rfl hx35) ?_
  refine SRun.ck tbok 2 ⟨137, [(1, vl eTie aList), (2, vi s31.2.1), (3, vi aB), (9, .own 9), (14, .own 14), (15, vi s31.1), (16, .ref 16 0), (92, .agg [vi x35.A, vi x35.B, vb x35.Same, vs x35.Reason])], [(9, .arr 2 1 j10.length (j10.map (eI .i64))), (14, .arr 2 1 s31.2.2.length (s31.2.2.map (eI .i64))), (16, .box [vi 0, vi 0, vb false, vs (ByteArray.mk #[])])]⟩ ?_
  refine SRun.estep (x_estep_store (d := 16) (k := 0) (ti := ti42) (cs := [vi 0, vi 0, vb false, vs (ByteArray.mk #[])]) (vs := [vi x35.A, vi x35.B, vb x35.Same, vs x35.Reason]) (v := .agg [vi x35.A, vi x35.B, vb x35.Same, vs x35.Reason]) tbok rfl rfl) ?_
  refine SRun.nil ?_
  refine nx_n ?_
  refine swp_seq ?_
  refine swp_drJ mixed h (fun j40 => ⟨137, [(1, vl eTie aList), (2, vi s31.2.1), (3, vi aB), (9, .own 9), (14, .own 14), (15, vi s31.1), (16, .ref 16 0), (124, vb j40)], [(9, .arr 2 1 j10.length (j10.map (eI .i64))), (14, .arr 2 1 s31.2.2.length (s31.2.2.map (eI .i64))), (16, .box [vi x35.A, vi x35.B, vb x35.Same, vs x35.Reason])]⟩) (fun v41 h => ?_) (fun j40 h => ?_)
  refine DGo.chunk' tbok 3 (σ' := ⟨137, [(95, vb x35.Same), (94, vb x35.Same), (93, .ref 16 2), (1, vl eTie aList), (2, vi s31.2.1), (3, vi aB), (9, .own 9), (14, .own 14), (15, vi s31.1), (16, .ref 16 0), (92, .agg [vi x35.A, vi x35.B, vb x35.Same, vs x35.Reason])], [(16, .box [vi x35.A, vi x35.B, vb x35.Same, vs x35.Reason]), (9, .arr 2 1 j10.length (j10.map (eI .i64))), (14, .arr 2 1 s31.2.2.length (s31.2.2.map (eI .i64)))]⟩) (by kernel_rfl) ?_
  refine DGo.cut [(95, fun b => b), (94, fun b => b)] (b := x35.Same) (by kernel_rfl) (fun hb => ?_) (fun hb => ?_)
  replace h := cond_t hb h
  refine DGo.chunk' tbok 5 (σ' := ⟨137, [(100, vb (x35.A == s31.2.1)), (99, vb (x35.A == s31.2.1)), (98, vi s31.2.1), (97, vi x35.A), (96, .ref 16 0), (95, vb true), (94, vb true), (93, .ref 16 2), (1, vl eTie aList), (2, vi s31.2.1), (3, vi aB), (9, .own 9), (14, .own 14), (15, vi s31.1), (16, .ref 16 0), (92, .agg [vi x35.A, vi x35.B, vb x35.Same, vs x35.Reason])], [(16, .box [vi x35.A, vi x35.B, vb x35.Same, vs x35.Reason]), (9, .arr 2 1 j10.length (j10.map (eI .i64))), (14, .arr 2 1 s31.2.2.length (s31.2.2.map (eI .i64)))]⟩) (by kernel_rfl) ?_
  refine DGo.cut [(100, fun b => b), (99, fun b => b)] (b := (x35.A == s31.2.1)) (by kernel_rfl) (fun hb => ?_) (fun hb => ?_)
  replace h := cond_t hb h
  refine DGo.chunk' tbok 15 (σ' := ⟨137, [(115, vi (w64 ((w64 (x35.A + x35.B)) - s31.2.1))), (114, vi s31.2.1), (113, vi (w64 (x35.A + x35.B))), (112, vi x35.B), (111, .ref 16 1), (110, vi x35.A), (109, .ref 16 0), (108, .own 9), (107, vb true), (106, vb true), (105, vb true), (104, .tup []), (103, .tup []), (102, .tup []), (101, .tup []), (100, vb true), (99, vb true), (98, vi s31.2.1), (97, vi x35.A), (96, .ref 16 0), (95, vb true), (94, vb true), (93, .ref 16 2), (1, vl eTie aList), (2, vi s31.2.1), (3, vi aB), (9, .own 9), (14, .own 14), (15, vi s31.1), (16, .ref 16 0), (92, .agg [vi x35.A, vi x35.B, vb x35.Same, vs x35.Reason])], [(16, .box [vi x35.A, vi x35.B, vb x35.Same, vs x35.Reason]), (9, .arr 2 1 j10.length (j10.map (eI .i64))), (14, .arr 2 1 s31.2.2.length (s31.2.2.map (eI .i64)))]⟩) (by kernel_rfl) ?_
  obtain ⟨x36, hx36, h⟩ := bind_some h
  refine DGo.step (x_index_own (d := 9) (L := j10) (f := (eI .i64)) (ti := ti50) (tj := ti2) (e := 2) (e' := 2) (m := 1) (k := .i64) tbok rfl hx36) ?_
  refine DGo.step (x_load_own (d := 9) (m := 1) (j := 0) (L := j10) (f := (eI .i64)) (ti := ti2) (e := 2) (v := vi x36) tbok rfl hx36) ?_
  refine DGo.chunk' tbok 2 (σ' := ⟨137, [(119, vi s31.2.1), (118, .own 9), (117, vi x36), (116, .eref 9 1 (Int.toNat (w64 ((w64 (x35.A + x35.B)) - s31.2.1))) 0), (115, vi (w64 ((w64 (x35.A + x35.B)) - s31.2.1))), (114, vi s31.2.1), (113, vi (w64 (x35.A + x35.B))), (112, vi x35.B), (111, .ref 16 1), (110, vi x35.A), (109, .ref 16 0), (108, .own 9), (107, vb true), (106, vb true), (105, vb true), (104, .tup []), (103, .tup []), (102, .tup []), (101, .tup []), (100, vb true), (99, vb true), (98, vi s31.2.1), (97, vi x35.A), (96, .ref 16 0), (95, vb true), (94, vb true), (93, .ref 16 2), (1, vl eTie aList), (2, vi s31.2.1), (3, vi aB), (9, .own 9), (14, .own 14), (15, vi s31.1), (16, .ref 16 0), (92, .agg [vi x35.A, vi x35.B, vb x35.Same, vs x35.Reason])], [(16, .box [vi x35.A, vi x35.B, vb x35.Same, vs x35.Reason]), (9, .arr 2 1 j10.length (j10.map (eI .i64))), (14, .arr 2 1 s31.2.2.length (s31.2.2.map (eI .i64)))]⟩) (by kernel_rfl) ?_
  obtain ⟨x37, hx37, h⟩ := bind_some h
  refine DGo.step (x_index_own (d := 9) (L := j10) (f := (eI .i64)) (ti := ti50) (tj := ti2) (e := 2) (e' := 2) (m := 1) (k := .i64) tbok rfl hx37) ?_
  refine DGo.step (x_load_own (d := 9) (m := 1) (j := 0) (L := j10) (f := (eI .i64)) (ti := ti2) (e := 2) (v := vi x37) tbok rfl hx37) ?_
  refine DGo.chunk' tbok 3 (σ' := ⟨137, [(124, vb (x36 == (w64 (x37 - 1)))), (123, vb (x36 == (w64 (x37 - 1)))), (122, vi (w64 (x37 - 1))), (121, vi x37), (120, .eref 9 1 (Int.toNat s31.2.1) 0), (119, vi s31.2.1), (118, .own 9), (117, vi x36), (116, .eref 9 1 (Int.toNat (w64 ((w64 (x35.A + x35.B)) - s31.2.1))) 0), (115, vi (w64 ((w64 (x35.A + x35.B)) - s31.2.1))), (114, vi s31.2.1), (113, vi (w64 (x35.A + x35.B))), (112, vi x35.B), (111, .ref 16 1), (110, vi x35.A), (109, .ref 16 0), (108, .own 9), (107, vb true), (106, vb true), (105, vb true), (104, .tup []), (103, .tup []), (102, .tup []), (101, .tup []), (100, vb true), (99, vb true), (98, vi s31.2.1), (97, vi x35.A), (96, .ref 16 0), (95, vb true), (94, vb true), (93, .ref 16 2), (1, vl eTie aList), (2, vi s31.2.1), (3, vi aB), (9, .own 9), (14, .own 14), (15, vi s31.1), (16, .ref 16 0), (92, .agg [vi x35.A, vi x35.B, vb x35.Same, vs x35.Reason])], [(16, .box [vi x35.A, vi x35.B, vb x35.Same, vs x35.Reason]), (9, .arr 2 1 j10.length (j10.map (eI .i64))), (14, .arr 2 1 s31.2.2.length (s31.2.2.map (eI .i64)))]⟩) (by kernel_rfl) ?_
  refine DGo.nil (by kernel_rfl) ?_
  replace h := Option.some.inj h
  subst h
  exact Le.sub0
  replace h := cond_f hb h
  refine DGo.chunk' tbok 7 (σ' := ⟨137, [(107, vb (x35.B == s31.2.1)), (106, vb (x35.B == s31.2.1)), (105, vb (x35.B == s31.2.1)), (104, vb (x35.B == s31.2.1)), (103, vi s31.2.1), (102, vi x35.B), (101, .ref 16 1), (100, vb false), (99, vb false), (98, vi s31.2.1), (97, vi x35.A), (96, .ref 16 0), (95, vb true), (94, vb true), (93, .ref 16 2), (1, vl eTie aList), (2, vi s31.2.1), (3, vi aB), (9, .own 9), (14, .own 14), (15, vi s31.1), (16, .ref 16 0), (92, .agg [vi x35.A, vi x35.B, vb x35.Same, vs x35.Reason])], [(16, .box [vi x35.A, vi x35.B, vb x35.Same, vs x35.Reason]), (9, .arr 2 1 j10.length (j10.map (eI .i64))), (14, .arr 2 1 s31.2.2.length (s31.2.2.map (eI .i64)))]⟩) (by kernel_rfl) ?_
  refine DGo.cut [(107, fun b => b), (106, fun b => b), (105, fun b => b), (104, fun b => b)] (b := (x35.B == s31.2.1)) (by kernel_rfl) (fun hb => ?_) (fun hb => ?_)
  replace h := cond_t hb h
  refine DGo.chunk' tbok 8 (σ' := ⟨137, [(115, vi (w64 ((w64 (x35.A + x35.B)) - s31.2.1))), (114, vi s31.2.1), (113, vi (w64 (x35.A + x35.B))), (112, vi x35.B), (111, .ref 16 1), (110, vi x35.A), (109, .ref 16 0), (108, .own 9), (107, vb true), (106, vb true), (105, vb true), (104, vb true), (103, vi s31.2.1), (102, vi x35.B), (101, .ref 16 1), (100, vb false), (99, vb false), (98, vi s31.2.1), (97, vi x35.A), (96, .ref 16 0), (95, vb true), (94, vb true), (93, .ref 16 2), (1, vl eTie aList), (2, vi s31.2.1), (3, vi aB), (9, .own 9), (14, .own 14), (15, vi s31.1), (16, .ref 16 0), (92, .agg [vi x35.A, vi x35.B, vb x35.Same, vs x35.Reason])], [(16, .box [vi x35.A, vi x35.B, vb x35.Same, vs x35.Reason]), (9, .arr 2 1 j10.length (j10.map (eI .i64))), (14, .arr 2 1 s31.2.2.length (s31.2.2.map (eI .i64)))]⟩) (by kernel_rfl) ?_
  obtain ⟨x38, hx38, h⟩ := bind_some h
  refine DGo.step (x_index_own (d := 9) (L := j10) (f := (eI .i64)) (ti := ti50) (tj := ti2) (e := 2) (e' := 2) (m := 1) (k := .i64) tbok rfl hx38) ?_
  refine DGo.step (x_load_own (d := 9) (m := 1) (j := 0) (L := j10) (f := (eI .i64)) (ti := ti2) (e := 2) (v := vi x38) tbok rfl hx38) ?_
  refine DGo.chunk' tbok 2 (σ' := ⟨137, [(119, vi s31.2.1), (118, .own 9), (117, vi x38), (116, .eref 9 1 (Int.toNat (w64 ((w64 (x35.A + x35.B)) - s31.2.1))) 0), (115, vi (w64 ((w64 (x35.A + x35.B)) - s31.2.1))), (114, vi s31.2.1), (113, vi (w64 (x35.A + x35.B))), (112, vi x35.B), (111, .ref 16 1), (110, vi x35.A), (109, .ref 16 0), (108, .own 9), (107, vb true), (106, vb true), (105, vb true), (104, vb true), (103, vi s31.2.1), (102, vi x35.B), (101, .ref 16 1), (100, vb false), (99, vb false), (98, vi s31.2.1), (97, vi x35.A), (96, .ref 16 0), (95, vb true), (94, vb true), (93, .ref 16 2), (1, vl eTie aList), (2, vi s31.2.1), (3, vi aB), (9, .own 9), (14, .own 14), (15, vi s31.1), (16, .ref 16 0), (92, .agg [vi x35.A, vi x35.B, vb x35.Same, vs x35.Reason])], [(16, .box [vi x35.A, vi x35.B, vb x35.Same, vs x35.Reason]), (9, .arr 2 1 j10.length (j10.map (eI .i64))), (14, .arr 2 1 s31.2.2.length (s31.2.2.map (eI .i64)))]⟩) (by kernel_rfl) ?_
  obtain ⟨x39, hx39, h⟩ := bind_some h
  refine DGo.step (x_index_own (d := 9) (L := j10) (f := (eI .i64)) (ti := ti50) (tj := ti2) (e := 2) (e' := 2) (m := 1) (k := .i64) tbok rfl hx39) ?_
  refine DGo.step (x_load_own (d := 9) (m := 1) (j := 0) (L := j10) (f := (eI .i64)) (ti := ti2) (e := 2) (v := vi x39) tbok rfl hx39) ?_
  refine DGo.chunk' tbok 3 (σ' := ⟨137, [(124, vb (x38 == (w64 (x39 - 1)))), (123, vb (x38 == (w64 (x39 - 1)))), (122, vi (w64 (x39 - 1))), (121, vi x39), (120, .eref 9 1 (Int.toNat s31.2.1) 0), (119, vi s31.2.1), (118, .own 9), (117, vi x38), (116, .eref 9 1 (Int.toNat (w64 ((w64 (x35.A + x35.B)) - s31.2.1))) 0), (115, vi (w64 ((w64 (x35.A + x35.B)) - s31.2.1))), (114, vi s31.2.1), (113, vi (w64 (x35.A + x35.B))), (112, vi x35.B), (111, .ref 16 1), (110, vi x35.A), (109, .ref 16 0), (108, .own 9), (107, vb true), (106, vb true), (105, vb true), (104, vb true), (103, vi s31.2.1), (102, vi x35.B), (101, .ref 16 1), (100, vb false), (99, vb false), (98, vi s31.2.1), (97, vi x35.A), (96, .ref 16 0), (95, vb true), (94, vb true), (93, .ref 16 2), (1, vl eTie aList), (2, vi s31.2.1), (3, vi aB), (9, .own 9), (14, .own 14), (15, vi s31.1), (16, .ref 16 0), (92, .agg [vi x35.A, vi x35.B, vb x35.Same, vs x35.Reason])], [(16, .box [vi x35.A, vi x35.B, vb x35.Same, vs x35.Reason]), (9, .arr 2 1 j10.length (j10.map (eI .i64))), (14, .arr 2 1 s31.2.2.length (s31.2.2.map (eI .i64)))]⟩) (by kernel_rfl) ?_
  refine DGo.nil (by kernel_rfl) ?_
  replace h := Option.some.inj h
  subst h
  exact Le.sub0
  replace h := cond_f hb h
  refine DGo.chunk' tbok 17 (σ' := ⟨137, [(124, vb false), (123, .tup []), (122, .tup []), (121, .tup []), (120, .tup []), (119, .tup []), (118, .tup []), (117, .tup []), (116, .tup []), (115, .tup []), (114, .tup []), (113, .tup []), (112, .tup []), (111, .tup []), (110, .tup []), (109, .tup []), (108, .tup []), (107, vb false), (106, vb false), (105, vb false), (104, vb false), (103, vi s31.2.1), (102, vi x35.B), (101, .ref 16 1), (100, vb false), (99, vb false), (98, vi s31.2.1), (97, vi x35.A), (96, .ref 16 0), (95, vb true), (94, vb true), (93, .ref 16 2), (1, vl eTie aList), (2, vi s31.2.1), (3, vi aB), (9, .own 9), (14, .own 14), (15, vi s31.1), (16, .ref 16 0), (92, .agg [vi x35.A, vi x35.B, vb x35.Same, vs x35.Reason])], [(16, .box [vi x35.A, vi x35.B, vb x35.Same, vs x35.Reason]), (9, .arr 2 1 j10.length (j10.map (eI .i64))), (14, .arr 2 1 s31.2.2.length (s31.2.2.map (eI .i64)))]⟩) (by kernel_rfl) ?_
  refine DGo.nil (by kernel_rfl) ?_
  replace h := Option.some.inj h
  subst h
  exact Le.sub0
  replace h := cond_f hb h
  refine DGo.chunk' tbok 29 (σ' := ⟨137, [(124, vb false), (123, .tup []), (122, .tup []), (121, .tup []), (120, .tup []), (119, .tup []), (118, .tup []), (117, .tup []), (116, .tup []), (115, .tup []), (114, .tup []), (113, .tup []), (112, .tup []), (111, .tup []), (110, .tup []), (109, .tup []), (108, .tup []), (107, vb false), (106, vb false), (105, .tup []), (104, .tup []), (103, .tup []), (102, .tup []), (101, .tup []), (100, .tup []), (99, .tup []), (98, .tup []), (97, .tup []), (96, .tup []), (95, vb false), (94, vb false), (93, .ref 16 2), (1, vl eTie aList), (2, vi s31.2.1), (3, vi aB), (9, .own 9), (14, .own 14), (15, vi s31.1), (16, .ref 16 0), (92, .agg [vi x35.A, vi x35.B, vb x35.Same, vs x35.Reason])], [(16, .box [vi x35.A, vi x35.B, vb x35.Same, vs x35.Reason]), (9, .arr 2 1 j10.length (j10.map (eI .i64))), (14, .arr 2 1 s31.2.2.length (s31.2.2.map (eI .i64)))]⟩) (by kernel_rfl) ?_
  refine DGo.nil (by kernel_rfl) ?_
  replace h := Option.some.inj h
  subst h
  exact Le.sub0
  refine swp_cond (b := j40) (by kernel_rfl) (fun hb => ?_) (fun hb => ?_)
  replace h := cond_t hb h
  refine swp_seq ?_
  refine swp_reg ?_
  refine SRun.ck tbok 3 ⟨137, [(1, vl eTie aList), (2, vi s31.2.1), (3, vi aB), (9, .own 9), (16, .ref 16 0), (125, .own 14), (127, .own 127)], [(9, .arr 2 1 j10.length (j10.map (eI .i64))), (14, .arr 2 1 s31.2.2.length (s31.2.2.map (eI .i64))), (16, .box [vi x35.A, vi x35.B, vb x35.Same, vs x35.Reason]), (127, .arr 2 1 ([s31.1] : List Int).length (([s31.1] : List Int).map (eI .i64)))]⟩ ?_
  obtain ⟨x42, hx42, h⟩ := bind_some h
  refine SRun.estep (x_append (f := (eI .i64)) (t := 50) (ti := ti50) (tj := ti2) (zs := [.int .i64 0]) (e := 2) (m := 1) (d := 14) (xv := .own 127) hx42 tbok rfl rfl rfl rfl (x_src_o (e := 2))) ?_
  refine SRun.ck tbok 1 ⟨137, [(1, vl eTie aList), (2, vi s31.2.1), (3, vi aB), (9, .own 9), (14, .own 128), (16, .ref 16 0)], [(9, .arr 2 1 j10.length (j10.map (eI .i64))), (16, .box [vi x35.A, vi x35.B, vb x35.Same, vs x35.Reason]), (128, .arr 2 1 x42.length (x42.map (eI .i64)))]⟩ ?_
  refine SRun.nil ?_
  refine nx_n ?_
  refine swp_seq ?_
  refine swp_reg ?_
  refine SRun.ck tbok 8 ⟨137, [(1, vl eTie aList), (2, vi (w64 ((w64 (x35.A + x35.B)) - s31.2.1))), (3, vi aB), (9, .own 9), (14, .own 128)], [(9, .arr 2 1 j10.length (j10.map (eI .i64))), (128, .arr 2 1 x42.length (x42.map (eI .i64)))]⟩ ?_
  refine SRun.nil ?_
  refine nx_n ?_
  refine swp_exit ?_
  replace h := Option.some.inj h
  subst h
  exact q_bm rfl (q_re (q_re (q_bh (q_bn (q_l ((Le.sub' ([(1, vl eTie aList), (2, vi (w64 ((w64 (x35.A + x35.B)) - s31.2.1))), (3, vi aB), (9, .own 9), (14, .own 128)] : List (Nat × SV)) ([(9, .arr 2 1 j10.length (j10.map (eI .i64))), (128, .arr 2 1 x42.length (x42.map (eI .i64)))] : List (Nat × SO)) (by kernel_rfl) (by kernel_rfl)).trans ((Le.ren' (d := 128) (e := 14) (by kernel_rfl) (by kernel_rfl) (by kernel_rfl)).trans (Le.sub0))))))))
  replace h := cond_f hb h
  refine swp_skip ?_
  replace h := Option.some.inj h
  subst h
  exact q_bn (q_l (Le.sub0))
  refine swp_reg ?_
  refine SRun.ck tbok 3 ⟨137, [(1, vl eTie aList), (2, vi j33.1), (3, vi aB), (9, .own 9), (14, .own 14), (15, vi (w64 (s31.1 + 1)))], [(9, .arr 2 1 j10.length (j10.map (eI .i64))), (14, .arr 2 1 j33.2.length (j33.2.map (eI .i64)))]⟩ ?_
  refine SRun.nil ?_
  replace h := Option.some.inj h
  subst h
  exact q_l (Le.sub0)
  replace h := cond_f hb h
  refine swp_exit ?_
  replace h := Option.some.inj h
  subst h
  exact nx_e (q_re (q_bh (q_bn (q_l (Le.sub0)))))
  replace h := cond_f hb h
  refine swp_exit ?_
  replace h := Option.some.inj h
  subst h
  exact nx_e (q_re (q_bh (q_j (Le.sub0))))
  refine swp_seq ?_
  refine swp_reg ?_
  refine SRun.ck tbok 2 ⟨137, [(8, .own 14)], [(14, .arr 2 1 j27.length (j27.map (eI .i64)))]⟩ ?_
  refine SRun.nil ?_
  refine nx_n ?_
  refine swp_ret ?_
  replace h := Option.some.inj h
  subst h
  exact q_fr (fin1 (by kernel_rfl) (finO (d := 14) (holds_t (by kernel_rfl)) (by kernel_rfl) (flat_map (eI_flat .i64) _) (by kernel_rfl)))
theorem ents72 : Ents Tryd.prog 72 := ents_of Tryd.func72 (by kernel_rfl) rfl
noncomputable def spec_ProofOf (aN : Int) (aList : (List Tie)) (aA : Int) (aB : Int) : Option ((List Int) × Int) :=
  ((spec_l31Code aN aList aA aB).bind fun x1 => (((bif (x1 == 0) then ((spec_l31Group aN aList aA).bind fun x2 => ((spec_l01Has x2 aB).bind fun x3 => some (!x3))) else some false)).bind fun (j4 : Bool) => (((bif j4 then some 4 else some x1)).bind fun (j6 : Int) => (bif (j6 != 0) then some (([] : List Int), j6) else ((spec_l31Proof aN aList aA aB).bind fun x8 => some (x8, 0))))))
set_option maxRecDepth 100000 in
set_option maxHeartbeats 4000000 in
theorem spec_ProofOf_run (aN : Int) (aList : (List Tie)) (aA : Int) (aB : Int) (r : (List Int) × Int) (h : spec_ProofOf aN aList aA aB = some r) : SCall Tryd.prog 43 [.v (vi aN), .v (vl eTie aList), .v (vi aA), .v (vi aB)] ⟨[.own 2 1 r.1.length (r.1.map (eI .i64)), .v (vi r.2)], [], false⟩ := by
  refine scall_in Tryd.func43 rfl [(.tmp 8), (.tmp 9)] rfl (fun r => ⟨[.own 2 1 r.1.length (r.1.map (eI .i64)), .v (vi r.2)], [], false⟩) (r := r) ?_
  unfold spec_ProofOf at h
  refine swp_seq ?_
  refine swp_reg ?_
  refine SRun.ck tbok 2 ⟨35, [(0, vi aN), (1, vl eTie aList), (2, vi aA), (3, vi aB)], []⟩ ?_
  refine SRun.nil ?_
  refine nx_n ?_
  refine swp_seq ?_
  refine swp_reg ?_
  refine SRun.ck tbok 4 ⟨35, [(0, vi aN), (1, vl eTie aList), (2, vi aA), (3, vi aB), (11, vi aN), (12, vl eTie aList), (13, vi aA), (14, vi aB)], []⟩ ?_
  obtain ⟨x1, hx1, h⟩ := bind_some h
  refine SRun.ls (x_lstep_call (f := 67) (caps := []) (xs := [vi aN, vl eTie aList, vi aA, vi aB]) (ys := [vi aN, vl eTie aList, vi aA, vi aB]) (res := ⟨[.v (vi x1)], [], false⟩) (x := vi x1) (y := none) rfl ents67 (spec_l31Code_run aN aList aA aB _ hx1) rfl (by intro hc; cases hc)) ?_
  refine SRun.ck tbok 1 ⟨35, [(0, vi aN), (1, vl eTie aList), (2, vi aA), (3, vi aB), (10, vi x1)], []⟩ ?_
  refine SRun.nil ?_
  refine nx_n ?_
  refine swp_seq ?_
  refine swp_seq ?_
  refine swp_regJ h (fun j4 => ⟨35, [(0, vi aN), (1, vl eTie aList), (2, vi aA), (3, vi aB), (10, vi x1), (26, vb j4)], []⟩) (fun v5 h => ?_) (fun j4 h => ?_)
  refine SRun.ck tbok 3 ⟨35, [(0, vi aN), (1, vl eTie aList), (2, vi aA), (3, vi aB), (10, vi x1), (18, vb (x1 == 0))], []⟩ ?_
  refine SRun.cut [(18, fun b => b)] (b := (x1 == 0)) (by kernel_rfl) (fun hb => ?_) (fun hb => ?_)
  replace h := cond_t hb h
  refine SRun.ck tbok 3 ⟨35, [(0, vi aN), (1, vl eTie aList), (2, vi aA), (3, vi aB), (10, vi x1), (18, vb true), (19, vi aN), (20, vl eTie aList), (21, vi aA)], []⟩ ?_
  obtain ⟨x2, hx2, h⟩ := bind_some h
  refine SRun.ls (x_lstep_call (f := 75) (caps := []) (xs := [vi aN, vl eTie aList, vi aA]) (ys := [vi aN, vl eTie aList, vi aA]) (res := ⟨[.own 2 1 x2.length (x2.map (eI .i64))], [], false⟩) (x := .own 22) (y := some (.arr 2 1 x2.length (x2.map (eI .i64)))) rfl ents75 (spec_l31Group_run aN aList aA _ hx2) rfl (by intro hc; cases hc)) ?_
  refine SRun.ck tbok 1 ⟨35, [(0, vi aN), (1, vl eTie aList), (2, vi aA), (3, vi aB), (10, vi x1), (18, vb true), (22, .own 22), (23, vi aB)], [(22, .arr 2 1 x2.length (x2.map (eI .i64)))]⟩ ?_
  obtain ⟨x3, hx3, h⟩ := bind_some h
  refine SRun.ls (x_lstep_call (f := 74) (caps := []) (xs := [.own 22, vi aB]) (ys := [vl (eI .i64) x2, vi aB]) (res := ⟨[.v (vb x3)], [], false⟩) (x := vb x3) (y := none) rfl ents74 (spec_l01Has_run x2 aB _ hx3) rfl (by intro hc; cases hc)) ?_
  refine SRun.ck tbok 2 ⟨35, [(0, vi aN), (1, vl eTie aList), (2, vi aA), (3, vi aB), (10, vi x1), (26, vb (!x3))], []⟩ ?_
  refine SRun.nil ?_
  replace h := Option.some.inj h
  subst h
  exact Le.sub0
  replace h := cond_f hb h
  refine SRun.ck tbok 8 ⟨35, [(0, vi aN), (1, vl eTie aList), (2, vi aA), (3, vi aB), (10, vi x1), (26, vb false)], []⟩ ?_
  refine SRun.nil ?_
  replace h := Option.some.inj h
  subst h
  exact Le.sub0
  refine swp_seqJ h (fun j6 => ⟨35, [(0, vi aN), (1, vl eTie aList), (2, vi aA), (3, vi aB), (10, vi j6)], []⟩) (fun v7 h => ?_) (fun j6 h => ?_)
  refine swp_cond (b := j4) (by kernel_rfl) (fun hb => ?_) (fun hb => ?_)
  replace h := cond_t hb h
  refine swp_reg ?_
  refine SRun.ck tbok 1 ⟨35, [(0, vi aN), (1, vl eTie aList), (2, vi aA), (3, vi aB), (10, vi 4)], []⟩ ?_
  refine SRun.nil ?_
  replace h := Option.some.inj h
  subst h
  exact q_j (Le.sub0)
  replace h := cond_f hb h
  refine swp_skip ?_
  replace h := Option.some.inj h
  subst h
  exact q_j (Le.sub0)
  refine swp_seq ?_
  refine swp_seq ?_
  refine swp_reg ?_
  refine SRun.ck tbok 2 ⟨35, [(0, vi aN), (1, vl eTie aList), (2, vi aA), (3, vi aB), (10, vi j6), (28, vb (j6 != 0))], []⟩ ?_
  refine SRun.nil ?_
  refine nx_n ?_
  refine swp_cond (b := (j6 != 0)) (by kernel_rfl) (fun hb => ?_) (fun hb => ?_)
  replace h := cond_t hb h
  refine swp_seq ?_
  refine swp_reg ?_
  refine SRun.ck tbok 3 ⟨35, [(8, .own 8), (9, vi j6)], [(8, .arr 2 1 ([] : List Int).length (([] : List Int).map (eI .i64)))]⟩ ?_
  refine SRun.nil ?_
  refine nx_n ?_
  refine swp_ret ?_
  replace h := Option.some.inj h
  subst h
  exact nx_r (q_fr (fin2 (by kernel_rfl) (finO (d := 8) (holds_t (by kernel_rfl)) (by kernel_rfl) (flat_map (eI_flat .i64) _) (by kernel_rfl)) (finV rfl SV.flat_of (holds_t (by kernel_rfl)))))
  replace h := cond_f hb h
  refine swp_skip ?_
  refine nx_n ?_
  refine swp_seq ?_
  refine swp_reg ?_
  refine SRun.ck tbok 4 ⟨35, [(30, vi aN), (31, vl eTie aList), (32, vi aA), (33, vi aB)], []⟩ ?_
  obtain ⟨x8, hx8, h⟩ := bind_some h
  refine SRun.ls (x_lstep_call (f := 72) (caps := []) (xs := [vi aN, vl eTie aList, vi aA, vi aB]) (ys := [vi aN, vl eTie aList, vi aA, vi aB]) (res := ⟨[.own 2 1 x8.length (x8.map (eI .i64))], [], false⟩) (x := .own 34) (y := some (.arr 2 1 x8.length (x8.map (eI .i64)))) rfl ents72 (spec_l31Proof_run aN aList aA aB _ hx8) rfl (by intro hc; cases hc)) ?_
  refine SRun.ck tbok 2 ⟨35, [(8, .own 34), (9, vi 0)], [(34, .arr 2 1 x8.length (x8.map (eI .i64)))]⟩ ?_
  refine SRun.nil ?_
  refine nx_n ?_
  refine swp_ret ?_
  replace h := Option.some.inj h
  subst h
  exact q_fr (fin2 (by kernel_rfl) (finO (d := 34) (holds_t (by kernel_rfl)) (by kernel_rfl) (flat_map (eI_flat .i64) _) (by kernel_rfl)) (finV rfl SV.flat_of (holds_t (by kernel_rfl))))
theorem ents43 : Ents Tryd.prog 43 := ents_of Tryd.func43 (by kernel_rfl) rfl
noncomputable def impl_length_Tie (aList : (List Tie)) : Option (Int) :=
  some (aList.length : Int)
set_option maxRecDepth 100000 in
set_option maxHeartbeats 4000000 in
theorem impl_length_Tie_run (aList : (List Tie)) (r : Int) (h : impl_length_Tie aList = some r) : SCall Tryd.prog 84 [.v (vl eTie aList)] ⟨[.v (vi r)], [], false⟩ := by
  refine scall_in Tryd.func84 rfl [(.tmp 2)] rfl (fun r => ⟨[.v (vi r)], [], false⟩) (r := r) ?_
  unfold impl_length_Tie at h
  refine swp_seq ?_
  refine swp_reg ?_
  refine SRun.ck tbok 1 ⟨5, [(0, vl eTie aList)], []⟩ ?_
  refine SRun.nil ?_
  refine nx_n ?_
  refine swp_seq ?_
  refine swp_reg ?_
  refine SRun.ck tbok 3 ⟨5, [(2, vi (aList.length : Int))], []⟩ ?_
  refine SRun.nil ?_
  refine nx_n ?_
  refine swp_ret ?_
  replace h := Option.some.inj h
  subst h
  exact q_fr (fin1 (by kernel_rfl) (finV rfl SV.flat_of (holds_t (by kernel_rfl))))
theorem ents84 : Ents Tryd.prog 84 := ents_of Tryd.func84 (by kernel_rfl) rfl
noncomputable def impl_tieCode (aN : Int) (aList : (List Tie)) (aIndex : Int) : Option (Int) :=
  ((((impl_AreTies aN aList).bind fun x3 => (bif (!x3) then some (.inr 1) else ((impl_length_Tie aList).bind fun x4 => ((impl_within aIndex 0 (w64 (x4 - 1))).bind fun x5 => (bif (!x5) then some (.inr 2) else some (.inl ()))))))).bind (Sum.elim (fun (_ : Unit) => some 0) some))
set_option maxRecDepth 100000 in
set_option maxHeartbeats 4000000 in
theorem impl_tieCode_run (aN : Int) (aList : (List Tie)) (aIndex : Int) (r : Int) (h : impl_tieCode aN aList aIndex = some r) : SCall Tryd.prog 62 [.v (vi aN), .v (vl eTie aList), .v (vi aIndex)] ⟨[.v (vi r)], [], false⟩ := by
  refine scall_in Tryd.func62 rfl [(.tmp 6)] rfl (fun r => ⟨[.v (vi r)], [], false⟩) (r := r) ?_
  unfold impl_tieCode at h
  refine swp_seq ?_
  refine swp_reg ?_
  refine SRun.ck tbok 1 ⟨19, [(0, vi aN), (1, vl eTie aList), (2, vi aIndex)], []⟩ ?_
  refine SRun.nil ?_
  refine nx_n ?_
  refine swp_seq ?_
  refine swp_seqE (r := r) h (fun j1 => ⟨19, [], []⟩) (fun v2 h => ?_) (fun j1 h => ?_)
  refine swp_blk (a := v2) ?_
  refine swp_seq ?_
  refine swp_reg ?_
  refine SRun.ck tbok 2 ⟨19, [(1, vl eTie aList), (2, vi aIndex), (8, vi aN), (9, vl eTie aList)], []⟩ ?_
  obtain ⟨x3, hx3, h⟩ := bind_some h
  refine SRun.ls (x_lstep_call (f := 17) (caps := []) (xs := [vi aN, vl eTie aList]) (ys := [vi aN, vl eTie aList]) (res := ⟨[.v (vb x3)], [], false⟩) (x := vb x3) (y := none) rfl ents17 (impl_AreTies_run aN aList _ hx3) rfl (by intro hc; cases hc)) ?_
  refine SRun.ck tbok 2 ⟨19, [(1, vl eTie aList), (2, vi aIndex), (7, vb (!x3))], []⟩ ?_
  refine SRun.nil ?_
  refine nx_n ?_
  refine swp_cond (b := (!x3)) (by kernel_rfl) (fun hb => ?_) (fun hb => ?_)
  replace h := cond_t hb h
  refine swp_seq ?_
  refine swp_reg ?_
  refine SRun.ck tbok 1 ⟨19, [(6, vi 1)], []⟩ ?_
  refine SRun.nil ?_
  refine nx_n ?_
  refine swp_ret ?_
  replace h := Option.some.inj h
  subst h
  exact q_br (q_rr (q_fr (fin1 (by kernel_rfl) (finV rfl SV.flat_of (holds_t (by kernel_rfl))))))
  replace h := cond_f hb h
  refine swp_seq ?_
  refine swp_reg ?_
  refine SRun.ck tbok 2 ⟨19, [(13, vi aIndex), (14, vl eTie aList)], []⟩ ?_
  obtain ⟨x4, hx4, h⟩ := bind_some h
  refine SRun.ls (x_lstep_call (f := 84) (caps := []) (xs := [vl eTie aList]) (ys := [vl eTie aList]) (res := ⟨[.v (vi x4)], [], false⟩) (x := vi x4) (y := none) rfl ents84 (impl_length_Tie_run aList _ hx4) rfl (by intro hc; cases hc)) ?_
  refine SRun.ck tbok 1 ⟨19, [(13, vi aIndex), (16, vi (w64 (x4 - 1)))], []⟩ ?_
  obtain ⟨x5, hx5, h⟩ := bind_some h
  refine SRun.ls (x_lstep_call (f := 56) (caps := []) (xs := [vi aIndex, vi 0, vi (w64 (x4 - 1))]) (ys := [vi aIndex, vi 0, vi (w64 (x4 - 1))]) (res := ⟨[.v (vb x5)], [], false⟩) (x := vb x5) (y := none) rfl ents56 (impl_within_run aIndex 0 (w64 (x4 - 1)) _ hx5) rfl (by intro hc; cases hc)) ?_
  refine SRun.ck tbok 2 ⟨19, [(12, vb (!x5))], []⟩ ?_
  refine SRun.nil ?_
  refine nx_n ?_
  refine swp_cond (b := (!x5)) (by kernel_rfl) (fun hb => ?_) (fun hb => ?_)
  replace h := cond_t hb h
  refine swp_seq ?_
  refine swp_reg ?_
  refine SRun.ck tbok 1 ⟨19, [(6, vi 2)], []⟩ ?_
  refine SRun.nil ?_
  refine nx_n ?_
  refine swp_ret ?_
  replace h := Option.some.inj h
  subst h
  exact q_br (q_rr (q_fr (fin1 (by kernel_rfl) (finV rfl SV.flat_of (holds_t (by kernel_rfl))))))
  replace h := cond_f hb h
  refine swp_skip ?_
  replace h := Option.some.inj h
  subst h
  exact q_bn (q_l (Le.sub0))
  refine swp_seq ?_
  refine swp_reg ?_
  refine SRun.ck tbok 1 ⟨19, [(6, vi 0)], []⟩ ?_
  refine SRun.nil ?_
  refine nx_n ?_
  refine swp_ret ?_
  replace h := Option.some.inj h
  subst h
  exact q_fr (fin1 (by kernel_rfl) (finV rfl SV.flat_of (holds_t (by kernel_rfl))))
theorem ents62 : Ents Tryd.prog 62 := ents_of Tryd.func62 (by kernel_rfl) rfl
noncomputable def slices_Concat_Tie (aSlices : (List (List Tie))) : Option ((List Tie)) :=
  (((forS (aSlices.length : Int) (fun (i3 : Int) (s3 : Int) => ((at' aSlices i3).bind fun x7 => (bif (decide ((w64 (s3 + (x7.length : Int))) < 0)) then none else some (w64 (s3 + (x7.length : Int)))))) (fun (s3 : Int) => s3) 0 0)).bind fun (j1 : Int) => ((grow' j1).bind fun _ => (((forS (aSlices.length : Int) (fun (i11 : Int) (s11 : (List Tie)) => ((at' aSlices i11).bind fun x15 => ((app' s11 x15).bind fun x16 => some x16))) (fun (s11 : (List Tie)) => s11) 0 ([] : List Tie))).bind fun (j9 : (List Tie)) => some j9)))
set_option maxRecDepth 100000 in
set_option maxHeartbeats 4000000 in
theorem slices_Concat_Tie_run (aSlices : (List (List Tie))) (r : (List Tie)) (h : slices_Concat_Tie aSlices = some r) : SCall Tryd.prog 85 [.v (vl (eL eTie) aSlices)] ⟨[.own 42 4 r.length (r.map eTie)], [], false⟩ := by
  refine scall_in Tryd.func85 rfl [(.tmp 2)] rfl (fun r => ⟨[.own 42 4 r.length (r.map eTie)], [], false⟩) (r := r) ?_
  unfold slices_Concat_Tie at h
  refine swp_seq ?_
  refine swp_reg ?_
  refine SRun.ck tbok 1 ⟨36, [(0, vl (eL eTie) aSlices)], []⟩ ?_
  refine SRun.nil ?_
  refine nx_n ?_
  refine swp_seq ?_
  refine swp_reg ?_
  refine SRun.ck tbok 1 ⟨36, [(0, vl (eL eTie) aSlices), (3, vi 0)], []⟩ ?_
  refine SRun.nil ?_
  refine nx_n ?_
  refine swp_seq ?_
  refine swp_seq ?_
  refine swp_reg ?_
  refine SRun.ck tbok 3 ⟨36, [(0, vl (eL eTie) aSlices), (3, vi 0), (9, vl (eL eTie) aSlices), (10, vi (aSlices.length : Int)), (11, vi 0)], []⟩ ?_
  refine SRun.nil ?_
  refine nx_n ?_
  refine swp_seqJ h (fun j1 => ⟨36, [(0, vl (eL eTie) aSlices), (3, vi j1)], []⟩) (fun v2 h => ?_) (fun j1 h => ?_)
  refine swp_blk (a := v2) ?_
  refine swp_lpL (r := v2) (s := (0, 0)) _ (fun s3 => ⟨36, [(0, vl (eL eTie) aSlices), (3, vi s3.2), (9, vl (eL eTie) aSlices), (10, vi (aSlices.length : Int)), (11, vi s3.1)], []⟩) _ (Le.sub0) h (fun s3 v4 h => ?_)
  refine swp_seq ?_
  refine swp_reg ?_
  refine SRun.ck tbok 1 ⟨36, [(0, vl (eL eTie) aSlices), (3, vi s3.2), (9, vl (eL eTie) aSlices), (10, vi (aSlices.length : Int)), (11, vi s3.1), (12, vb (decide (s3.1 < (aSlices.length : Int))))], []⟩ ?_
  refine SRun.nil ?_
  refine nx_n ?_
  refine swp_seq ?_
  refine swp_cond (b := (decide (s3.1 < (aSlices.length : Int)))) (by kernel_rfl) (fun hb => ?_) (fun hb => ?_)
  replace h := cond_t hb h
  refine swp_skip ?_
  refine nx_n ?_
  refine swp_seq ?_
  refine swp_seqJ h (fun j5 => ⟨36, [(0, vl (eL eTie) aSlices), (3, vi j5), (9, vl (eL eTie) aSlices), (10, vi (aSlices.length : Int)), (11, vi s3.1)], []⟩) (fun v6 h => ?_) (fun j5 h => ?_)
  refine swp_blk (a := v6) ?_
  refine swp_seq ?_
  refine swp_reg ?_
  obtain ⟨x7, hx7, h⟩ := bind_some h
  refine SRun.ls (x_index (L := aSlices) (f := (eL eTie)) (ti := ti108) (tj := ti25) (e := 25) (k := .i64) tbok rfl hx7) ?_
  refine SRun.ck tbok 2 ⟨36, [(0, vl (eL eTie) aSlices), (3, vi s3.2), (5, vl eTie x7), (9, vl (eL eTie) aSlices), (10, vi (aSlices.length : Int)), (11, vi s3.1)], []⟩ ?_
  refine SRun.nil ?_
  refine nx_n ?_
  refine swp_seq ?_
  refine swp_reg ?_
  refine SRun.ck tbok 5 ⟨36, [(0, vl (eL eTie) aSlices), (3, vi (w64 (s3.2 + (x7.length : Int)))), (9, vl (eL eTie) aSlices), (10, vi (aSlices.length : Int)), (11, vi s3.1)], []⟩ ?_
  refine SRun.nil ?_
  refine nx_n ?_
  refine swp_seq ?_
  refine swp_reg ?_
  refine SRun.ck tbok 2 ⟨36, [(0, vl (eL eTie) aSlices), (3, vi (w64 (s3.2 + (x7.length : Int)))), (9, vl (eL eTie) aSlices), (10, vi (aSlices.length : Int)), (11, vi s3.1), (20, vb (decide ((w64 (s3.2 + (x7.length : Int))) < 0)))], []⟩ ?_
  refine SRun.nil ?_
  refine nx_n ?_
  refine swp_cond (b := (decide ((w64 (s3.2 + (x7.length : Int))) < 0))) (by kernel_rfl) (fun hb => ?_) (fun hb => ?_)
  replace h := cond_t hb h
  refine swp_reg ?_
  exact dead h
  replace h := cond_f hb h
  refine swp_skip ?_
  replace h := Option.some.inj h
  subst h
  exact q_bn (q_j (Le.sub0))
  refine swp_reg ?_
  refine SRun.ck tbok 2 ⟨36, [(0, vl (eL eTie) aSlices), (3, vi j5), (9, vl (eL eTie) aSlices), (10, vi (aSlices.length : Int)), (11, vi (w64 (s3.1 + 1)))], []⟩ ?_
  refine SRun.nil ?_
  replace h := Option.some.inj h
  subst h
  exact q_l (Le.sub0)
  replace h := cond_f hb h
  refine swp_exit ?_
  replace h := Option.some.inj h
  subst h
  exact nx_e (q_re (q_bh (q_j (Le.sub0))))
  refine swp_seq ?_
  refine swp_reg ?_
  refine SRun.ck tbok 1 ⟨36, [(0, vl (eL eTie) aSlices), (23, vi j1)], []⟩ ?_
  obtain ⟨x8, hx8, h⟩ := bind_some h
  refine SRun.ls (lstep_callV nil0 (f := 96) (caps := []) (xs := [.tr (.sl 0 []), vi j1]) (ys := [.tr (.sl 0 []), vi j1]) (res := ⟨[.own 42 4 ([] : List Tie).length (([] : List Tie).map eTie)], [], true⟩) (x := .own 24) (y := some (.arr 42 4 ([] : List Tie).length (([] : List Tie).map eTie))) rfl (by kernel_rfl) (by kernel_rfl) (by kernel_rfl) (by kernel_rfl) (by kernel_rfl) ents96 (grow_nil eTie Tryd.growTie 96 42 rfl rfl _ _ 4 rfl rfl (by kernel_rfl) (by kernel_rfl) (by kernel_rfl) (by decide) j1 _ hx8 ([] : List Tie) rfl) (nil0_of rfl) rfl (fun _ => rfl) (by kernel_rfl)) ?_
  refine SRun.ck tbok 1 ⟨36, [(0, vl (eL eTie) aSlices), (6, .own 24)], [(24, .arr 42 4 ([] : List Tie).length (([] : List Tie).map eTie))]⟩ ?_
  refine SRun.nil ?_
  refine nx_n ?_
  refine swp_seq ?_
  refine swp_seq ?_
  refine swp_reg ?_
  refine SRun.ck tbok 3 ⟨36, [(6, .own 24), (25, vl (eL eTie) aSlices), (26, vi (aSlices.length : Int)), (27, vi 0)], [(24, .arr 42 4 ([] : List Tie).length (([] : List Tie).map eTie))]⟩ ?_
  refine SRun.nil ?_
  refine nx_n ?_
  refine swp_seqJ h (fun j9 => ⟨36, [(6, .own 6)], [(6, .arr 42 4 j9.length (j9.map eTie))]⟩) (fun v10 h => ?_) (fun j9 h => ?_)
  refine swp_blk (a := v10) ?_
  refine swp_lpL (r := v10) (s := (0, ([] : List Tie))) _ (fun s11 => ⟨36, [(6, .own 6), (25, vl (eL eTie) aSlices), (26, vi (aSlices.length : Int)), (27, vi s11.1)], [(6, .arr 42 4 s11.2.length (s11.2.map eTie))]⟩) _ ((Le.sub' ([(6, .own 24), (25, vl (eL eTie) aSlices), (26, vi (aSlices.length : Int)), (27, vi 0)] : List (Nat × SV)) ([(24, .arr 42 4 ([] : List Tie).length (([] : List Tie).map eTie))] : List (Nat × SO)) (by kernel_rfl) (by kernel_rfl)).trans ((Le.ren' (d := 24) (e := 6) (by kernel_rfl) (by kernel_rfl) (by kernel_rfl)).trans (Le.sub0))) h (fun s11 v12 h => ?_)
  refine swp_seq ?_
  refine swp_reg ?_
  refine SRun.ck tbok 1 ⟨36, [(6, .own 6), (25, vl (eL eTie) aSlices), (26, vi (aSlices.length : Int)), (27, vi s11.1), (28, vb (decide (s11.1 < (aSlices.length : Int))))], [(6, .arr 42 4 s11.2.length (s11.2.map eTie))]⟩ ?_
  refine SRun.nil ?_
  refine nx_n ?_
  refine swp_seq ?_
  refine swp_cond (b := (decide (s11.1 < (aSlices.length : Int)))) (by kernel_rfl) (fun hb => ?_) (fun hb => ?_)
  replace h := cond_t hb h
  refine swp_skip ?_
  refine nx_n ?_
  refine swp_seq ?_
  refine swp_seqJ h (fun j13 => ⟨36, [(6, .own 6), (25, vl (eL eTie) aSlices), (26, vi (aSlices.length : Int)), (27, vi s11.1)], [(6, .arr 42 4 j13.length (j13.map eTie))]⟩) (fun v14 h => ?_) (fun j13 h => ?_)
  refine swp_blk (a := v14) ?_
  refine swp_seq ?_
  refine swp_reg ?_
  obtain ⟨x15, hx15, h⟩ := bind_some h
  refine SRun.ls (x_index (L := aSlices) (f := (eL eTie)) (ti := ti108) (tj := ti25) (e := 25) (k := .i64) tbok rfl hx15) ?_
  refine SRun.ck tbok 2 ⟨36, [(6, .own 6), (8, vl eTie x15), (25, vl (eL eTie) aSlices), (26, vi (aSlices.length : Int)), (27, vi s11.1)], [(6, .arr 42 4 s11.2.length (s11.2.map eTie))]⟩ ?_
  refine SRun.nil ?_
  refine nx_n ?_
  refine swp_reg ?_
  refine SRun.ck tbok 2 ⟨36, [(25, vl (eL eTie) aSlices), (26, vi (aSlices.length : Int)), (27, vi s11.1), (31, .own 6), (32, vl eTie x15)], [(6, .arr 42 4 s11.2.length (s11.2.map eTie))]⟩ ?_
  obtain ⟨x16, hx16, h⟩ := bind_some h
  refine SRun.estep (x_append (f := eTie) (t := 25) (ti := ti25) (tj := ti42) (zs := [.int .i64 0, .int .i64 0, .bool false, .string (ByteArray.mk #[])]) (e := 42) (m := 4) (d := 6) (xv := vl eTie x15) hx16 tbok rfl rfl rfl rfl (src_e (fun _ => rfl))) ?_
  refine SRun.ck tbok 1 ⟨36, [(6, .own 33), (25, vl (eL eTie) aSlices), (26, vi (aSlices.length : Int)), (27, vi s11.1)], [(33, .arr 42 4 x16.length (x16.map eTie))]⟩ ?_
  refine SRun.nil ?_
  replace h := Option.some.inj h
  subst h
  exact q_bn (q_j ((Le.sub' ([(6, .own 33), (25, vl (eL eTie) aSlices), (26, vi (aSlices.length : Int)), (27, vi s11.1)] : List (Nat × SV)) ([(33, .arr 42 4 x16.length (x16.map eTie))] : List (Nat × SO)) (by kernel_rfl) (by kernel_rfl)).trans ((Le.ren' (d := 33) (e := 6) (by kernel_rfl) (by kernel_rfl) (by kernel_rfl)).trans (Le.sub0))))
  refine swp_reg ?_
  refine SRun.ck tbok 2 ⟨36, [(6, .own 6), (25, vl (eL eTie) aSlices), (26, vi (aSlices.length : Int)), (27, vi (w64 (s11.1 + 1)))], [(6, .arr 42 4 j13.length (j13.map eTie))]⟩ ?_
  refine SRun.nil ?_
  replace h := Option.some.inj h
  subst h
  exact q_l (Le.sub0)
  replace h := cond_f hb h
  refine swp_exit ?_
  replace h := Option.some.inj h
  subst h
  exact nx_e (q_re (q_bh (q_j (Le.sub0))))
  refine swp_seq ?_
  refine swp_reg ?_
  refine SRun.ck tbok 2 ⟨36, [(2, .own 6)], [(6, .arr 42 4 j9.length (j9.map eTie))]⟩ ?_
  refine SRun.nil ?_
  refine nx_n ?_
  refine swp_ret ?_
  replace h := Option.some.inj h
  subst h
  exact q_fr (fin1 (by kernel_rfl) (finO (d := 6) (holds_t (by kernel_rfl)) (by kernel_rfl) (flat_map eTie_flat _) (by kernel_rfl)))
theorem ents85 : Ents Tryd.prog 85 := ents_of Tryd.func85 (by kernel_rfl) rfl
noncomputable def impl_lessTie (aList : (List Tie)) (aIndex : Int) : Option ((List Tie)) :=
  ((part' aList 0 aIndex).bind fun x1 => ((part' aList (w64 (aIndex + 1)) (aList.length : Int)).bind fun x2 => ((slices_Concat_Tie ([x1, x2] : List (List Tie))).bind fun x3 => some x3)))
set_option maxRecDepth 100000 in
set_option maxHeartbeats 4000000 in
theorem impl_lessTie_run (aList : (List Tie)) (aIndex : Int) (r : (List Tie)) (h : impl_lessTie aList aIndex = some r) : SCall Tryd.prog 63 [.v (vl eTie aList), .v (vi aIndex)] ⟨[.own 42 4 r.length (r.map eTie)], [], false⟩ := by
  refine scall_in Tryd.func63 rfl [(.tmp 4)] rfl (fun r => ⟨[.own 42 4 r.length (r.map eTie)], [], false⟩) (r := r) ?_
  unfold impl_lessTie at h
  refine swp_seq ?_
  refine swp_reg ?_
  refine SRun.ck tbok 1 ⟨14, [(0, vl eTie aList), (1, vi aIndex)], []⟩ ?_
  refine SRun.nil ?_
  refine nx_n ?_
  refine swp_seq ?_
  refine swp_dr mixed ?_
  refine DGo.chunk' tbok 2 (σ' := ⟨14, [(6, vi aIndex), (5, vl eTie aList), (0, vl eTie aList), (1, vi aIndex)], []⟩) (by kernel_rfl) ?_
  obtain ⟨x1, hx1, h⟩ := bind_some h
  refine DGo.step (x_slice (m := 4) (f := eTie) (ti := ti25) (tj := ti42) (e := 42) hx1 (fun _ => rfl) tbok rfl) ?_
  refine DGo.chunk' tbok 3 (σ' := ⟨14, [(10, vi (w64 (aIndex + 1))), (9, vi aIndex), (8, vl eTie aList), (7, vl eTie x1), (6, vi aIndex), (5, vl eTie aList), (0, vl eTie aList), (1, vi aIndex)], []⟩) (by kernel_rfl) ?_
  obtain ⟨x2, hx2, h⟩ := bind_some h
  refine DGo.step (x_slice (m := 4) (f := eTie) (ti := ti25) (tj := ti42) (e := 42) hx2 (fun _ => rfl) tbok rfl) ?_
  refine DGo.chunk' tbok 1 (σ' := ⟨14, [(12, .own 12), (11, vl eTie x2), (10, vi (w64 (aIndex + 1))), (9, vi aIndex), (8, vl eTie aList), (7, vl eTie x1), (6, vi aIndex), (5, vl eTie aList), (0, vl eTie aList), (1, vi aIndex)], [(12, .arr 25 1 ([x1, x2] : List (List Tie)).length (([x1, x2] : List (List Tie)).map (eL eTie)))]⟩) (by kernel_rfl) ?_
  refine DGo.seq (by kernel_rfl) (by kernel_rfl) ?_
  obtain ⟨x3, hx3, h⟩ := bind_some h
  refine SRun.ls (x_lstep_call (f := 85) (caps := []) (xs := [.own 12]) (ys := [vl (eL eTie) ([x1, x2] : List (List Tie))]) (res := ⟨[.own 42 4 x3.length (x3.map eTie)], [], false⟩) (x := .own 13) (y := some (.arr 42 4 x3.length (x3.map eTie))) rfl ents85 (slices_Concat_Tie_run ([x1, x2] : List (List Tie)) _ hx3) rfl (by intro hc; cases hc)) ?_
  refine SRun.ck tbok 1 ⟨14, [(4, .own 13)], [(13, .arr 42 4 x3.length (x3.map eTie))]⟩ ?_
  refine SRun.nil ?_
  refine nx_n ?_
  refine swp_ret ?_
  replace h := Option.some.inj h
  subst h
  exact q_fr (fin1 (by kernel_rfl) (finO (d := 13) (holds_t (by kernel_rfl)) (by kernel_rfl) (flat_map eTie_flat _) (by kernel_rfl)))
theorem ents63 : Ents Tryd.prog 63 := ents_of Tryd.func63 (by kernel_rfl) rfl
noncomputable def slices_Index_int64 (aS : (List Int)) (aV : Int) : Option (Int) :=
  (((forN (aS.length : Int) (fun (i3 : Int) (_ : Unit) => ((at' aS i3).bind fun x7 => (bif (aV == x7) then some (.inr (.inr i3)) else some (.inl ())))) (fun (_ : Unit) => .inl ()) 0 ())).bind (Sum.elim (fun (_ : Unit) => some (-1)) some))
set_option maxRecDepth 100000 in
set_option maxHeartbeats 4000000 in
theorem slices_Index_int64_run (aS : (List Int)) (aV : Int) (r : Int) (h : slices_Index_int64 aS aV = some r) : SCall Tryd.prog 98 [.v (vl (eI .i64) aS), .v (vi aV)] ⟨[.v (vi r)], [], false⟩ := by
  refine scall_in Tryd.func98 rfl [(.tmp 4)] rfl (fun r => ⟨[.v (vi r)], [], false⟩) (r := r) ?_
  unfold slices_Index_int64 at h
  refine swp_seq ?_
  refine swp_reg ?_
  refine SRun.ck tbok 1 ⟨19, [(0, vl (eI .i64) aS), (1, vi aV)], []⟩ ?_
  refine SRun.nil ?_
  refine nx_n ?_
  refine swp_seq ?_
  refine swp_seq ?_
  refine swp_reg ?_
  refine SRun.ck tbok 3 ⟨19, [(0, vl (eI .i64) aS), (1, vi aV), (7, vi (aS.length : Int)), (8, vi 0)], []⟩ ?_
  refine SRun.nil ?_
  refine nx_n ?_
  refine swp_seqE (r := r) h (fun j1 => ⟨19, [], []⟩) (fun v2 h => ?_) (fun j1 h => ?_)
  refine swp_blk (a := v2) ?_
  refine swp_lpL (r := v2) (s := (0, ())) _ (fun s3 => ⟨19, [(0, vl (eI .i64) aS), (1, vi aV), (7, vi (aS.length : Int)), (8, vi s3.1)], []⟩) _ (Le.sub0) h (fun s3 v4 h => ?_)
  refine swp_seq ?_
  refine swp_reg ?_
  refine SRun.ck tbok 1 ⟨19, [(0, vl (eI .i64) aS), (1, vi aV), (7, vi (aS.length : Int)), (8, vi s3.1), (9, vb (decide (s3.1 < (aS.length : Int))))], []⟩ ?_
  refine SRun.nil ?_
  refine nx_n ?_
  refine swp_seq ?_
  refine swp_cond (b := (decide (s3.1 < (aS.length : Int)))) (by kernel_rfl) (fun hb => ?_) (fun hb => ?_)
  replace h := cond_t hb h
  refine swp_skip ?_
  refine nx_n ?_
  refine swp_seq ?_
  refine swp_seqL (r := v4) h (fun j5 => ⟨19, [(0, vl (eI .i64) aS), (1, vi aV), (7, vi (aS.length : Int)), (8, vi s3.1)], []⟩) (fun v6 h => ?_) (fun j5 h => ?_)
  refine swp_blk (a := v6) ?_
  refine swp_seq ?_
  refine swp_reg ?_
  refine SRun.ck tbok 2 ⟨19, [(0, vl (eI .i64) aS), (1, vi aV), (5, vi s3.1), (7, vi (aS.length : Int)), (8, vi s3.1)], []⟩ ?_
  refine SRun.nil ?_
  refine nx_n ?_
  refine swp_seq ?_
  refine swp_reg ?_
  refine SRun.ck tbok 3 ⟨19, [(0, vl (eI .i64) aS), (1, vi aV), (5, vi s3.1), (7, vi (aS.length : Int)), (8, vi s3.1), (11, vi aV), (12, vl (eI .i64) aS), (13, vi s3.1)], []⟩ ?_
  obtain ⟨x7, hx7, h⟩ := bind_some h
  refine SRun.ls (x_index (L := aS) (f := (eI .i64)) (ti := ti50) (tj := ti2) (e := 2) (k := .i64) tbok rfl hx7) ?_
  refine SRun.ck tbok 2 ⟨19, [(0, vl (eI .i64) aS), (1, vi aV), (5, vi s3.1), (7, vi (aS.length : Int)), (8, vi s3.1), (16, vb (aV == x7))], []⟩ ?_
  refine SRun.nil ?_
  refine nx_n ?_
  refine swp_cond (b := (aV == x7)) (by kernel_rfl) (fun hb => ?_) (fun hb => ?_)
  replace h := cond_t hb h
  refine swp_seq ?_
  refine swp_reg ?_
  refine SRun.ck tbok 2 ⟨19, [(4, vi s3.1)], []⟩ ?_
  refine SRun.nil ?_
  refine nx_n ?_
  refine swp_ret ?_
  replace h := Option.some.inj h
  subst h
  exact q_br (q_rr (q_rr (q_br (q_rr (q_fr (fin1 (by kernel_rfl) (finV rfl SV.flat_of (holds_t (by kernel_rfl)))))))))
  replace h := cond_f hb h
  refine swp_skip ?_
  replace h := Option.some.inj h
  subst h
  exact q_bn (q_l (Le.sub0))
  refine swp_reg ?_
  refine SRun.ck tbok 2 ⟨19, [(0, vl (eI .i64) aS), (1, vi aV), (7, vi (aS.length : Int)), (8, vi (w64 (s3.1 + 1)))], []⟩ ?_
  refine SRun.nil ?_
  replace h := Option.some.inj h
  subst h
  exact q_l (Le.sub0)
  replace h := cond_f hb h
  refine swp_exit ?_
  replace h := Option.some.inj h
  subst h
  exact nx_e (q_re (q_bh (q_l (Le.sub0))))
  refine swp_seq ?_
  refine swp_reg ?_
  refine SRun.ck tbok 1 ⟨19, [(4, vi (-1))], []⟩ ?_
  refine SRun.nil ?_
  refine nx_n ?_
  refine swp_ret ?_
  replace h := Option.some.inj h
  subst h
  exact q_fr (fin1 (by kernel_rfl) (finV rfl SV.flat_of (holds_t (by kernel_rfl))))
theorem ents98 : Ents Tryd.prog 98 := ents_of Tryd.func98 (by kernel_rfl) rfl
noncomputable def slices_Contains_int64 (aS : (List Int)) (aV : Int) : Option (Bool) :=
  ((slices_Index_int64 aS aV).bind fun x1 => some (decide (x1 ≥ 0)))
set_option maxRecDepth 100000 in
set_option maxHeartbeats 4000000 in
theorem slices_Contains_int64_run (aS : (List Int)) (aV : Int) (r : Bool) (h : slices_Contains_int64 aS aV = some r) : SCall Tryd.prog 90 [.v (vl (eI .i64) aS), .v (vi aV)] ⟨[.v (vb r)], [], false⟩ := by
  refine scall_in Tryd.func90 rfl [(.tmp 4)] rfl (fun r => ⟨[.v (vb r)], [], false⟩) (r := r) ?_
  unfold slices_Contains_int64 at h
  refine swp_seq ?_
  refine swp_reg ?_
  refine SRun.ck tbok 1 ⟨9, [(0, vl (eI .i64) aS), (1, vi aV)], []⟩ ?_
  refine SRun.nil ?_
  refine nx_n ?_
  refine swp_seq ?_
  refine swp_reg ?_
  refine SRun.ck tbok 2 ⟨9, [(5, vl (eI .i64) aS), (6, vi aV)], []⟩ ?_
  obtain ⟨x1, hx1, h⟩ := bind_some h
  refine SRun.ls (x_lstep_call (f := 98) (caps := []) (xs := [vl (eI .i64) aS, vi aV]) (ys := [vl (eI .i64) aS, vi aV]) (res := ⟨[.v (vi x1)], [], false⟩) (x := vi x1) (y := none) rfl ents98 (slices_Index_int64_run aS aV _ hx1) rfl (by intro hc; cases hc)) ?_
  refine SRun.ck tbok 2 ⟨9, [(4, vb (decide (x1 ≥ 0)))], []⟩ ?_
  refine SRun.nil ?_
  refine nx_n ?_
  refine swp_ret ?_
  replace h := Option.some.inj h
  subst h
  exact q_fr (fin1 (by kernel_rfl) (finV rfl SV.flat_of (holds_t (by kernel_rfl))))
theorem ents90 : Ents Tryd.prog 90 := ents_of Tryd.func90 (by kernel_rfl) rfl
noncomputable def impl_groupsOf_1 (aG : (List Int)) (c0 : Int) : Option (Bool) :=
  ((slices_Contains_int64 aG c0).bind fun x1 => some x1)
set_option maxRecDepth 100000 in
set_option maxHeartbeats 4000000 in
theorem impl_groupsOf_1_run (aG : (List Int)) (c0 : Int) (r : Bool) (h : impl_groupsOf_1 aG c0 = some r) : SCall Tryd.prog 89 [.v (vl (eI .i64) aG), .v (.ptr [vi c0] 0)] ⟨[.v (vb r)], [], false⟩ := by
  refine scall_in Tryd.func89 rfl [(.tmp 3)] rfl (fun r => ⟨[.v (vb r)], [], false⟩) (r := r) ?_
  unfold impl_groupsOf_1 at h
  refine swp_seq ?_
  refine swp_reg ?_
  refine SRun.ck tbok 1 ⟨7, [(0, vl (eI .i64) aG), (1, .ptr [vi c0] 0)], []⟩ ?_
  refine SRun.nil ?_
  refine nx_n ?_
  refine swp_seq ?_
  refine swp_reg ?_
  refine SRun.ck tbok 2 ⟨7, [(4, vl (eI .i64) aG), (5, vi c0)], []⟩ ?_
  obtain ⟨x1, hx1, h⟩ := bind_some h
  refine SRun.ls (x_lstep_call (f := 90) (caps := []) (xs := [vl (eI .i64) aG, vi c0]) (ys := [vl (eI .i64) aG, vi c0]) (res := ⟨[.v (vb x1)], [], false⟩) (x := vb x1) (y := none) rfl ents90 (slices_Contains_int64_run aG c0 _ hx1) rfl (by intro hc; cases hc)) ?_
  refine SRun.ck tbok 1 ⟨7, [(3, vb x1)], []⟩ ?_
  refine SRun.nil ?_
  refine nx_n ?_
  refine swp_ret ?_
  replace h := Option.some.inj h
  subst h
  exact q_fr (fin1 (by kernel_rfl) (finV rfl SV.flat_of (holds_t (by kernel_rfl))))
theorem ents89 : Ents Tryd.prog 89 := ents_of Tryd.func89 (by kernel_rfl) rfl
noncomputable def slices_IndexFunc_int64_impl_groupsOf_1 (aS : (List (List Int))) (aF0 : Int) : Option (Int) :=
  (((forN (aS.length : Int) (fun (i3 : Int) (_ : Unit) => ((at' aS i3).bind fun x7 => ((impl_groupsOf_1 x7 aF0).bind fun x8 => (bif x8 then some (.inr (.inr i3)) else some (.inl ()))))) (fun (_ : Unit) => .inl ()) 0 ())).bind (Sum.elim (fun (_ : Unit) => some (-1)) some))
set_option maxRecDepth 100000 in
set_option maxHeartbeats 4000000 in
theorem slices_IndexFunc_int64_impl_groupsOf_1_run (aS : (List (List Int))) (aF0 : Int) (r : Int) (h : slices_IndexFunc_int64_impl_groupsOf_1 aS aF0 = some r) : SCall Tryd.prog 97 [.v (vl (eL (eI .i64)) aS), .v (.clo 89 [.ptr [vi aF0] 0])] ⟨[.v (vi r)], [], false⟩ := by
  refine scall_in Tryd.func97 rfl [(.tmp 4)] rfl (fun r => ⟨[.v (vi r)], [], false⟩) (r := r) ?_
  unfold slices_IndexFunc_int64_impl_groupsOf_1 at h
  refine swp_seq ?_
  refine swp_reg ?_
  refine SRun.ck tbok 1 ⟨19, [(0, vl (eL (eI .i64)) aS), (1, .clo 89 [.ptr [vi aF0] 0])], []⟩ ?_
  refine SRun.nil ?_
  refine nx_n ?_
  refine swp_seq ?_
  refine swp_seq ?_
  refine swp_reg ?_
  refine SRun.ck tbok 3 ⟨19, [(0, vl (eL (eI .i64)) aS), (1, .clo 89 [.ptr [vi aF0] 0]), (7, vi (aS.length : Int)), (8, vi 0)], []⟩ ?_
  refine SRun.nil ?_
  refine nx_n ?_
  refine swp_seqE (r := r) h (fun j1 => ⟨19, [], []⟩) (fun v2 h => ?_) (fun j1 h => ?_)
  refine swp_blk (a := v2) ?_
  refine swp_lpL (r := v2) (s := (0, ())) _ (fun s3 => ⟨19, [(0, vl (eL (eI .i64)) aS), (1, .clo 89 [.ptr [vi aF0] 0]), (7, vi (aS.length : Int)), (8, vi s3.1)], []⟩) _ (Le.sub0) h (fun s3 v4 h => ?_)
  refine swp_seq ?_
  refine swp_reg ?_
  refine SRun.ck tbok 1 ⟨19, [(0, vl (eL (eI .i64)) aS), (1, .clo 89 [.ptr [vi aF0] 0]), (7, vi (aS.length : Int)), (8, vi s3.1), (9, vb (decide (s3.1 < (aS.length : Int))))], []⟩ ?_
  refine SRun.nil ?_
  refine nx_n ?_
  refine swp_seq ?_
  refine swp_cond (b := (decide (s3.1 < (aS.length : Int)))) (by kernel_rfl) (fun hb => ?_) (fun hb => ?_)
  replace h := cond_t hb h
  refine swp_skip ?_
  refine nx_n ?_
  refine swp_seq ?_
  refine swp_seqL (r := v4) h (fun j5 => ⟨19, [(0, vl (eL (eI .i64)) aS), (1, .clo 89 [.ptr [vi aF0] 0]), (7, vi (aS.length : Int)), (8, vi s3.1)], []⟩) (fun v6 h => ?_) (fun j5 h => ?_)
  refine swp_blk (a := v6) ?_
  refine swp_seq ?_
  refine swp_reg ?_
  refine SRun.ck tbok 2 ⟨19, [(0, vl (eL (eI .i64)) aS), (1, .clo 89 [.ptr [vi aF0] 0]), (5, vi s3.1), (7, vi (aS.length : Int)), (8, vi s3.1)], []⟩ ?_
  refine SRun.nil ?_
  refine nx_n ?_
  refine swp_seq ?_
  refine swp_reg ?_
  refine SRun.ck tbok 3 ⟨19, [(0, vl (eL (eI .i64)) aS), (1, .clo 89 [.ptr [vi aF0] 0]), (5, vi s3.1), (7, vi (aS.length : Int)), (8, vi s3.1), (11, .clo 89 [.ptr [vi aF0] 0]), (12, vl (eL (eI .i64)) aS), (13, vi s3.1)], []⟩ ?_
  obtain ⟨x7, hx7, h⟩ := bind_some h
  refine SRun.ls (x_index (L := aS) (f := (eL (eI .i64))) (ti := ti45) (tj := ti50) (e := 50) (k := .i64) tbok rfl hx7) ?_
  refine SRun.ck tbok 1 ⟨19, [(0, vl (eL (eI .i64)) aS), (1, .clo 89 [.ptr [vi aF0] 0]), (5, vi s3.1), (7, vi (aS.length : Int)), (8, vi s3.1), (11, .clo 89 [.ptr [vi aF0] 0]), (15, vl (eI .i64) x7)], []⟩ ?_
  obtain ⟨x8, hx8, h⟩ := bind_some h
  refine SRun.ls (x_lstep_call (f := 89) (caps := [.ptr [vi aF0] 0]) (xs := [vl (eI .i64) x7]) (ys := [vl (eI .i64) x7, .ptr [vi aF0] 0]) (res := ⟨[.v (vb x8)], [], false⟩) (x := vb x8) (y := none) rfl ents89 (impl_groupsOf_1_run x7 aF0 _ hx8) rfl (by intro hc; cases hc)) ?_
  refine SRun.nil ?_
  refine nx_n ?_
  refine swp_cond (b := x8) (by kernel_rfl) (fun hb => ?_) (fun hb => ?_)
  replace h := cond_t hb h
  refine swp_seq ?_
  refine swp_reg ?_
  refine SRun.ck tbok 2 ⟨19, [(4, vi s3.1)], []⟩ ?_
  refine SRun.nil ?_
  refine nx_n ?_
  refine swp_ret ?_
  replace h := Option.some.inj h
  subst h
  exact q_br (q_rr (q_rr (q_br (q_rr (q_fr (fin1 (by kernel_rfl) (finV rfl SV.flat_of (holds_t (by kernel_rfl)))))))))
  replace h := cond_f hb h
  refine swp_skip ?_
  replace h := Option.some.inj h
  subst h
  exact q_bn (q_l (Le.sub0))
  refine swp_reg ?_
  refine SRun.ck tbok 2 ⟨19, [(0, vl (eL (eI .i64)) aS), (1, .clo 89 [.ptr [vi aF0] 0]), (7, vi (aS.length : Int)), (8, vi (w64 (s3.1 + 1)))], []⟩ ?_
  refine SRun.nil ?_
  replace h := Option.some.inj h
  subst h
  exact q_l (Le.sub0)
  replace h := cond_f hb h
  refine swp_exit ?_
  replace h := Option.some.inj h
  subst h
  exact nx_e (q_re (q_bh (q_l (Le.sub0))))
  refine swp_seq ?_
  refine swp_reg ?_
  refine SRun.ck tbok 1 ⟨19, [(4, vi (-1))], []⟩ ?_
  refine SRun.nil ?_
  refine nx_n ?_
  refine swp_ret ?_
  replace h := Option.some.inj h
  subst h
  exact q_fr (fin1 (by kernel_rfl) (finV rfl SV.flat_of (holds_t (by kernel_rfl))))
theorem ents97 : Ents Tryd.prog 97 := ents_of Tryd.func97 (by kernel_rfl) rfl
noncomputable def slices_ContainsFunc_int64_impl_groupsOf_1 (aS : (List (List Int))) (aF0 : Int) : Option (Bool) :=
  ((slices_IndexFunc_int64_impl_groupsOf_1 aS aF0).bind fun x1 => some (decide (x1 ≥ 0)))
set_option maxRecDepth 100000 in
set_option maxHeartbeats 4000000 in
theorem slices_ContainsFunc_int64_impl_groupsOf_1_run (aS : (List (List Int))) (aF0 : Int) (r : Bool) (h : slices_ContainsFunc_int64_impl_groupsOf_1 aS aF0 = some r) : SCall Tryd.prog 88 [.v (vl (eL (eI .i64)) aS), .v (.clo 89 [.ptr [vi aF0] 0])] ⟨[.v (vb r)], [], false⟩ := by
  refine scall_in Tryd.func88 rfl [(.tmp 4)] rfl (fun r => ⟨[.v (vb r)], [], false⟩) (r := r) ?_
  unfold slices_ContainsFunc_int64_impl_groupsOf_1 at h
  refine swp_seq ?_
  refine swp_reg ?_
  refine SRun.ck tbok 1 ⟨9, [(0, vl (eL (eI .i64)) aS), (1, .clo 89 [.ptr [vi aF0] 0])], []⟩ ?_
  refine SRun.nil ?_
  refine nx_n ?_
  refine swp_seq ?_
  refine swp_reg ?_
  refine SRun.ck tbok 2 ⟨9, [(5, vl (eL (eI .i64)) aS), (6, .clo 89 [.ptr [vi aF0] 0])], []⟩ ?_
  obtain ⟨x1, hx1, h⟩ := bind_some h
  refine SRun.ls (x_lstep_call (f := 97) (caps := []) (xs := [vl (eL (eI .i64)) aS, .clo 89 [.ptr [vi aF0] 0]]) (ys := [vl (eL (eI .i64)) aS, .clo 89 [.ptr [vi aF0] 0]]) (res := ⟨[.v (vi x1)], [], false⟩) (x := vi x1) (y := none) rfl ents97 (slices_IndexFunc_int64_impl_groupsOf_1_run aS aF0 _ hx1) rfl (by intro hc; cases hc)) ?_
  refine SRun.ck tbok 2 ⟨9, [(4, vb (decide (x1 ≥ 0)))], []⟩ ?_
  refine SRun.nil ?_
  refine nx_n ?_
  refine swp_ret ?_
  replace h := Option.some.inj h
  subst h
  exact q_fr (fin1 (by kernel_rfl) (finV rfl SV.flat_of (holds_t (by kernel_rfl))))
theorem ents88 : Ents Tryd.prog 88 := ents_of Tryd.func88 (by kernel_rfl) rfl
noncomputable def impl_groupsOf (aN : Int) (aList : (List Tie)) : Option ((List (List Int))) :=
  (((forS aN (fun (i3 : Int) (s3 : (List (List Int))) => ((slices_ContainsFunc_int64_impl_groupsOf_1 s3 i3).bind fun x7 => (bif x7 then some s3 else ((impl_far aN aList i3).bind fun x8 => (((forS (x8.length : Int) (fun (i11 : Int) (s11 : (List Int)) => ((at' x8 i11).bind fun x15 => (bif (decide (x15 ≥ 0)) then ((app' s11 ([i11] : List Int)).bind fun x16 => some x16) else some s11))) (fun (s11 : (List Int)) => s11) 0 ([] : List Int))).bind fun (j9 : (List Int)) => ((app' s3 ([j9] : List (List Int))).bind fun x17 => some x17)))))) (fun (s3 : (List (List Int))) => s3) 0 ([] : List (List Int)))).bind fun (j1 : (List (List Int))) => some j1)
set_option maxRecDepth 100000 in
set_option maxHeartbeats 4000000 in
theorem impl_groupsOf_run (aN : Int) (aList : (List Tie)) (r : (List (List Int))) (h : impl_groupsOf aN aList = some r) : SCall Tryd.prog 71 [.v (vi aN), .v (vl eTie aList)] ⟨[.own 50 1 r.length (r.map (eL (eI .i64)))], [], true⟩ := by
  refine scall_in Tryd.func71 rfl [(.tmp 4)] rfl (fun r => ⟨[.own 50 1 r.length (r.map (eL (eI .i64)))], [], true⟩) (r := r) ?_
  unfold impl_groupsOf at h
  refine swp_seq ?_
  refine swp_reg ?_
  refine SRun.ck tbok 1 ⟨40, [(0, vi aN), (1, vl eTie aList)], []⟩ ?_
  refine SRun.nil ?_
  refine nx_n ?_
  refine swp_seq ?_
  refine swp_reg ?_
  refine SRun.ck tbok 1 ⟨40, [(0, vi aN), (1, vl eTie aList), (5, .own 5)], [(5, .arr 50 1 ([] : List (List Int)).length (([] : List (List Int)).map (eL (eI .i64))))]⟩ ?_
  refine SRun.nil ?_
  refine nx_n ?_
  refine swp_seq ?_
  refine swp_seq ?_
  refine swp_reg ?_
  refine SRun.ck tbok 2 ⟨40, [(0, vi aN), (1, vl eTie aList), (5, .own 5), (10, vi aN), (11, vi 0)], [(5, .arr 50 1 ([] : List (List Int)).length (([] : List (List Int)).map (eL (eI .i64))))]⟩ ?_
  refine SRun.nil ?_
  refine nx_n ?_
  refine swp_seqJ h (fun j1 => ⟨40, [(5, .own 5)], [(5, .arr 50 1 j1.length (j1.map (eL (eI .i64))))]⟩) (fun v2 h => ?_) (fun j1 h => ?_)
  refine swp_blk (a := v2) ?_
  refine swp_lpL (r := v2) (s := (0, ([] : List (List Int)))) _ (fun s3 => ⟨40, [(0, vi aN), (1, vl eTie aList), (5, .own 5), (10, vi aN), (11, vi s3.1)], [(5, .arr 50 1 s3.2.length (s3.2.map (eL (eI .i64))))]⟩) _ (Le.sub0) h (fun s3 v4 h => ?_)
  refine swp_seq ?_
  refine swp_reg ?_
  refine SRun.ck tbok 1 ⟨40, [(0, vi aN), (1, vl eTie aList), (5, .own 5), (10, vi aN), (11, vi s3.1), (12, vb (decide (s3.1 < aN)))], [(5, .arr 50 1 s3.2.length (s3.2.map (eL (eI .i64))))]⟩ ?_
  refine SRun.nil ?_
  refine nx_n ?_
  refine swp_seq ?_
  refine swp_cond (b := (decide (s3.1 < aN))) (by kernel_rfl) (fun hb => ?_) (fun hb => ?_)
  replace h := cond_t hb h
  refine swp_skip ?_
  refine nx_n ?_
  refine swp_seq ?_
  refine swp_seqJ h (fun j5 => ⟨40, [(0, vi aN), (1, vl eTie aList), (5, .own 5), (10, vi aN), (11, vi s3.1)], [(5, .arr 50 1 j5.length (j5.map (eL (eI .i64))))]⟩) (fun v6 h => ?_) (fun j5 h => ?_)
  refine swp_blk (a := v6) ?_
  refine swp_seq ?_
  refine swp_reg ?_
  refine SRun.ck tbok 2 ⟨40, [(0, vi aN), (1, vl eTie aList), (5, .own 5), (6, .ref 6 0), (10, vi aN), (11, vi s3.1), (13, vi s3.1)], [(5, .arr 50 1 s3.2.length (s3.2.map (eL (eI .i64)))), (6, .box [vi 0])]⟩ ?_
  refine SRun.estep (x_estep_store (d := 6) (k := 0) (ti := ti2) (cs := [vi 0]) (vs := [vi s3.1]) (v := vi s3.1) tbok rfl rfl) ?_
  refine SRun.nil ?_
  refine nx_n ?_
  refine swp_seq ?_
  refine swp_seq ?_
  refine swp_reg ?_
  refine SRun.ck tbok 2 ⟨40, [(0, vi aN), (1, vl eTie aList), (5, .own 5), (6, .ref 6 0), (10, vi aN), (11, vi s3.1), (14, .own 5), (15, .clo 89 [.ref 6 0])], [(5, .arr 50 1 s3.2.length (s3.2.map (eL (eI .i64)))), (6, .box [vi s3.1])]⟩ ?_
  obtain ⟨x7, hx7, h⟩ := bind_some h
  refine SRun.ls (x_lstep_call (f := 88) (caps := []) (xs := [.own 5, .clo 89 [.ref 6 0]]) (ys := [vl (eL (eI .i64)) s3.2, .clo 89 [.ptr [vi s3.1] 0]]) (res := ⟨[.v (vb x7)], [], false⟩) (x := vb x7) (y := none) rfl ents88 (slices_ContainsFunc_int64_impl_groupsOf_1_run s3.2 s3.1 _ hx7) rfl (by intro hc; cases hc)) ?_
  refine SRun.nil ?_
  refine nx_n ?_
  refine swp_cond (b := x7) (by kernel_rfl) (fun hb => ?_) (fun hb => ?_)
  replace h := cond_t hb h
  refine swp_exit ?_
  replace h := Option.some.inj h
  subst h
  exact nx_e (q_bh (q_j (Le.sub0)))
  replace h := cond_f hb h
  refine swp_skip ?_
  refine nx_n ?_
  refine swp_seq ?_
  refine swp_reg ?_
  refine SRun.ck tbok 1 ⟨40, [(0, vi aN), (1, vl eTie aList), (5, .own 5), (6, .ref 6 0), (7, .own 7), (10, vi aN), (11, vi s3.1)], [(5, .arr 50 1 s3.2.length (s3.2.map (eL (eI .i64)))), (6, .box [vi s3.1]), (7, .arr 2 1 ([] : List Int).length (([] : List Int).map (eI .i64)))]⟩ ?_
  refine SRun.nil ?_
  refine nx_n ?_
  refine swp_seq ?_
  refine swp_seq ?_
  refine swp_reg ?_
  refine SRun.ck tbok 3 ⟨40, [(0, vi aN), (1, vl eTie aList), (5, .own 5), (7, .own 7), (10, vi aN), (11, vi s3.1), (17, vi aN), (18, vl eTie aList), (19, vi s3.1)], [(5, .arr 50 1 s3.2.length (s3.2.map (eL (eI .i64)))), (7, .arr 2 1 ([] : List Int).length (([] : List Int).map (eI .i64)))]⟩ ?_
  obtain ⟨x8, hx8, h⟩ := bind_some h
  refine SRun.ls (x_lstep_call (f := 76) (caps := []) (xs := [vi aN, vl eTie aList, vi s3.1]) (ys := [vi aN, vl eTie aList, vi s3.1]) (res := ⟨[.own 2 1 x8.length (x8.map (eI .i64))], [], false⟩) (x := .own 20) (y := some (.arr 2 1 x8.length (x8.map (eI .i64)))) rfl ents76 (impl_far_run aN aList s3.1 _ hx8) rfl (by intro hc; cases hc)) ?_
  refine SRun.ck tbok 2 ⟨40, [(0, vi aN), (1, vl eTie aList), (5, .own 5), (7, .own 7), (10, vi aN), (11, vi s3.1), (20, .own 20), (21, vi (x8.length : Int)), (22, vi 0)], [(5, .arr 50 1 s3.2.length (s3.2.map (eL (eI .i64)))), (7, .arr 2 1 ([] : List Int).length (([] : List Int).map (eI .i64))), (20, .arr 2 1 x8.length (x8.map (eI .i64)))]⟩ ?_
  refine SRun.nil ?_
  refine nx_n ?_
  refine swp_seqJ h (fun j9 => ⟨40, [(0, vi aN), (1, vl eTie aList), (5, .own 5), (7, .own 7), (10, vi aN), (11, vi s3.1)], [(5, .arr 50 1 s3.2.length (s3.2.map (eL (eI .i64)))), (7, .arr 2 1 j9.length (j9.map (eI .i64)))]⟩) (fun v10 h => ?_) (fun j9 h => ?_)
  refine swp_blk (a := v10) ?_
  refine swp_lpL (r := v10) (s := (0, ([] : List Int))) _ (fun s11 => ⟨40, [(0, vi aN), (1, vl eTie aList), (5, .own 5), (7, .own 7), (10, vi aN), (11, vi s3.1), (20, .own 20), (21, vi (x8.length : Int)), (22, vi s11.1)], [(5, .arr 50 1 s3.2.length (s3.2.map (eL (eI .i64)))), (7, .arr 2 1 s11.2.length (s11.2.map (eI .i64))), (20, .arr 2 1 x8.length (x8.map (eI .i64)))]⟩) _ (Le.sub0) h (fun s11 v12 h => ?_)
  refine swp_seq ?_
  refine swp_reg ?_
  refine SRun.ck tbok 1 ⟨40, [(0, vi aN), (1, vl eTie aList), (5, .own 5), (7, .own 7), (10, vi aN), (11, vi s3.1), (20, .own 20), (21, vi (x8.length : Int)), (22, vi s11.1), (23, vb (decide (s11.1 < (x8.length : Int))))], [(5, .arr 50 1 s3.2.length (s3.2.map (eL (eI .i64)))), (7, .arr 2 1 s11.2.length (s11.2.map (eI .i64))), (20, .arr 2 1 x8.length (x8.map (eI .i64)))]⟩ ?_
  refine SRun.nil ?_
  refine nx_n ?_
  refine swp_seq ?_
  refine swp_cond (b := (decide (s11.1 < (x8.length : Int)))) (by kernel_rfl) (fun hb => ?_) (fun hb => ?_)
  replace h := cond_t hb h
  refine swp_skip ?_
  refine nx_n ?_
  refine swp_seq ?_
  refine swp_seqJ h (fun j13 => ⟨40, [(0, vi aN), (1, vl eTie aList), (5, .own 5), (7, .own 7), (10, vi aN), (11, vi s3.1), (20, .own 20), (21, vi (x8.length : Int)), (22, vi s11.1)], [(5, .arr 50 1 s3.2.length (s3.2.map (eL (eI .i64)))), (7, .arr 2 1 j13.length (j13.map (eI .i64))), (20, .arr 2 1 x8.length (x8.map (eI .i64)))]⟩) (fun v14 h => ?_) (fun j13 h => ?_)
  refine swp_blk (a := v14) ?_
  refine swp_seq ?_
  refine swp_reg ?_
  refine SRun.ck tbok 1 ⟨40, [(0, vi aN), (1, vl eTie aList), (5, .own 5), (7, .own 7), (10, vi aN), (11, vi s3.1), (20, .own 20), (21, vi (x8.length : Int)), (22, vi s11.1), (24, vi s11.1)], [(5, .arr 50 1 s3.2.length (s3.2.map (eL (eI .i64)))), (7, .arr 2 1 s11.2.length (s11.2.map (eI .i64))), (20, .arr 2 1 x8.length (x8.map (eI .i64)))]⟩ ?_
  obtain ⟨x15, hx15, h⟩ := bind_some h
  refine SRun.ls (x_index_own (d := 20) (L := x8) (f := (eI .i64)) (ti := ti50) (tj := ti2) (e := 2) (e' := 2) (m := 1) (k := .i64) tbok rfl hx15) ?_
  refine SRun.ls (x_load_own (d := 20) (m := 1) (j := 0) (L := x8) (f := (eI .i64)) (ti := ti2) (e := 2) (v := vi x15) tbok rfl hx15) ?_
  refine SRun.ck tbok 2 ⟨40, [(0, vi aN), (1, vl eTie aList), (5, .own 5), (7, .own 7), (8, vi s11.1), (9, vi x15), (10, vi aN), (11, vi s3.1), (20, .own 20), (21, vi (x8.length : Int)), (22, vi s11.1)], [(5, .arr 50 1 s3.2.length (s3.2.map (eL (eI .i64)))), (7, .arr 2 1 s11.2.length (s11.2.map (eI .i64))), (20, .arr 2 1 x8.length (x8.map (eI .i64)))]⟩ ?_
  refine SRun.nil ?_
  refine nx_n ?_
  refine swp_seq ?_
  refine swp_reg ?_
  refine SRun.ck tbok 2 ⟨40, [(0, vi aN), (1, vl eTie aList), (5, .own 5), (7, .own 7), (8, vi s11.1), (10, vi aN), (11, vi s3.1), (20, .own 20), (21, vi (x8.length : Int)), (22, vi s11.1), (28, vb (decide (x15 ≥ 0)))], [(5, .arr 50 1 s3.2.length (s3.2.map (eL (eI .i64)))), (7, .arr 2 1 s11.2.length (s11.2.map (eI .i64))), (20, .arr 2 1 x8.length (x8.map (eI .i64)))]⟩ ?_
  refine SRun.nil ?_
  refine nx_n ?_
  refine swp_cond (b := (decide (x15 ≥ 0))) (by kernel_rfl) (fun hb => ?_) (fun hb => ?_)
  replace h := cond_t hb h
  refine swp_reg ?_
  refine SRun.ck tbok 3 ⟨40, [(0, vi aN), (1, vl eTie aList), (5, .own 5), (10, vi aN), (11, vi s3.1), (20, .own 20), (21, vi (x8.length : Int)), (22, vi s11.1), (29, .own 7), (31, .own 31)], [(5, .arr 50 1 s3.2.length (s3.2.map (eL (eI .i64)))), (7, .arr 2 1 s11.2.length (s11.2.map (eI .i64))), (20, .arr 2 1 x8.length (x8.map (eI .i64))), (31, .arr 2 1 ([s11.1] : List Int).length (([s11.1] : List Int).map (eI .i64)))]⟩ ?_
  obtain ⟨x16, hx16, h⟩ := bind_some h
  refine SRun.estep (x_append (f := (eI .i64)) (t := 50) (ti := ti50) (tj := ti2) (zs := [.int .i64 0]) (e := 2) (m := 1) (d := 7) (xv := .own 31) hx16 tbok rfl rfl rfl rfl (x_src_o (e := 2))) ?_
  refine SRun.ck tbok 1 ⟨40, [(0, vi aN), (1, vl eTie aList), (5, .own 5), (7, .own 32), (10, vi aN), (11, vi s3.1), (20, .own 20), (21, vi (x8.length : Int)), (22, vi s11.1)], [(5, .arr 50 1 s3.2.length (s3.2.map (eL (eI .i64)))), (20, .arr 2 1 x8.length (x8.map (eI .i64))), (32, .arr 2 1 x16.length (x16.map (eI .i64)))]⟩ ?_
  refine SRun.nil ?_
  replace h := Option.some.inj h
  subst h
  exact q_bn (q_j ((Le.sub' ([(0, vi aN), (1, vl eTie aList), (5, .own 5), (7, .own 32), (10, vi aN), (11, vi s3.1), (20, .own 20), (21, vi (x8.length : Int)), (22, vi s11.1)] : List (Nat × SV)) ([(5, .arr 50 1 s3.2.length (s3.2.map (eL (eI .i64)))), (20, .arr 2 1 x8.length (x8.map (eI .i64))), (32, .arr 2 1 x16.length (x16.map (eI .i64)))] : List (Nat × SO)) (by kernel_rfl) (by kernel_rfl)).trans ((Le.ren' (d := 32) (e := 7) (by kernel_rfl) (by kernel_rfl) (by kernel_rfl)).trans (Le.sub0))))
  replace h := cond_f hb h
  refine swp_skip ?_
  replace h := Option.some.inj h
  subst h
  exact q_bn (q_j (Le.sub0))
  refine swp_reg ?_
  refine SRun.ck tbok 2 ⟨40, [(0, vi aN), (1, vl eTie aList), (5, .own 5), (7, .own 7), (10, vi aN), (11, vi s3.1), (20, .own 20), (21, vi (x8.length : Int)), (22, vi (w64 (s11.1 + 1)))], [(5, .arr 50 1 s3.2.length (s3.2.map (eL (eI .i64)))), (7, .arr 2 1 j13.length (j13.map (eI .i64))), (20, .arr 2 1 x8.length (x8.map (eI .i64)))]⟩ ?_
  refine SRun.nil ?_
  replace h := Option.some.inj h
  subst h
  exact q_l (Le.sub0)
  replace h := cond_f hb h
  refine swp_exit ?_
  replace h := Option.some.inj h
  subst h
  exact nx_e (q_re (q_bh (q_j (Le.sub0))))
  refine swp_reg ?_
  refine SRun.ck tbok 2 ⟨40, [(0, vi aN), (1, vl eTie aList), (10, vi aN), (11, vi s3.1), (34, .own 5), (35, .own 7)], [(5, .arr 50 1 s3.2.length (s3.2.map (eL (eI .i64)))), (7, .arr 2 1 j9.length (j9.map (eI .i64)))]⟩ ?_
  refine SRun.le (Le.frz' (d := 7) (e := 2) (m := 1) (n := j9.length) (es := j9.map (eI .i64)) (by kernel_rfl) (by kernel_rfl)) ?_
  refine SRun.ck tbok 1 ⟨40, [(0, vi aN), (1, vl eTie aList), (10, vi aN), (11, vi s3.1), (34, .own 5), (36, .own 36)], [(5, .arr 50 1 s3.2.length (s3.2.map (eL (eI .i64)))), (36, .arr 50 1 ([j9] : List (List Int)).length (([j9] : List (List Int)).map (eL (eI .i64))))]⟩ ?_
  obtain ⟨x17, hx17, h⟩ := bind_some h
  refine SRun.estep (x_append (f := (eL (eI .i64))) (t := 45) (ti := ti45) (tj := ti50) (zs := [.slice none 0 0]) (e := 50) (m := 1) (d := 5) (xv := .own 36) hx17 tbok rfl rfl rfl rfl (x_src_o (e := 50))) ?_
  refine SRun.ck tbok 1 ⟨40, [(0, vi aN), (1, vl eTie aList), (5, .own 37), (10, vi aN), (11, vi s3.1)], [(37, .arr 50 1 x17.length (x17.map (eL (eI .i64))))]⟩ ?_
  refine SRun.nil ?_
  replace h := Option.some.inj h
  subst h
  exact q_bn (q_j ((Le.sub' ([(0, vi aN), (1, vl eTie aList), (5, .own 37), (10, vi aN), (11, vi s3.1)] : List (Nat × SV)) ([(37, .arr 50 1 x17.length (x17.map (eL (eI .i64))))] : List (Nat × SO)) (by kernel_rfl) (by kernel_rfl)).trans ((Le.ren' (d := 37) (e := 5) (by kernel_rfl) (by kernel_rfl) (by kernel_rfl)).trans (Le.sub0))))
  refine swp_reg ?_
  refine SRun.ck tbok 2 ⟨40, [(0, vi aN), (1, vl eTie aList), (5, .own 5), (10, vi aN), (11, vi (w64 (s3.1 + 1)))], [(5, .arr 50 1 j5.length (j5.map (eL (eI .i64))))]⟩ ?_
  refine SRun.nil ?_
  replace h := Option.some.inj h
  subst h
  exact q_l (Le.sub0)
  replace h := cond_f hb h
  refine swp_exit ?_
  replace h := Option.some.inj h
  subst h
  exact nx_e (q_re (q_bh (q_j (Le.sub0))))
  refine swp_seq ?_
  refine swp_reg ?_
  refine SRun.ck tbok 2 ⟨40, [(4, .own 5)], [(5, .arr 50 1 j1.length (j1.map (eL (eI .i64))))]⟩ ?_
  refine SRun.nil ?_
  refine nx_n ?_
  refine swp_ret ?_
  replace h := Option.some.inj h
  subst h
  exact q_fr (fin1 (by kernel_rfl) (finOT (d := 5) (holds_t (by kernel_rfl)) (by kernel_rfl) (by kernel_rfl)))
theorem ents71 : Ents Tryd.prog 71 := ents_of Tryd.func71 (by kernel_rfl) rfl
noncomputable def impl_SplitsBy (aN : Int) (aList : (List Tie)) (aIndex : Int) : Option (Bool × Int) :=
  ((impl_tieCode aN aList aIndex).bind fun x1 => (bif (x1 != 0) then some (false, x1) else ((impl_lessTie aList aIndex).bind fun x2 => ((impl_groupsOf aN x2).bind fun x3 => ((impl_groupsOf aN aList).bind fun x4 => some ((decide ((x3.length : Int) > (x4.length : Int))), 0))))))
set_option maxRecDepth 100000 in
set_option maxHeartbeats 4000000 in
theorem impl_SplitsBy_run (aN : Int) (aList : (List Tie)) (aIndex : Int) (r : Bool × Int) (h : impl_SplitsBy aN aList aIndex = some r) : SCall Tryd.prog 28 [.v (vi aN), .v (vl eTie aList), .v (vi aIndex)] ⟨[.v (vb r.1), .v (vi r.2)], [], false⟩ := by
  refine scall_in Tryd.func28 rfl [(.tmp 6), (.tmp 7)] rfl (fun r => ⟨[.v (vb r.1), .v (vi r.2)], [], false⟩) (r := r) ?_
  unfold impl_SplitsBy at h
  refine swp_seq ?_
  refine swp_reg ?_
  refine SRun.ck tbok 2 ⟨27, [(0, vi aN), (1, vl eTie aList), (2, vi aIndex)], []⟩ ?_
  refine SRun.nil ?_
  refine nx_n ?_
  refine swp_seq ?_
  refine swp_seq ?_
  refine swp_reg ?_
  refine SRun.ck tbok 3 ⟨27, [(0, vi aN), (1, vl eTie aList), (2, vi aIndex), (9, vi aN), (10, vl eTie aList), (11, vi aIndex)], []⟩ ?_
  obtain ⟨x1, hx1, h⟩ := bind_some h
  refine SRun.ls (x_lstep_call (f := 62) (caps := []) (xs := [vi aN, vl eTie aList, vi aIndex]) (ys := [vi aN, vl eTie aList, vi aIndex]) (res := ⟨[.v (vi x1)], [], false⟩) (x := vi x1) (y := none) rfl ents62 (impl_tieCode_run aN aList aIndex _ hx1) rfl (by intro hc; cases hc)) ?_
  refine SRun.ck tbok 1 ⟨27, [(0, vi aN), (1, vl eTie aList), (2, vi aIndex), (8, vi x1)], []⟩ ?_
  refine SRun.nil ?_
  refine nx_n ?_
  refine swp_seq ?_
  refine swp_reg ?_
  refine SRun.ck tbok 2 ⟨27, [(0, vi aN), (1, vl eTie aList), (2, vi aIndex), (8, vi x1), (14, vb (x1 != 0))], []⟩ ?_
  refine SRun.nil ?_
  refine nx_n ?_
  refine swp_cond (b := (x1 != 0)) (by kernel_rfl) (fun hb => ?_) (fun hb => ?_)
  replace h := cond_t hb h
  refine swp_seq ?_
  refine swp_reg ?_
  refine SRun.ck tbok 3 ⟨27, [(6, vb false), (7, vi x1)], []⟩ ?_
  refine SRun.nil ?_
  refine nx_n ?_
  refine swp_ret ?_
  replace h := Option.some.inj h
  subst h
  exact nx_r (q_fr (fin2 (by kernel_rfl) (finV rfl SV.flat_of (holds_t (by kernel_rfl))) (finV rfl SV.flat_of (holds_t (by kernel_rfl)))))
  replace h := cond_f hb h
  refine swp_skip ?_
  refine nx_n ?_
  refine swp_seq ?_
  refine swp_reg ?_
  refine SRun.ck tbok 3 ⟨27, [(0, vi aN), (1, vl eTie aList), (16, vi aN), (17, vl eTie aList), (18, vi aIndex)], []⟩ ?_
  obtain ⟨x2, hx2, h⟩ := bind_some h
  refine SRun.ls (x_lstep_call (f := 63) (caps := []) (xs := [vl eTie aList, vi aIndex]) (ys := [vl eTie aList, vi aIndex]) (res := ⟨[.own 42 4 x2.length (x2.map eTie)], [], false⟩) (x := .own 19) (y := some (.arr 42 4 x2.length (x2.map eTie))) rfl ents63 (impl_lessTie_run aList aIndex _ hx2) rfl (by intro hc; cases hc)) ?_
  refine SRun.le (Le.frz' (d := 19) (e := 42) (m := 4) (n := x2.length) (es := x2.map eTie) (by kernel_rfl) (by kernel_rfl)) ?_
  obtain ⟨x3, hx3, h⟩ := bind_some h
  refine SRun.ls (x_lstep_call (f := 71) (caps := []) (xs := [vi aN, vl eTie x2]) (ys := [vi aN, vl eTie x2]) (res := ⟨[.own 50 1 x3.length (x3.map (eL (eI .i64)))], [], true⟩) (x := .own 20) (y := some (.arr 50 1 x3.length (x3.map (eL (eI .i64))))) rfl ents71 (impl_groupsOf_run aN x2 _ hx3) rfl (fun _ => rfl)) ?_
  refine SRun.ck tbok 3 ⟨27, [(21, vi (x3.length : Int)), (22, vi aN), (23, vl eTie aList)], []⟩ ?_
  obtain ⟨x4, hx4, h⟩ := bind_some h
  refine SRun.ls (x_lstep_call (f := 71) (caps := []) (xs := [vi aN, vl eTie aList]) (ys := [vi aN, vl eTie aList]) (res := ⟨[.own 50 1 x4.length (x4.map (eL (eI .i64)))], [], true⟩) (x := .own 24) (y := some (.arr 50 1 x4.length (x4.map (eL (eI .i64))))) rfl ents71 (impl_groupsOf_run aN aList _ hx4) rfl (fun _ => rfl)) ?_
  refine SRun.ck tbok 4 ⟨27, [(6, vb (decide ((x3.length : Int) > (x4.length : Int)))), (7, vi 0)], []⟩ ?_
  refine SRun.nil ?_
  refine nx_n ?_
  refine swp_ret ?_
  replace h := Option.some.inj h
  subst h
  exact q_fr (fin2 (by kernel_rfl) (finV rfl SV.flat_of (holds_t (by kernel_rfl))) (finV rfl SV.flat_of (holds_t (by kernel_rfl))))
theorem ents28 : Ents Tryd.prog 28 := ents_of Tryd.func28 (by kernel_rfl) rfl
noncomputable def spec_l31Without (aList : (List Tie)) (aIndex : Int) : Option ((List Tie)) :=
  ((part' aList 0 aIndex).bind fun x1 => ((app' ([] : List Tie) x1).bind fun x2 => ((part' aList (w64 (aIndex + 1)) (aList.length : Int)).bind fun x3 => ((app' x2 x3).bind fun x4 => some x4))))
set_option maxRecDepth 100000 in
set_option maxHeartbeats 4000000 in
theorem spec_l31Without_run (aList : (List Tie)) (aIndex : Int) (r : (List Tie)) (h : spec_l31Without aList aIndex = some r) : SCall Tryd.prog 61 [.v (vl eTie aList), .v (vi aIndex)] ⟨[.own 42 4 r.length (r.map eTie)], [], false⟩ := by
  refine scall_in Tryd.func61 rfl [(.tmp 4)] rfl (fun r => ⟨[.own 42 4 r.length (r.map eTie)], [], false⟩) (r := r) ?_
  unfold spec_l31Without at h
  refine swp_seq ?_
  refine swp_reg ?_
  refine SRun.ck tbok 1 ⟨15, [(0, vl eTie aList), (1, vi aIndex)], []⟩ ?_
  refine SRun.nil ?_
  refine nx_n ?_
  refine swp_seq ?_
  obtain ⟨x1, hx1, h⟩ := bind_some h
  obtain ⟨x2, hx2, h⟩ := bind_some h
  obtain ⟨x3, hx3, h⟩ := bind_some h
  obtain ⟨x4, hx4, h⟩ := bind_some h
  refine swp_dr mixed ?_
  refine DGo.enum (σE := ⟨15, [(4, .own 14)], [(14, .arr 42 4 x4.length (x4.map eTie))]⟩) (n := 11) (L0 := #[false, false, false, false, false, false, false, false, false, false, false]) (by kernel_rfl) (by kernel_rfl) (fun K hk => ?_) ?_
  refine DE.share (fuel := 0) (L := #[true, true, true, true, true, true, true, true, true, true, true]) (σ := ⟨15, [(4, .own 14)], [(14, .arr 42 4 x4.length (x4.map eTie))]⟩) ?_ (fun d20 => ?_)
  exact DE.done (by kernel_rfl) hk
  refine DE.share (fuel := 1) (L := #[true, true, true, true, true, true, true, true, true, true, false]) (σ := ⟨15, [(14, .own 14)], [(14, .arr 42 4 x4.length (x4.map eTie))]⟩) ?_ (fun d19 => ?_)
  exact DE.take (i := 10) (L' := #[true, true, true, true, true, true, true, true, true, true, true]) rfl (.inr rfl) rfl (by kernel_rfl) (by kernel_rfl) (by kernel_rfl) (EStep.le (EStep.ofN2 tbok (σ' := ⟨15, [(4, .own 14), (14, .own 14)], [(14, .arr 42 4 x4.length (x4.map eTie))]⟩) (by kernel_rfl)) Le.sub0) (by kernel_rfl) d20
  refine DE.share (fuel := 2) (L := #[true, true, true, true, true, true, true, true, true, false, false]) (σ := ⟨15, [(9, .own 9), (13, vl eTie x3)], [(9, .arr 42 4 x2.length (x2.map eTie))]⟩) ?_ (fun d18 => ?_)
  exact DE.all [9] (by kernel_rfl) (by simp) (List.forall_mem_cons.2 ⟨DEs.mk (i := 9) (L' := #[true, true, true, true, true, true, true, true, true, true, false]) rfl (EStep.le (x_append (f := eTie) (t := 25) (ti := ti25) (tj := ti42) (zs := [.int .i64 0, .int .i64 0, .bool false, .string (ByteArray.mk #[])]) (e := 42) (m := 4) (d := 9) (xv := vl eTie x3) hx4 tbok rfl rfl rfl rfl (src_e (fun _ => rfl))) Le.sub0) (by kernel_rfl) d19, (fun _ h => absurd h List.not_mem_nil)⟩)
  refine DE.share (fuel := 3) (L := #[true, true, true, true, false, true, true, true, true, false, false]) (σ := ⟨15, [(5, .own 5), (8, vl eTie x1), (13, vl eTie x3)], [(5, .arr 42 4 ([] : List Tie).length (([] : List Tie).map eTie))]⟩) ?_ (fun d17 => ?_)
  exact DE.all [4] (by kernel_rfl) (by simp) (List.forall_mem_cons.2 ⟨DEs.mk (i := 4) (L' := #[true, true, true, true, true, true, true, true, true, false, false]) rfl (EStep.le (x_append (f := eTie) (t := 25) (ti := ti25) (tj := ti42) (zs := [.int .i64 0, .int .i64 0, .bool false, .string (ByteArray.mk #[])]) (e := 42) (m := 4) (d := 5) (xv := vl eTie x1) hx2 tbok rfl rfl rfl rfl (src_e (fun _ => rfl))) Le.sub0) (by kernel_rfl) d18, (fun _ h => absurd h List.not_mem_nil)⟩)
  refine DE.share (fuel := 3) (L := #[true, true, true, true, true, true, true, true, false, false, false]) (σ := ⟨15, [(9, .own 9), (10, vl eTie aList), (12, vi (w64 (aIndex + 1)))], [(9, .arr 42 4 x2.length (x2.map eTie))]⟩) ?_ (fun d16 => ?_)
  exact DE.all [8] (by kernel_rfl) (by simp) (List.forall_mem_cons.2 ⟨DEs.mk (i := 8) (L' := #[true, true, true, true, true, true, true, true, true, false, false]) rfl (EStep.le (EStep.ofL (x_slice (m := 4) (f := eTie) (ti := ti25) (tj := ti42) (e := 42) hx3 (fun _ => rfl) tbok rfl) (by kernel_rfl)) Le.sub0) (by kernel_rfl) d18, (fun _ h => absurd h List.not_mem_nil)⟩)
  refine DE.share (fuel := 4) (L := #[false, true, true, true, false, true, true, true, true, false, false]) (σ := ⟨15, [(8, vl eTie x1), (13, vl eTie x3)], []⟩) ?_ (fun d15 => ?_)
  exact DE.all [0] (by kernel_rfl) (by simp) (List.forall_mem_cons.2 ⟨DEs.mk (i := 0) (L' := #[true, true, true, true, false, true, true, true, true, false, false]) rfl (EStep.ofN2 tbok (σ' := ⟨15, [(5, .own 5), (8, vl eTie x1), (13, vl eTie x3)], [(5, .arr 42 4 ([] : List Tie).length (([] : List Tie).map eTie))]⟩) (by kernel_rfl)) (by kernel_rfl) d17, (fun _ h => absurd h List.not_mem_nil)⟩)
  refine DE.share (fuel := 4) (L := #[true, true, true, false, false, true, true, true, true, false, false]) (σ := ⟨15, [(5, .own 5), (6, vl eTie aList), (7, vi aIndex), (13, vl eTie x3)], [(5, .arr 42 4 ([] : List Tie).length (([] : List Tie).map eTie))]⟩) ?_ (fun d14 => ?_)
  exact DE.all [3] (by kernel_rfl) (by simp) (List.forall_mem_cons.2 ⟨DEs.mk (i := 3) (L' := #[true, true, true, true, false, true, true, true, true, false, false]) rfl (EStep.le (EStep.ofL (x_slice (m := 4) (f := eTie) (ti := ti25) (tj := ti42) (e := 42) hx1 (fun _ => rfl) tbok rfl) (by kernel_rfl)) Le.sub0) (by kernel_rfl) d17, (fun _ h => absurd h List.not_mem_nil)⟩)
  refine DE.share (fuel := 4) (L := #[true, true, true, true, false, true, true, true, false, false, false]) (σ := ⟨15, [(5, .own 5), (8, vl eTie x1), (10, vl eTie aList), (12, vi (w64 (aIndex + 1)))], [(5, .arr 42 4 ([] : List Tie).length (([] : List Tie).map eTie))]⟩) ?_ (fun d13 => ?_)
  exact DE.all [4, 8] (by kernel_rfl) (by simp) (List.forall_mem_cons.2 ⟨DEs.mk (i := 4) (L' := #[true, true, true, true, true, true, true, true, false, false, false]) rfl (EStep.le (x_append (f := eTie) (t := 25) (ti := ti25) (tj := ti42) (zs := [.int .i64 0, .int .i64 0, .bool false, .string (ByteArray.mk #[])]) (e := 42) (m := 4) (d := 5) (xv := vl eTie x1) hx2 tbok rfl rfl rfl rfl (src_e (fun _ => rfl))) Le.sub0) (by kernel_rfl) d16, (List.forall_mem_cons.2 ⟨DEs.mk (i := 8) (L' := #[true, true, true, true, false, true, true, true, true, false, false]) rfl (EStep.le (EStep.ofL (x_slice (m := 4) (f := eTie) (ti := ti25) (tj := ti42) (e := 42) hx3 (fun _ => rfl) tbok rfl) (by kernel_rfl)) Le.sub0) (by kernel_rfl) d17, (fun _ h => absurd h List.not_mem_nil)⟩)⟩)
  refine DE.share (fuel := 4) (L := #[true, true, true, true, true, true, true, false, false, false, false]) (σ := ⟨15, [(9, .own 9), (10, vl eTie aList), (11, vi aIndex)], [(9, .arr 42 4 x2.length (x2.map eTie))]⟩) ?_ (fun d12 => ?_)
  exact DE.all [7] (by kernel_rfl) (by simp) (List.forall_mem_cons.2 ⟨DEs.mk (i := 7) (L' := #[true, true, true, true, true, true, true, true, false, false, false]) rfl (EStep.le (EStep.ofN2 tbok (σ' := ⟨15, [(12, vi (w64 (aIndex + 1))), (9, .own 9), (10, vl eTie aList), (11, vi aIndex)], [(9, .arr 42 4 x2.length (x2.map eTie))]⟩) (by kernel_rfl)) Le.sub0) (by kernel_rfl) d16, (fun _ h => absurd h List.not_mem_nil)⟩)
  refine DE.share (fuel := 5) (L := #[false, true, true, false, false, true, true, true, true, false, false]) (σ := ⟨15, [(6, vl eTie aList), (7, vi aIndex), (13, vl eTie x3)], []⟩) ?_ (fun d11 => ?_)
  exact DE.all [0, 3] (by kernel_rfl) (by simp) (List.forall_mem_cons.2 ⟨DEs.mk (i := 0) (L' := #[true, true, true, false, false, true, true, true, true, false, false]) rfl (EStep.ofN2 tbok (σ' := ⟨15, [(5, .own 5), (6, vl eTie aList), (7, vi aIndex), (13, vl eTie x3)], [(5, .arr 42 4 ([] : List Tie).length (([] : List Tie).map eTie))]⟩) (by kernel_rfl)) (by kernel_rfl) d14, (List.forall_mem_cons.2 ⟨DEs.mk (i := 3) (L' := #[false, true, true, true, false, true, true, true, true, false, false]) rfl (EStep.le (EStep.ofL (x_slice (m := 4) (f := eTie) (ti := ti25) (tj := ti42) (e := 42) hx1 (fun _ => rfl) tbok rfl) (by kernel_rfl)) Le.sub0) (by kernel_rfl) d15, (fun _ h => absurd h List.not_mem_nil)⟩)⟩)
  refine DE.share (fuel := 5) (L := #[false, true, true, true, false, true, true, true, false, false, false]) (σ := ⟨15, [(8, vl eTie x1), (10, vl eTie aList), (12, vi (w64 (aIndex + 1)))], []⟩) ?_ (fun d10 => ?_)
  exact DE.all [0, 8] (by kernel_rfl) (by simp) (List.forall_mem_cons.2 ⟨DEs.mk (i := 0) (L' := #[true, true, true, true, false, true, true, true, false, false, false]) rfl (EStep.ofN2 tbok (σ' := ⟨15, [(5, .own 5), (8, vl eTie x1), (10, vl eTie aList), (12, vi (w64 (aIndex + 1)))], [(5, .arr 42 4 ([] : List Tie).length (([] : List Tie).map eTie))]⟩) (by kernel_rfl)) (by kernel_rfl) d13, (List.forall_mem_cons.2 ⟨DEs.mk (i := 8) (L' := #[false, true, true, true, false, true, true, true, true, false, false]) rfl (EStep.le (EStep.ofL (x_slice (m := 4) (f := eTie) (ti := ti25) (tj := ti42) (e := 42) hx3 (fun _ => rfl) tbok rfl) (by kernel_rfl)) Le.sub0) (by kernel_rfl) d15, (fun _ h => absurd h List.not_mem_nil)⟩)⟩)
  refine DE.share (fuel := 5) (L := #[true, true, true, false, false, true, true, true, false, false, false]) (σ := ⟨15, [(5, .own 5), (6, vl eTie aList), (7, vi aIndex), (10, vl eTie aList), (12, vi (w64 (aIndex + 1)))], [(5, .arr 42 4 ([] : List Tie).length (([] : List Tie).map eTie))]⟩) ?_ (fun d9 => ?_)
  exact DE.all [3, 8] (by kernel_rfl) (by simp) (List.forall_mem_cons.2 ⟨DEs.mk (i := 3) (L' := #[true, true, true, true, false, true, true, true, false, false, false]) rfl (EStep.le (EStep.ofL (x_slice (m := 4) (f := eTie) (ti := ti25) (tj := ti42) (e := 42) hx1 (fun _ => rfl) tbok rfl) (by kernel_rfl)) Le.sub0) (by kernel_rfl) d13, (List.forall_mem_cons.2 ⟨DEs.mk (i := 8) (L' := #[true, true, true, false, false, true, true, true, true, false, false]) rfl (EStep.le (EStep.ofL (x_slice (m := 4) (f := eTie) (ti := ti25) (tj := ti42) (e := 42) hx3 (fun _ => rfl) tbok rfl) (by kernel_rfl)) Le.sub0) (by kernel_rfl) d14, (fun _ h => absurd h List.not_mem_nil)⟩)⟩)
  refine DE.share (fuel := 5) (L := #[true, true, true, true, false, true, true, false, false, false, false]) (σ := ⟨15, [(5, .own 5), (8, vl eTie x1), (10, vl eTie aList), (11, vi aIndex)], [(5, .arr 42 4 ([] : List Tie).length (([] : List Tie).map eTie))]⟩) ?_ (fun d8 => ?_)
  exact DE.all [4, 7] (by kernel_rfl) (by simp) (List.forall_mem_cons.2 ⟨DEs.mk (i := 4) (L' := #[true, true, true, true, true, true, true, false, false, false, false]) rfl (EStep.le (x_append (f := eTie) (t := 25) (ti := ti25) (tj := ti42) (zs := [.int .i64 0, .int .i64 0, .bool false, .string (ByteArray.mk #[])]) (e := 42) (m := 4) (d := 5) (xv := vl eTie x1) hx2 tbok rfl rfl rfl rfl (src_e (fun _ => rfl))) Le.sub0) (by kernel_rfl) d12, (List.forall_mem_cons.2 ⟨DEs.mk (i := 7) (L' := #[true, true, true, true, false, true, true, true, false, false, false]) rfl (EStep.le (EStep.ofN2 tbok (σ' := ⟨15, [(12, vi (w64 (aIndex + 1))), (5, .own 5), (8, vl eTie x1), (10, vl eTie aList), (11, vi aIndex)], [(5, .arr 42 4 ([] : List Tie).length (([] : List Tie).map eTie))]⟩) (by kernel_rfl)) Le.sub0) (by kernel_rfl) d13, (fun _ h => absurd h List.not_mem_nil)⟩)⟩)
  refine DE.share (fuel := 6) (L := #[false, true, true, false, false, true, true, true, false, false, false]) (σ := ⟨15, [(6, vl eTie aList), (7, vi aIndex), (10, vl eTie aList), (12, vi (w64 (aIndex + 1)))], []⟩) ?_ (fun d7 => ?_)
  exact DE.all [0, 3, 8] (by kernel_rfl) (by simp) (List.forall_mem_cons.2 ⟨DEs.mk (i := 0) (L' := #[true, true, true, false, false, true, true, true, false, false, false]) rfl (EStep.ofN2 tbok (σ' := ⟨15, [(5, .own 5), (6, vl eTie aList), (7, vi aIndex), (10, vl eTie aList), (12, vi (w64 (aIndex + 1)))], [(5, .arr 42 4 ([] : List Tie).length (([] : List Tie).map eTie))]⟩) (by kernel_rfl)) (by kernel_rfl) d9, (List.forall_mem_cons.2 ⟨DEs.mk (i := 3) (L' := #[false, true, true, true, false, true, true, true, false, false, false]) rfl (EStep.le (EStep.ofL (x_slice (m := 4) (f := eTie) (ti := ti25) (tj := ti42) (e := 42) hx1 (fun _ => rfl) tbok rfl) (by kernel_rfl)) Le.sub0) (by kernel_rfl) d10, (List.forall_mem_cons.2 ⟨DEs.mk (i := 8) (L' := #[false, true, true, false, false, true, true, true, true, false, false]) rfl (EStep.le (EStep.ofL (x_slice (m := 4) (f := eTie) (ti := ti25) (tj := ti42) (e := 42) hx3 (fun _ => rfl) tbok rfl) (by kernel_rfl)) Le.sub0) (by kernel_rfl) d11, (fun _ h => absurd h List.not_mem_nil)⟩)⟩)⟩)
  refine DE.share (fuel := 6) (L := #[false, true, true, true, false, true, true, false, false, false, false]) (σ := ⟨15, [(8, vl eTie x1), (10, vl eTie aList), (11, vi aIndex)], []⟩) ?_ (fun d6 => ?_)
  exact DE.all [0, 7] (by kernel_rfl) (by simp) (List.forall_mem_cons.2 ⟨DEs.mk (i := 0) (L' := #[true, true, true, true, false, true, true, false, false, false, false]) rfl (EStep.ofN2 tbok (σ' := ⟨15, [(5, .own 5), (8, vl eTie x1), (10, vl eTie aList), (11, vi aIndex)], [(5, .arr 42 4 ([] : List Tie).length (([] : List Tie).map eTie))]⟩) (by kernel_rfl)) (by kernel_rfl) d8, (List.forall_mem_cons.2 ⟨DEs.mk (i := 7) (L' := #[false, true, true, true, false, true, true, true, false, false, false]) rfl (EStep.le (EStep.ofN2 tbok (σ' := ⟨15, [(12, vi (w64 (aIndex + 1))), (8, vl eTie x1), (10, vl eTie aList), (11, vi aIndex)], []⟩) (by kernel_rfl)) Le.sub0) (by kernel_rfl) d10, (fun _ h => absurd h List.not_mem_nil)⟩)⟩)
  refine DE.share (fuel := 6) (L := #[true, true, true, false, false, true, true, false, false, false, false]) (σ := ⟨15, [(5, .own 5), (6, vl eTie aList), (7, vi aIndex), (10, vl eTie aList), (11, vi aIndex)], [(5, .arr 42 4 ([] : List Tie).length (([] : List Tie).map eTie))]⟩) ?_ (fun d5 => ?_)
  exact DE.all [3, 7] (by kernel_rfl) (by simp) (List.forall_mem_cons.2 ⟨DEs.mk (i := 3) (L' := #[true, true, true, true, false, true, true, false, false, false, false]) rfl (EStep.le (EStep.ofL (x_slice (m := 4) (f := eTie) (ti := ti25) (tj := ti42) (e := 42) hx1 (fun _ => rfl) tbok rfl) (by kernel_rfl)) Le.sub0) (by kernel_rfl) d8, (List.forall_mem_cons.2 ⟨DEs.mk (i := 7) (L' := #[true, true, true, false, false, true, true, true, false, false, false]) rfl (EStep.le (EStep.ofN2 tbok (σ' := ⟨15, [(12, vi (w64 (aIndex + 1))), (5, .own 5), (6, vl eTie aList), (7, vi aIndex), (10, vl eTie aList), (11, vi aIndex)], [(5, .arr 42 4 ([] : List Tie).length (([] : List Tie).map eTie))]⟩) (by kernel_rfl)) Le.sub0) (by kernel_rfl) d9, (fun _ h => absurd h List.not_mem_nil)⟩)⟩)
  refine DE.share (fuel := 7) (L := #[false, true, true, false, false, true, true, false, false, false, false]) (σ := ⟨15, [(6, vl eTie aList), (7, vi aIndex), (10, vl eTie aList), (11, vi aIndex)], []⟩) ?_ (fun d4 => ?_)
  exact DE.all [0, 3, 7] (by kernel_rfl) (by simp) (List.forall_mem_cons.2 ⟨DEs.mk (i := 0) (L' := #[true, true, true, false, false, true, true, false, false, false, false]) rfl (EStep.ofN2 tbok (σ' := ⟨15, [(5, .own 5), (6, vl eTie aList), (7, vi aIndex), (10, vl eTie aList), (11, vi aIndex)], [(5, .arr 42 4 ([] : List Tie).length (([] : List Tie).map eTie))]⟩) (by kernel_rfl)) (by kernel_rfl) d5, (List.forall_mem_cons.2 ⟨DEs.mk (i := 3) (L' := #[false, true, true, true, false, true, true, false, false, false, false]) rfl (EStep.le (EStep.ofL (x_slice (m := 4) (f := eTie) (ti := ti25) (tj := ti42) (e := 42) hx1 (fun _ => rfl) tbok rfl) (by kernel_rfl)) Le.sub0) (by kernel_rfl) d6, (List.forall_mem_cons.2 ⟨DEs.mk (i := 7) (L' := #[false, true, true, false, false, true, true, true, false, false, false]) rfl (EStep.le (EStep.ofN2 tbok (σ' := ⟨15, [(12, vi (w64 (aIndex + 1))), (6, vl eTie aList), (7, vi aIndex), (10, vl eTie aList), (11, vi aIndex)], []⟩) (by kernel_rfl)) Le.sub0) (by kernel_rfl) d7, (fun _ h => absurd h List.not_mem_nil)⟩)⟩)⟩)
  refine DE.share (fuel := 8) (L := #[false, true, true, false, false, true, false, false, false, false, false]) (σ := ⟨15, [(1, vi aIndex), (6, vl eTie aList), (7, vi aIndex), (10, vl eTie aList)], []⟩) ?_ (fun d3 => ?_)
  exact DE.take (i := 6) (L' := #[false, true, true, false, false, true, true, false, false, false, false]) rfl (.inl rfl) rfl (by kernel_rfl) (by kernel_rfl) (by kernel_rfl) (EStep.le (EStep.ofN2 tbok (σ' := ⟨15, [(11, vi aIndex), (1, vi aIndex), (6, vl eTie aList), (7, vi aIndex), (10, vl eTie aList)], []⟩) (by kernel_rfl)) Le.sub0) (by kernel_rfl) d4
  refine DE.share (fuel := 9) (L := #[false, true, true, false, false, false, false, false, false, false, false]) (σ := ⟨15, [(0, vl eTie aList), (1, vi aIndex), (6, vl eTie aList), (7, vi aIndex)], []⟩) ?_ (fun d2 => ?_)
  exact DE.take (i := 5) (L' := #[false, true, true, false, false, true, false, false, false, false, false]) rfl (.inl rfl) rfl (by kernel_rfl) (by kernel_rfl) (by kernel_rfl) (EStep.le (EStep.ofN2 tbok (σ' := ⟨15, [(10, vl eTie aList), (0, vl eTie aList), (1, vi aIndex), (6, vl eTie aList), (7, vi aIndex)], []⟩) (by kernel_rfl)) Le.sub0) (by kernel_rfl) d3
  refine DE.share (fuel := 10) (L := #[false, true, false, false, false, false, false, false, false, false, false]) (σ := ⟨15, [(0, vl eTie aList), (1, vi aIndex), (6, vl eTie aList)], []⟩) ?_ (fun d1 => ?_)
  exact DE.take (i := 2) (L' := #[false, true, true, false, false, false, false, false, false, false, false]) rfl (.inl rfl) rfl (by kernel_rfl) (by kernel_rfl) (by kernel_rfl) (EStep.le (EStep.ofN2 tbok (σ' := ⟨15, [(7, vi aIndex), (0, vl eTie aList), (1, vi aIndex), (6, vl eTie aList)], []⟩) (by kernel_rfl)) Le.sub0) (by kernel_rfl) d2
  exact DE.take (i := 1) (L' := #[false, true, false, false, false, false, false, false, false, false, false]) rfl (.inl rfl) rfl (by kernel_rfl) (by kernel_rfl) (by kernel_rfl) (EStep.le (EStep.ofN2 tbok (σ' := ⟨15, [(6, vl eTie aList), (0, vl eTie aList), (1, vi aIndex)], []⟩) (by kernel_rfl)) Le.sub0) (by kernel_rfl) d1
  refine nx_n ?_
  refine swp_ret ?_
  replace h := Option.some.inj h
  subst h
  exact q_fr (fin1 (by kernel_rfl) (finO (d := 14) (holds_t (by kernel_rfl)) (by kernel_rfl) (flat_map eTie_flat _) (by kernel_rfl)))
theorem ents61 : Ents Tryd.prog 61 := ents_of Tryd.func61 (by kernel_rfl) rfl
noncomputable def spec_l31Groups (aN : Int) (aList : (List Tie)) : Option ((List (List Int))) :=
  (((forS aN (fun (i3 : Int) (s3 : (List (List Int))) => ((spec_l31Group aN aList i3).bind fun x7 => ((at' x7 0).bind fun x8 => (bif (x8 == i3) then ((app' s3 ([x7] : List (List Int))).bind fun x9 => some x9) else some s3)))) (fun (s3 : (List (List Int))) => s3) 0 ([] : List (List Int)))).bind fun (j1 : (List (List Int))) => some j1)
set_option maxRecDepth 100000 in
set_option maxHeartbeats 4000000 in
theorem spec_l31Groups_run (aN : Int) (aList : (List Tie)) (r : (List (List Int))) (h : spec_l31Groups aN aList = some r) : SCall Tryd.prog 70 [.v (vi aN), .v (vl eTie aList)] ⟨[.own 50 1 r.length (r.map (eL (eI .i64)))], [], true⟩ := by
  refine scall_in Tryd.func70 rfl [(.tmp 4)] rfl (fun r => ⟨[.own 50 1 r.length (r.map (eL (eI .i64)))], [], true⟩) (r := r) ?_
  unfold spec_l31Groups at h
  refine swp_seq ?_
  refine swp_reg ?_
  refine SRun.ck tbok 1 ⟨28, [(0, vi aN), (1, vl eTie aList)], []⟩ ?_
  refine SRun.nil ?_
  refine nx_n ?_
  refine swp_seq ?_
  refine swp_reg ?_
  refine SRun.ck tbok 2 ⟨28, [(0, vi aN), (1, vl eTie aList), (5, .own 8)], [(8, .arr 50 1 ([] : List (List Int)).length (([] : List (List Int)).map (eL (eI .i64))))]⟩ ?_
  refine SRun.nil ?_
  refine nx_n ?_
  refine swp_seq ?_
  refine swp_seq ?_
  refine swp_reg ?_
  refine SRun.ck tbok 1 ⟨28, [(0, vi aN), (1, vl eTie aList), (5, .own 8), (6, vi 0)], [(8, .arr 50 1 ([] : List (List Int)).length (([] : List (List Int)).map (eL (eI .i64))))]⟩ ?_
  refine SRun.nil ?_
  refine nx_n ?_
  refine swp_seqJ h (fun j1 => ⟨28, [(5, .own 5)], [(5, .arr 50 1 j1.length (j1.map (eL (eI .i64))))]⟩) (fun v2 h => ?_) (fun j1 h => ?_)
  refine swp_blk (a := v2) ?_
  refine swp_lpL (r := v2) (s := (0, ([] : List (List Int)))) _ (fun s3 => ⟨28, [(0, vi aN), (1, vl eTie aList), (5, .own 5), (6, vi s3.1)], [(5, .arr 50 1 s3.2.length (s3.2.map (eL (eI .i64))))]⟩) _ ((Le.sub' ([(0, vi aN), (1, vl eTie aList), (5, .own 8), (6, vi 0)] : List (Nat × SV)) ([(8, .arr 50 1 ([] : List (List Int)).length (([] : List (List Int)).map (eL (eI .i64))))] : List (Nat × SO)) (by kernel_rfl) (by kernel_rfl)).trans ((Le.ren' (d := 8) (e := 5) (by kernel_rfl) (by kernel_rfl) (by kernel_rfl)).trans (Le.sub0))) h (fun s3 v4 h => ?_)
  refine swp_seq ?_
  refine swp_seq ?_
  refine swp_reg ?_
  refine SRun.ck tbok 3 ⟨28, [(0, vi aN), (1, vl eTie aList), (5, .own 5), (6, vi s3.1), (11, vb (decide (s3.1 < aN)))], [(5, .arr 50 1 s3.2.length (s3.2.map (eL (eI .i64))))]⟩ ?_
  refine SRun.nil ?_
  refine nx_n ?_
  refine swp_cond (b := (decide (s3.1 < aN))) (by kernel_rfl) (fun hb => ?_) (fun hb => ?_)
  replace h := cond_t hb h
  refine swp_skip ?_
  refine nx_n ?_
  refine swp_seq ?_
  refine swp_seqJ h (fun j5 => ⟨28, [(0, vi aN), (1, vl eTie aList), (5, .own 5), (6, vi s3.1)], [(5, .arr 50 1 j5.length (j5.map (eL (eI .i64))))]⟩) (fun v6 h => ?_) (fun j5 h => ?_)
  refine swp_blk (a := v6) ?_
  refine swp_seq ?_
  refine swp_reg ?_
  refine SRun.ck tbok 3 ⟨28, [(0, vi aN), (1, vl eTie aList), (5, .own 5), (6, vi s3.1), (14, vi aN), (15, vl eTie aList), (16, vi s3.1)], [(5, .arr 50 1 s3.2.length (s3.2.map (eL (eI .i64))))]⟩ ?_
  obtain ⟨x7, hx7, h⟩ := bind_some h
  refine SRun.ls (x_lstep_call (f := 75) (caps := []) (xs := [vi aN, vl eTie aList, vi s3.1]) (ys := [vi aN, vl eTie aList, vi s3.1]) (res := ⟨[.own 2 1 x7.length (x7.map (eI .i64))], [], false⟩) (x := .own 17) (y := some (.arr 2 1 x7.length (x7.map (eI .i64)))) rfl ents75 (spec_l31Group_run aN aList s3.1 _ hx7) rfl (by intro hc; cases hc)) ?_
  refine SRun.ck tbok 1 ⟨28, [(0, vi aN), (1, vl eTie aList), (5, .own 5), (6, vi s3.1), (7, .own 17)], [(5, .arr 50 1 s3.2.length (s3.2.map (eL (eI .i64)))), (17, .arr 2 1 x7.length (x7.map (eI .i64)))]⟩ ?_
  refine SRun.nil ?_
  refine nx_n ?_
  refine swp_seq ?_
  refine swp_reg ?_
  refine SRun.ck tbok 1 ⟨28, [(0, vi aN), (1, vl eTie aList), (5, .own 5), (6, vi s3.1), (7, .own 17), (18, .own 17)], [(5, .arr 50 1 s3.2.length (s3.2.map (eL (eI .i64)))), (17, .arr 2 1 x7.length (x7.map (eI .i64)))]⟩ ?_
  obtain ⟨x8, hx8, h⟩ := bind_some h
  refine SRun.ls (x_index_own (d := 17) (L := x7) (f := (eI .i64)) (ti := ti50) (tj := ti2) (e := 2) (e' := 2) (m := 1) (k := .i64) tbok rfl hx8) ?_
  refine SRun.ls (x_load_own (d := 17) (m := 1) (j := 0) (L := x7) (f := (eI .i64)) (ti := ti2) (e := 2) (v := vi x8) tbok rfl hx8) ?_
  refine SRun.ck tbok 2 ⟨28, [(0, vi aN), (1, vl eTie aList), (5, .own 5), (6, vi s3.1), (7, .own 17), (22, vb (x8 == s3.1))], [(5, .arr 50 1 s3.2.length (s3.2.map (eL (eI .i64)))), (17, .arr 2 1 x7.length (x7.map (eI .i64)))]⟩ ?_
  refine SRun.nil ?_
  refine nx_n ?_
  refine swp_cond (b := (x8 == s3.1)) (by kernel_rfl) (fun hb => ?_) (fun hb => ?_)
  replace h := cond_t hb h
  refine swp_reg ?_
  refine SRun.ck tbok 2 ⟨28, [(0, vi aN), (1, vl eTie aList), (6, vi s3.1), (23, .own 5), (24, .own 17)], [(5, .arr 50 1 s3.2.length (s3.2.map (eL (eI .i64)))), (17, .arr 2 1 x7.length (x7.map (eI .i64)))]⟩ ?_
  refine SRun.le (Le.frz' (d := 17) (e := 2) (m := 1) (n := x7.length) (es := x7.map (eI .i64)) (by kernel_rfl) (by kernel_rfl)) ?_
  refine SRun.ck tbok 1 ⟨28, [(0, vi aN), (1, vl eTie aList), (6, vi s3.1), (23, .own 5), (25, .own 25)], [(5, .arr 50 1 s3.2.length (s3.2.map (eL (eI .i64)))), (25, .arr 50 1 ([x7] : List (List Int)).length (([x7] : List (List Int)).map (eL (eI .i64))))]⟩ ?_
  obtain ⟨x9, hx9, h⟩ := bind_some h
  refine SRun.estep (x_append (f := (eL (eI .i64))) (t := 45) (ti := ti45) (tj := ti50) (zs := [.slice none 0 0]) (e := 50) (m := 1) (d := 5) (xv := .own 25) hx9 tbok rfl rfl rfl rfl (x_src_o (e := 50))) ?_
  refine SRun.ck tbok 1 ⟨28, [(0, vi aN), (1, vl eTie aList), (5, .own 26), (6, vi s3.1)], [(26, .arr 50 1 x9.length (x9.map (eL (eI .i64))))]⟩ ?_
  refine SRun.nil ?_
  replace h := Option.some.inj h
  subst h
  exact q_bn (q_j ((Le.sub' ([(0, vi aN), (1, vl eTie aList), (5, .own 26), (6, vi s3.1)] : List (Nat × SV)) ([(26, .arr 50 1 x9.length (x9.map (eL (eI .i64))))] : List (Nat × SO)) (by kernel_rfl) (by kernel_rfl)).trans ((Le.ren' (d := 26) (e := 5) (by kernel_rfl) (by kernel_rfl) (by kernel_rfl)).trans (Le.sub0))))
  replace h := cond_f hb h
  refine swp_skip ?_
  replace h := Option.some.inj h
  subst h
  exact q_bn (q_j (Le.sub0))
  refine swp_reg ?_
  refine SRun.ck tbok 3 ⟨28, [(0, vi aN), (1, vl eTie aList), (5, .own 5), (6, vi (w64 (s3.1 + 1)))], [(5, .arr 50 1 j5.length (j5.map (eL (eI .i64))))]⟩ ?_
  refine SRun.nil ?_
  replace h := Option.some.inj h
  subst h
  exact q_l (Le.sub0)
  replace h := cond_f hb h
  refine swp_exit ?_
  replace h := Option.some.inj h
  subst h
  exact nx_e (q_re (q_bh (q_j (Le.sub0))))
  refine swp_seq ?_
  refine swp_reg ?_
  refine SRun.ck tbok 2 ⟨28, [(4, .own 5)], [(5, .arr 50 1 j1.length (j1.map (eL (eI .i64))))]⟩ ?_
  refine SRun.nil ?_
  refine nx_n ?_
  refine swp_ret ?_
  replace h := Option.some.inj h
  subst h
  exact q_fr (fin1 (by kernel_rfl) (finOT (d := 5) (holds_t (by kernel_rfl)) (by kernel_rfl) (by kernel_rfl)))
theorem ents70 : Ents Tryd.prog 70 := ents_of Tryd.func70 (by kernel_rfl) rfl
noncomputable def spec_SplitsBy (aN : Int) (aList : (List Tie)) (aIndex : Int) : Option (Bool × Int) :=
  ((spec_AreTies aN aList).bind fun x1 => (bif (!x1) then some (false, 1) else ((spec_l01In aIndex 0 (w64 ((aList.length : Int) - 1))).bind fun x2 => (bif (!x2) then some (false, 2) else ((spec_l31Without aList aIndex).bind fun x3 => ((spec_l31Groups aN x3).bind fun x4 => ((spec_l31Groups aN aList).bind fun x5 => some ((decide ((x4.length : Int) > (x5.length : Int))), 0))))))))
set_option maxRecDepth 100000 in
set_option maxHeartbeats 4000000 in
theorem spec_SplitsBy_run (aN : Int) (aList : (List Tie)) (aIndex : Int) (r : Bool × Int) (h : spec_SplitsBy aN aList aIndex = some r) : SCall Tryd.prog 27 [.v (vi aN), .v (vl eTie aList), .v (vi aIndex)] ⟨[.v (vb r.1), .v (vi r.2)], [], false⟩ := by
  refine scall_in Tryd.func27 rfl [(.tmp 6), (.tmp 7)] rfl (fun r => ⟨[.v (vb r.1), .v (vi r.2)], [], false⟩) (r := r) ?_
  unfold spec_SplitsBy at h
  refine swp_seq ?_
  refine swp_reg ?_
  refine SRun.ck tbok 2 ⟨29, [(0, vi aN), (1, vl eTie aList), (2, vi aIndex)], []⟩ ?_
  refine SRun.nil ?_
  refine nx_n ?_
  refine swp_seq ?_
  refine swp_seq ?_
  refine swp_reg ?_
  refine SRun.ck tbok 2 ⟨29, [(0, vi aN), (1, vl eTie aList), (2, vi aIndex), (8, vi aN), (9, vl eTie aList)], []⟩ ?_
  obtain ⟨x1, hx1, h⟩ := bind_some h
  refine SRun.ls (x_lstep_call (f := 15) (caps := []) (xs := [vi aN, vl eTie aList]) (ys := [vi aN, vl eTie aList]) (res := ⟨[.v (vb x1)], [], false⟩) (x := vb x1) (y := none) rfl ents15 (spec_AreTies_run aN aList _ hx1) rfl (by intro hc; cases hc)) ?_
  refine SRun.ck tbok 1 ⟨29, [(0, vi aN), (1, vl eTie aList), (2, vi aIndex), (11, vb (!x1))], []⟩ ?_
  refine SRun.nil ?_
  refine nx_n ?_
  refine swp_cond (b := (!x1)) (by kernel_rfl) (fun hb => ?_) (fun hb => ?_)
  replace h := cond_t hb h
  refine swp_seq ?_
  refine swp_reg ?_
  refine SRun.ck tbok 2 ⟨29, [(6, vb false), (7, vi 1)], []⟩ ?_
  refine SRun.nil ?_
  refine nx_n ?_
  refine swp_ret ?_
  replace h := Option.some.inj h
  subst h
  exact nx_r (q_fr (fin2 (by kernel_rfl) (finV rfl SV.flat_of (holds_t (by kernel_rfl))) (finV rfl SV.flat_of (holds_t (by kernel_rfl)))))
  replace h := cond_f hb h
  refine swp_skip ?_
  refine nx_n ?_
  refine swp_seq ?_
  refine swp_seq ?_
  refine swp_reg ?_
  refine SRun.ck tbok 4 ⟨29, [(0, vi aN), (1, vl eTie aList), (2, vi aIndex), (12, vi aIndex), (15, vi (w64 ((aList.length : Int) - 1)))], []⟩ ?_
  obtain ⟨x2, hx2, h⟩ := bind_some h
  refine SRun.ls (x_lstep_call (f := 55) (caps := []) (xs := [vi aIndex, vi 0, vi (w64 ((aList.length : Int) - 1))]) (ys := [vi aIndex, vi 0, vi (w64 ((aList.length : Int) - 1))]) (res := ⟨[.v (vb x2)], [], false⟩) (x := vb x2) (y := none) rfl ents55 (spec_l01In_run aIndex 0 (w64 ((aList.length : Int) - 1)) _ hx2) rfl (by intro hc; cases hc)) ?_
  refine SRun.ck tbok 1 ⟨29, [(0, vi aN), (1, vl eTie aList), (2, vi aIndex), (17, vb (!x2))], []⟩ ?_
  refine SRun.nil ?_
  refine nx_n ?_
  refine swp_cond (b := (!x2)) (by kernel_rfl) (fun hb => ?_) (fun hb => ?_)
  replace h := cond_t hb h
  refine swp_seq ?_
  refine swp_reg ?_
  refine SRun.ck tbok 2 ⟨29, [(6, vb false), (7, vi 2)], []⟩ ?_
  refine SRun.nil ?_
  refine nx_n ?_
  refine swp_ret ?_
  replace h := Option.some.inj h
  subst h
  exact nx_r (q_fr (fin2 (by kernel_rfl) (finV rfl SV.flat_of (holds_t (by kernel_rfl))) (finV rfl SV.flat_of (holds_t (by kernel_rfl)))))
  replace h := cond_f hb h
  refine swp_skip ?_
  refine nx_n ?_
  refine swp_seq ?_
  refine swp_reg ?_
  refine SRun.ck tbok 3 ⟨29, [(0, vi aN), (1, vl eTie aList), (18, vi aN), (19, vl eTie aList), (20, vi aIndex)], []⟩ ?_
  obtain ⟨x3, hx3, h⟩ := bind_some h
  refine SRun.ls (x_lstep_call (f := 61) (caps := []) (xs := [vl eTie aList, vi aIndex]) (ys := [vl eTie aList, vi aIndex]) (res := ⟨[.own 42 4 x3.length (x3.map eTie)], [], false⟩) (x := .own 21) (y := some (.arr 42 4 x3.length (x3.map eTie))) rfl ents61 (spec_l31Without_run aList aIndex _ hx3) rfl (by intro hc; cases hc)) ?_
  refine SRun.le (Le.frz' (d := 21) (e := 42) (m := 4) (n := x3.length) (es := x3.map eTie) (by kernel_rfl) (by kernel_rfl)) ?_
  obtain ⟨x4, hx4, h⟩ := bind_some h
  refine SRun.ls (x_lstep_call (f := 70) (caps := []) (xs := [vi aN, vl eTie x3]) (ys := [vi aN, vl eTie x3]) (res := ⟨[.own 50 1 x4.length (x4.map (eL (eI .i64)))], [], true⟩) (x := .own 22) (y := some (.arr 50 1 x4.length (x4.map (eL (eI .i64))))) rfl ents70 (spec_l31Groups_run aN x3 _ hx4) rfl (fun _ => rfl)) ?_
  refine SRun.ck tbok 3 ⟨29, [(23, vi (x4.length : Int)), (24, vi aN), (25, vl eTie aList)], []⟩ ?_
  obtain ⟨x5, hx5, h⟩ := bind_some h
  refine SRun.ls (x_lstep_call (f := 70) (caps := []) (xs := [vi aN, vl eTie aList]) (ys := [vi aN, vl eTie aList]) (res := ⟨[.own 50 1 x5.length (x5.map (eL (eI .i64)))], [], true⟩) (x := .own 26) (y := some (.arr 50 1 x5.length (x5.map (eL (eI .i64))))) rfl ents70 (spec_l31Groups_run aN aList _ hx5) rfl (fun _ => rfl)) ?_
  refine SRun.ck tbok 4 ⟨29, [(6, vb (decide ((x4.length : Int) > (x5.length : Int)))), (7, vi 0)], []⟩ ?_
  refine SRun.nil ?_
  refine nx_n ?_
  refine swp_ret ?_
  replace h := Option.some.inj h
  subst h
  exact q_fr (fin2 (by kernel_rfl) (finV rfl SV.flat_of (holds_t (by kernel_rfl))) (finV rfl SV.flat_of (holds_t (by kernel_rfl))))
theorem ents27 : Ents Tryd.prog 27 := ents_of Tryd.func27 (by kernel_rfl) rfl
noncomputable def impl_refuted_1 (aT : Tie) (c0 : Int) (c1 : (List Tie)) : Option (Bool) :=
  (((bif (!aT.Same) then ((impl_far c0 c1 aT.A).bind fun x1 => ((at' x1 aT.B).bind fun x2 => some (decide (x2 ≥ 0)))) else some false)).bind fun (j3 : Bool) => some j3)
set_option maxRecDepth 100000 in
set_option maxHeartbeats 4000000 in
theorem impl_refuted_1_run (aT : Tie) (c0 : Int) (c1 : (List Tie)) (r : Bool) (h : impl_refuted_1 aT c0 c1 = some r) : SCall Tryd.prog 86 [.v (.agg [vi aT.A, vi aT.B, vb aT.Same, vs aT.Reason]), .v (.ptr [vi c0] 0), .v (.ptr [vl eTie c1] 0)] ⟨[.v (vb r)], [], false⟩ := by
  refine scall_in Tryd.func86 rfl [(.tmp 4)] rfl (fun r => ⟨[.v (vb r)], [], false⟩) (r := r) ?_
  unfold impl_refuted_1 at h
  refine swp_seq ?_
  refine swp_reg ?_
  refine SRun.ck tbok 2 ⟨20, [(1, .ptr [vi c0] 0), (2, .ptr [vl eTie c1] 0), (3, .ref 3 0)], [(3, .box [vi aT.A, vi aT.B, vb aT.Same, vs aT.Reason])]⟩ ?_
  refine SRun.nil ?_
  refine nx_n ?_
  refine swp_seq ?_
  refine swp_drJ mixed h (fun j3 => ⟨20, [(4, vb j3)], []⟩) (fun v4 h => ?_) (fun j3 h => ?_)
  refine DGo.chunk' tbok 4 (σ' := ⟨20, [(8, vb (!aT.Same)), (7, vb (!aT.Same)), (6, vb aT.Same), (5, .ref 3 2), (1, .ptr [vi c0] 0), (2, .ptr [vl eTie c1] 0), (3, .ref 3 0)], [(3, .box [vi aT.A, vi aT.B, vb aT.Same, vs aT.Reason])]⟩) (by kernel_rfl) ?_
  refine DGo.cut [(8, fun b => b), (7, fun b => b)] (b := (!aT.Same)) (by kernel_rfl) (fun hb => ?_) (fun hb => ?_)
  replace h := cond_t hb h
  refine DGo.chunk' tbok 4 (σ' := ⟨20, [(12, vi aT.A), (11, .ref 3 0), (10, vl eTie c1), (9, vi c0), (8, vb true), (7, vb true), (6, vb aT.Same), (5, .ref 3 2), (1, .ptr [vi c0] 0), (2, .ptr [vl eTie c1] 0), (3, .ref 3 0)], [(3, .box [vi aT.A, vi aT.B, vb aT.Same, vs aT.Reason])]⟩) (by kernel_rfl) ?_
  obtain ⟨x1, hx1, h⟩ := bind_some h
  refine DGo.step (x_lstep_call (f := 76) (caps := []) (xs := [vi c0, vl eTie c1, vi aT.A]) (ys := [vi c0, vl eTie c1, vi aT.A]) (res := ⟨[.own 2 1 x1.length (x1.map (eI .i64))], [], false⟩) (x := .own 13) (y := some (.arr 2 1 x1.length (x1.map (eI .i64)))) rfl ents76 (impl_far_run c0 c1 aT.A _ hx1) rfl (by intro hc; cases hc)) ?_
  refine DGo.chunk' tbok 2 (σ' := ⟨20, [(15, vi aT.B), (14, .ref 3 1), (13, .own 13), (12, vi aT.A), (11, .ref 3 0), (10, vl eTie c1), (9, vi c0), (8, vb true), (7, vb true), (6, vb aT.Same), (5, .ref 3 2), (1, .ptr [vi c0] 0), (2, .ptr [vl eTie c1] 0), (3, .ref 3 0)], [(13, .arr 2 1 x1.length (x1.map (eI .i64))), (3, .box [vi aT.A, vi aT.B, vb aT.Same, vs aT.Reason])]⟩) (by kernel_rfl) ?_
  refine DGo.seq (by kernel_rfl) (by kernel_rfl) ?_
  obtain ⟨x2, hx2, h⟩ := bind_some h
  refine SRun.ls (x_index_own (d := 13) (L := x1) (f := (eI .i64)) (ti := ti50) (tj := ti2) (e := 2) (e' := 2) (m := 1) (k := .i64) tbok rfl hx2) ?_
  refine SRun.ls (x_load_own (d := 13) (m := 1) (j := 0) (L := x1) (f := (eI .i64)) (ti := ti2) (e := 2) (v := vi x2) tbok rfl hx2) ?_
  refine SRun.ck tbok 3 ⟨20, [(4, vb (decide (x2 ≥ 0)))], []⟩ ?_
  refine SRun.nil ?_
  replace h := Option.some.inj h
  subst h
  exact Le.sub0
  replace h := cond_f hb h
  refine DGo.chunk' tbok 12 (σ' := ⟨20, [(4, vb false), (19, vb false), (18, .tup []), (17, .tup []), (16, .tup []), (15, .tup []), (14, .tup []), (13, .tup []), (12, .tup []), (11, .tup []), (10, .tup []), (9, .tup []), (8, vb false), (7, vb false), (6, vb aT.Same), (5, .ref 3 2), (1, .ptr [vi c0] 0), (2, .ptr [vl eTie c1] 0), (3, .ref 3 0)], [(3, .box [vi aT.A, vi aT.B, vb aT.Same, vs aT.Reason])]⟩) (by kernel_rfl) ?_
  refine DGo.nil (by kernel_rfl) ?_
  replace h := Option.some.inj h
  subst h
  exact Le.sub0
  refine swp_ret ?_
  replace h := Option.some.inj h
  subst h
  exact q_fr (fin1 (by kernel_rfl) (finV rfl SV.flat_of (holds_t (by kernel_rfl))))
theorem ents86 : Ents Tryd.prog 86 := ents_of Tryd.func86 (by kernel_rfl) rfl
noncomputable def slices_IndexFunc_Tie_impl_refuted_1 (aS : (List Tie)) (aF0 : Int) (aF1 : (List Tie)) : Option (Int) :=
  (((forN (aS.length : Int) (fun (i3 : Int) (_ : Unit) => ((at' aS i3).bind fun x7 => ((impl_refuted_1 x7 aF0 aF1).bind fun x8 => (bif x8 then some (.inr (.inr i3)) else some (.inl ()))))) (fun (_ : Unit) => .inl ()) 0 ())).bind (Sum.elim (fun (_ : Unit) => some (-1)) some))
set_option maxRecDepth 100000 in
set_option maxHeartbeats 4000000 in
theorem slices_IndexFunc_Tie_impl_refuted_1_run (aS : (List Tie)) (aF0 : Int) (aF1 : (List Tie)) (r : Int) (h : slices_IndexFunc_Tie_impl_refuted_1 aS aF0 aF1 = some r) : SCall Tryd.prog 82 [.v (vl eTie aS), .v (.clo 86 [.ptr [vi aF0] 0, .ptr [vl eTie aF1] 0])] ⟨[.v (vi r)], [], false⟩ := by
  refine scall_in Tryd.func82 rfl [(.tmp 4)] rfl (fun r => ⟨[.v (vi r)], [], false⟩) (r := r) ?_
  unfold slices_IndexFunc_Tie_impl_refuted_1 at h
  refine swp_seq ?_
  refine swp_reg ?_
  refine SRun.ck tbok 1 ⟨19, [(0, vl eTie aS), (1, .clo 86 [.ptr [vi aF0] 0, .ptr [vl eTie aF1] 0])], []⟩ ?_
  refine SRun.nil ?_
  refine nx_n ?_
  refine swp_seq ?_
  refine swp_seq ?_
  refine swp_reg ?_
  refine SRun.ck tbok 3 ⟨19, [(0, vl eTie aS), (1, .clo 86 [.ptr [vi aF0] 0, .ptr [vl eTie aF1] 0]), (7, vi (aS.length : Int)), (8, vi 0)], []⟩ ?_
  refine SRun.nil ?_
  refine nx_n ?_
  refine swp_seqE (r := r) h (fun j1 => ⟨19, [], []⟩) (fun v2 h => ?_) (fun j1 h => ?_)
  refine swp_blk (a := v2) ?_
  refine swp_lpL (r := v2) (s := (0, ())) _ (fun s3 => ⟨19, [(0, vl eTie aS), (1, .clo 86 [.ptr [vi aF0] 0, .ptr [vl eTie aF1] 0]), (7, vi (aS.length : Int)), (8, vi s3.1)], []⟩) _ (Le.sub0) h (fun s3 v4 h => ?_)
  refine swp_seq ?_
  refine swp_reg ?_
  refine SRun.ck tbok 1 ⟨19, [(0, vl eTie aS), (1, .clo 86 [.ptr [vi aF0] 0, .ptr [vl eTie aF1] 0]), (7, vi (aS.length : Int)), (8, vi s3.1), (9, vb (decide (s3.1 < (aS.length : Int))))], []⟩ ?_
  refine SRun.nil ?_
  refine nx_n ?_
  refine swp_seq ?_
  refine swp_cond (b := (decide (s3.1 < (aS.length : Int)))) (by kernel_rfl) (fun hb => ?_) (fun hb => ?_)
  replace h := cond_t hb h
  refine swp_skip ?_
  refine nx_n ?_
  refine swp_seq ?_
  refine swp_seqL (r := v4) h (fun j5 => ⟨19, [(0, vl eTie aS), (1, .clo 86 [.ptr [vi aF0] 0, .ptr [vl eTie aF1] 0]), (7, vi (aS.length : Int)), (8, vi s3.1)], []⟩) (fun v6 h => ?_) (fun j5 h => ?_)
  refine swp_blk (a := v6) ?_
  refine swp_seq ?_
  refine swp_reg ?_
  refine SRun.ck tbok 2 ⟨19, [(0, vl eTie aS), (1, .clo 86 [.ptr [vi aF0] 0, .ptr [vl eTie aF1] 0]), (5, vi s3.1), (7, vi (aS.length : Int)), (8, vi s3.1)], []⟩ ?_
  refine SRun.nil ?_
  refine nx_n ?_
  refine swp_seq ?_
  refine swp_reg ?_
  refine SRun.ck tbok 3 ⟨19, [(0, vl eTie aS), (1, .clo 86 [.ptr [vi aF0] 0, .ptr [vl eTie aF1] 0]), (5, vi s3.1), (7, vi (aS.length : Int)), (8, vi s3.1), (11, .clo 86 [.ptr [vi aF0] 0, .ptr [vl eTie aF1] 0]), (12, vl eTie aS), (13, vi s3.1)], []⟩ ?_
  obtain ⟨x7, hx7, h⟩ := bind_some h
  refine SRun.ls (x_index (L := aS) (f := eTie) (ti := ti25) (tj := ti42) (e := 42) (k := .i64) tbok rfl hx7) ?_
  refine SRun.ck tbok 1 ⟨19, [(0, vl eTie aS), (1, .clo 86 [.ptr [vi aF0] 0, .ptr [vl eTie aF1] 0]), (5, vi s3.1), (7, vi (aS.length : Int)), (8, vi s3.1), (11, .clo 86 [.ptr [vi aF0] 0, .ptr [vl eTie aF1] 0]), (15, .agg [vi x7.A, vi x7.B, vb x7.Same, vs x7.Reason])], []⟩ ?_
  obtain ⟨x8, hx8, h⟩ := bind_some h
  refine SRun.ls (x_lstep_call (f := 86) (caps := [.ptr [vi aF0] 0, .ptr [vl eTie aF1] 0]) (xs := [.agg [vi x7.A, vi x7.B, vb x7.Same, vs x7.Reason]]) (ys := [.agg [vi x7.A, vi x7.B, vb x7.Same, vs x7.Reason], .ptr [vi aF0] 0, .ptr [vl eTie aF1] 0]) (res := ⟨[.v (vb x8)], [], false⟩) (x := vb x8) (y := none) rfl ents86 (impl_refuted_1_run x7 aF0 aF1 _ hx8) rfl (by intro hc; cases hc)) ?_
  refine SRun.nil ?_
  refine nx_n ?_
  refine swp_cond (b := x8) (by kernel_rfl) (fun hb => ?_) (fun hb => ?_)
  replace h := cond_t hb h
  refine swp_seq ?_
  refine swp_reg ?_
  refine SRun.ck tbok 2 ⟨19, [(4, vi s3.1)], []⟩ ?_
  refine SRun.nil ?_
  refine nx_n ?_
  refine swp_ret ?_
  replace h := Option.some.inj h
  subst h
  exact q_br (q_rr (q_rr (q_br (q_rr (q_fr (fin1 (by kernel_rfl) (finV rfl SV.flat_of (holds_t (by kernel_rfl)))))))))
  replace h := cond_f hb h
  refine swp_skip ?_
  replace h := Option.some.inj h
  subst h
  exact q_bn (q_l (Le.sub0))
  refine swp_reg ?_
  refine SRun.ck tbok 2 ⟨19, [(0, vl eTie aS), (1, .clo 86 [.ptr [vi aF0] 0, .ptr [vl eTie aF1] 0]), (7, vi (aS.length : Int)), (8, vi (w64 (s3.1 + 1)))], []⟩ ?_
  refine SRun.nil ?_
  replace h := Option.some.inj h
  subst h
  exact q_l (Le.sub0)
  replace h := cond_f hb h
  refine swp_exit ?_
  replace h := Option.some.inj h
  subst h
  exact nx_e (q_re (q_bh (q_l (Le.sub0))))
  refine swp_seq ?_
  refine swp_reg ?_
  refine SRun.ck tbok 1 ⟨19, [(4, vi (-1))], []⟩ ?_
  refine SRun.nil ?_
  refine nx_n ?_
  refine swp_ret ?_
  replace h := Option.some.inj h
  subst h
  exact q_fr (fin1 (by kernel_rfl) (finV rfl SV.flat_of (holds_t (by kernel_rfl))))
noncomputable def impl_refuted (aN : Int) (aList : (List Tie)) : Option (Int) :=
  ((slices_IndexFunc_Tie_impl_refuted_1 aList aN aList).bind fun x1 => some x1)
set_option maxRecDepth 100000 in
set_option maxHeartbeats 4000000 in
theorem impl_refuted_run (aN : Int) (aList : (List Tie)) (r : Int) (h : impl_refuted aN aList = some r) : SCall Tryd.prog 66 [.v (vi aN), .v (vl eTie aList)] ⟨[.v (vi r)], [], false⟩ := by
  refine scall_in Tryd.func66 rfl [(.tmp 4)] rfl (fun r => ⟨[.v (vi r)], [], false⟩) (r := r) ?_
  unfold impl_refuted at h
  refine swp_seq ?_
  refine swp_reg ?_
  refine SRun.ck tbok 3 ⟨8, [(2, .ref 2 0), (3, .ref 3 0)], [(2, .box [vi aN]), (3, .box [vl eTie aList])]⟩ ?_
  refine SRun.nil ?_
  refine nx_n ?_
  refine swp_seq ?_
  refine swp_reg ?_
  refine SRun.ck tbok 2 ⟨8, [(5, vl eTie aList), (6, .clo 86 [.ref 2 0, .ref 3 0])], [(2, .box [vi aN]), (3, .box [vl eTie aList])]⟩ ?_
  obtain ⟨x1, hx1, h⟩ := bind_some h
  refine SRun.ls (x_lstep_call (f := 82) (caps := []) (xs := [vl eTie aList, .clo 86 [.ref 2 0, .ref 3 0]]) (ys := [vl eTie aList, .clo 86 [.ptr [vi aN] 0, .ptr [vl eTie aList] 0]]) (res := ⟨[.v (vi x1)], [], false⟩) (x := vi x1) (y := none) rfl ents82 (slices_IndexFunc_Tie_impl_refuted_1_run aList aN aList _ hx1) rfl (by intro hc; cases hc)) ?_
  refine SRun.ck tbok 1 ⟨8, [(4, vi x1)], []⟩ ?_
  refine SRun.nil ?_
  refine nx_n ?_
  refine swp_ret ?_
  replace h := Option.some.inj h
  subst h
  exact q_fr (fin1 (by kernel_rfl) (finV rfl SV.flat_of (holds_t (by kernel_rfl))))
theorem ents66 : Ents Tryd.prog 66 := ents_of Tryd.func66 (by kernel_rfl) rfl
def slices_Clone_Tie (L : List Tie) : Option (List Tie) := if L.length ≤ 68719476736 then some L else none
set_option maxRecDepth 100000 in
theorem slices_Clone_Tie_run (L r : List Tie) (h : slices_Clone_Tie L = some r) : SCall Tryd.prog 69 [.v (.tr (.sl L.length (L.map eTie)))] ⟨[.own 42 4 r.length (r.map eTie)], [], true⟩ := by
  unfold slices_Clone_Tie at h
  split at h
  · rename_i hh
    injection h with h
    subst h
    refine clone_scall eTie Tryd.cloneTie 69 42 rfl rfl _ _ 4 40 rfl rfl (by kernel_rfl) (by kernel_rfl) (by kernel_rfl) (by decide) (fun _ => rfl) (fun _ => rfl) L (by omega)
  · cases h
theorem ents69 : Ents Tryd.prog 69 := ents_of Tryd.func69 (by kernel_rfl) rfl
end Go.Proofs.YtmbejkchgdcdhaaDoor.Sh
