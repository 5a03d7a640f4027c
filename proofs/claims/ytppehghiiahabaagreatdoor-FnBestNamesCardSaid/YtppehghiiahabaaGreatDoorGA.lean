/- Typed functions and the calls that do what they say. -/
import Derived.Test.YtppehghiiahabaaGreatDoorGAp0
import Derived.Test.YtppehghiiahabaaGreatDoorFB
import Derived.Test.YtppehghiiahabaaGreatDoorKA
import Derived.Test.YtppehghiiahabaaGreatDoorKQ
import Derived.Test.YtppehghiiahabaaGreatDoorKS
import Derived.Test.YtppehghiiahabaaGreatDoorH1
namespace Go.Proofs.YtppehghiiahabaaGreatDoor.Sh
open Go.RowKit
set_option maxRecDepth 100000
set_option maxHeartbeats 4000000
noncomputable def impl_weightOf (aList : (List Claim)) (aIndices : (List Int)) : Option (Int) :=
  (((forS (aIndices.length : Int) (fun (i3 : Int) (s3 : Int) => ((at' aIndices i3).bind fun x7 => ((at' aList x7).bind fun x8 => some (w64 (s3 + x8.Weight))))) (fun (s3 : Int) => s3) 0 0)).bind fun (j1 : Int) => some j1)
theorem impl_weightOf_run (aList : (List Claim)) (aIndices : (List Int)) (r : Int) (h : impl_weightOf aList aIndices = some r) : SCall Tryz.prog 36 [.v (vl eClaim aList), .v (vl (eI .i64) aIndices)] ⟨[.v (vi r)], [], false⟩ := by
  refine scall_in Tryz.func36 rfl [(.tmp 4)] rfl (fun r => ⟨[.v (vi r)], [], false⟩) (r := r) ?_
  unfold impl_weightOf at h
  refine srk tbok ⟨23, [(0, vl eClaim aList), (1, vl (eI .i64) aIndices)], []⟩ ?_
  refine srk tbok ⟨23, [(0, vl eClaim aList), (1, vl (eI .i64) aIndices), (5, vi 0)], []⟩ ?_
  refine swp_seq ?_
  refine srk tbok ⟨23, [(0, vl eClaim aList), (5, vi 0), (8, vl (eI .i64) aIndices), (9, vi (aIndices.length : Int)), (10, vi 0)], []⟩ ?_
  refine swp_seqJ h (fun j1 => ⟨23, [(5, vi j1)], []⟩) (fun v2 h => ?_) (fun j1 h => ?_)
  refine swp_blk (a := v2) ?_
  refine swp_lpL (r := v2) (s := (0, 0)) _ (fun s3 => ⟨23, [(0, vl eClaim aList), (5, vi s3.2), (8, vl (eI .i64) aIndices), (9, vi (aIndices.length : Int)), (10, vi s3.1)], []⟩) _ (Le.sub0) h (fun s3 v4 h => ?_)
  refine srk tbok ⟨23, [(0, vl eClaim aList), (5, vi s3.2), (8, vl (eI .i64) aIndices), (9, vi (aIndices.length : Int)), (10, vi s3.1), (11, vb (decide (s3.1 < (aIndices.length : Int))))], []⟩ ?_
  refine swp_seq ?_
  refine swp_cd h (fun h => ?_) fun h => ?_
  refine swp_skip ?_
  refine nx_n ?_
  refine swp_seq ?_
  refine swp_seqJ h (fun j5 => ⟨23, [(0, vl eClaim aList), (5, vi j5), (8, vl (eI .i64) aIndices), (9, vi (aIndices.length : Int)), (10, vi s3.1)], []⟩) (fun v6 h => ?_) (fun j5 h => ?_)
  refine swp_blk (a := v6) ?_
  refine sr ?_
  obtain ⟨x7, hx7, h⟩ := bind_some h
  refine SRun.ls (x_index (L := aIndices) (f := (eI .i64)) (ti := ti26) (tj := ti2) (e := 2) (k := .i64) tbok rfl hx7) ?_
  refine ckn tbok 2 ⟨23, [(0, vl eClaim aList), (5, vi s3.2), (7, vi x7), (8, vl (eI .i64) aIndices), (9, vi (aIndices.length : Int)), (10, vi s3.1)], []⟩ ?_
  refine swp_reg ?_
  refine SRun.ck tbok 3 ⟨23, [(0, vl eClaim aList), (8, vl (eI .i64) aIndices), (9, vi (aIndices.length : Int)), (10, vi s3.1), (14, vi s3.2), (15, vl eClaim aList), (16, vi x7)], []⟩ ?_
  obtain ⟨x8, hx8, h⟩ := bind_some h
  refine SRun.ls (x_index (L := aList) (f := eClaim) (ti := ti24) (tj := ti42) (e := 42) (k := .i64) tbok rfl hx8) ?_
  refine SRun.ck tbok 4 ⟨23, [(0, vl eClaim aList), (5, vi (w64 (s3.2 + x8.Weight))), (8, vl (eI .i64) aIndices), (9, vi (aIndices.length : Int)), (10, vi s3.1)], []⟩ ?_
  refine SRun.nil ?_
  obtain rfl := inj h
  exact q_bn (q_j (Le.sub0))
  refine swp_reg ?_
  refine SRun.ck tbok 2 ⟨23, [(0, vl eClaim aList), (5, vi j5), (8, vl (eI .i64) aIndices), (9, vi (aIndices.length : Int)), (10, vi (w64 (s3.1 + 1)))], []⟩ ?_
  refine SRun.nil ?_
  obtain rfl := inj h
  exact q_l (Le.sub0)
  refine swp_exit ?_
  obtain rfl := inj h
  exact nx_e (q_re (q_bh (q_j (Le.sub0))))
  refine srk tbok ⟨23, [(4, vi j1)], []⟩ ?_
  refine swp_ret ?_
  obtain rfl := inj h
  exact q_fr (f1 fv)
theorem ents36 : Ents Tryz.prog 36 := ents_of Tryz.func36 (by kernel_rfl) rfl
noncomputable def cmp_isNaN_int64 (aX : Int) : Option (Bool) :=
  some (aX != aX)
theorem cmp_isNaN_int64_run (aX : Int) (r : Bool) (h : cmp_isNaN_int64 aX = some r) : SCall Tryz.prog 124 [.v (vi aX)] ⟨[.v (vb r)], [], false⟩ := by
  refine scall_in Tryz.func124 rfl [(.tmp 2)] rfl (fun r => ⟨[.v (vb r)], [], false⟩) (r := r) ?_
  unfold cmp_isNaN_int64 at h
  refine srk tbok ⟨6, [(0, vi aX)], []⟩ ?_
  refine srk tbok ⟨6, [(2, vb (aX != aX))], []⟩ ?_
  refine swp_ret ?_
  obtain rfl := inj h
  exact q_fr (f1 fv)
theorem ents124 : Ents Tryz.prog 124 := ents_of Tryz.func124 (by kernel_rfl) rfl
noncomputable def cmp_Compare_int64 (aX : Int) (aY : Int) : Option (Int) :=
  ((cmp_isNaN_int64 aX).bind fun x1 => ((cmp_isNaN_int64 aY).bind fun x2 => (bif x1 then (bif x2 then some 0 else some (-1)) else (bif x2 then some 1 else (bif (decide (aX < aY)) then some (-1) else (bif (decide (aX > aY)) then some 1 else some 0))))))
theorem cmp_Compare_int64_run (aX : Int) (aY : Int) (r : Int) (h : cmp_Compare_int64 aX aY = some r) : SCall Tryz.prog 72 [.v (vi aX), .v (vi aY)] ⟨[.v (vi r)], [], false⟩ := by
  refine scall_in Tryz.func72 rfl [(.tmp 4)] rfl (fun r => ⟨[.v (vi r)], [], false⟩) (r := r) ?_
  unfold cmp_Compare_int64 at h
  refine srk tbok ⟨20, [(0, vi aX), (1, vi aY)], []⟩ ?_
  refine sr ?_
  refine SRun.ck tbok 1 ⟨20, [(0, vi aX), (1, vi aY), (7, vi aX)], []⟩ ?_
  obtain ⟨x1, hx1, h⟩ := bind_some h
  refine SRun.ls (xc ents124 (cmp_isNaN_int64_run aX _ hx1)) ?_
  refine ckn tbok 1 ⟨20, [(0, vi aX), (1, vi aY), (5, vb x1)], []⟩ ?_
  refine sr ?_
  refine SRun.ck tbok 1 ⟨20, [(0, vi aX), (1, vi aY), (5, vb x1), (9, vi aY)], []⟩ ?_
  obtain ⟨x2, hx2, h⟩ := bind_some h
  refine SRun.ls (xc ents124 (cmp_isNaN_int64_run aY _ hx2)) ?_
  refine ckn tbok 1 ⟨20, [(0, vi aX), (1, vi aY), (5, vb x1), (6, vb x2)], []⟩ ?_
  refine swp_seq ?_
  refine srk tbok ⟨20, [(0, vi aX), (1, vi aY), (6, vb x2), (11, vb x1)], []⟩ ?_
  refine swp_cd h (fun h => ?_) fun h => ?_
  refine swp_seq ?_
  refine srk tbok ⟨20, [(12, vb x2)], []⟩ ?_
  refine swp_cd h (fun h => ?_) fun h => ?_
  refine srk tbok ⟨20, [(4, vi 0)], []⟩ ?_
  refine swp_ret ?_
  obtain rfl := inj h
  exact nx_r (nx_r (q_fr (f1 fv)))
  refine swp_skip ?_
  refine nx_n ?_
  refine srk tbok ⟨20, [(4, vi (-1))], []⟩ ?_
  refine swp_ret ?_
  obtain rfl := inj h
  exact nx_r (q_fr (f1 fv))
  refine swp_skip ?_
  refine nx_n ?_
  refine swp_seq ?_
  refine srk tbok ⟨20, [(0, vi aX), (1, vi aY), (13, vb x2)], []⟩ ?_
  refine swp_cd h (fun h => ?_) fun h => ?_
  refine srk tbok ⟨20, [(4, vi 1)], []⟩ ?_
  refine swp_ret ?_
  obtain rfl := inj h
  exact nx_r (q_fr (f1 fv))
  refine swp_skip ?_
  refine nx_n ?_
  refine swp_seq ?_
  refine srk tbok ⟨20, [(0, vi aX), (1, vi aY), (16, vb (decide (aX < aY)))], []⟩ ?_
  refine swp_cd h (fun h => ?_) fun h => ?_
  refine srk tbok ⟨20, [(4, vi (-1))], []⟩ ?_
  refine swp_ret ?_
  obtain rfl := inj h
  exact nx_r (q_fr (f1 fv))
  refine swp_skip ?_
  refine nx_n ?_
  refine swp_seq ?_
  refine srk tbok ⟨20, [(19, vb (decide (aX > aY)))], []⟩ ?_
  refine swp_cd h (fun h => ?_) fun h => ?_
  refine srk tbok ⟨20, [(4, vi 1)], []⟩ ?_
  refine swp_ret ?_
  obtain rfl := inj h
  exact nx_r (q_fr (f1 fv))
  refine swp_skip ?_
  refine nx_n ?_
  refine srk tbok ⟨20, [(4, vi 0)], []⟩ ?_
  refine swp_ret ?_
  obtain rfl := inj h
  exact q_fr (f1 fv)
theorem ents72 : Ents Tryz.prog 72 := ents_of Tryz.func72 (by kernel_rfl) rfl
noncomputable def cmp_isNaN_int (aX : Int) : Option (Bool) :=
  some (aX != aX)
theorem cmp_isNaN_int_run (aX : Int) (r : Bool) (h : cmp_isNaN_int aX = some r) : SCall Tryz.prog 125 [.v (vi aX)] ⟨[.v (vb r)], [], false⟩ := by
  refine scall_in Tryz.func125 rfl [(.tmp 2)] rfl (fun r => ⟨[.v (vb r)], [], false⟩) (r := r) ?_
  unfold cmp_isNaN_int at h
  refine srk tbok ⟨6, [(0, vi aX)], []⟩ ?_
  refine srk tbok ⟨6, [(2, vb (aX != aX))], []⟩ ?_
  refine swp_ret ?_
  obtain rfl := inj h
  exact q_fr (f1 fv)
theorem ents125 : Ents Tryz.prog 125 := ents_of Tryz.func125 (by kernel_rfl) rfl
noncomputable def cmp_Compare_int (aX : Int) (aY : Int) : Option (Int) :=
  ((cmp_isNaN_int aX).bind fun x1 => ((cmp_isNaN_int aY).bind fun x2 => (bif x1 then (bif x2 then some 0 else some (-1)) else (bif x2 then some 1 else (bif (decide (aX < aY)) then some (-1) else (bif (decide (aX > aY)) then some 1 else some 0))))))
theorem cmp_Compare_int_run (aX : Int) (aY : Int) (r : Int) (h : cmp_Compare_int aX aY = some r) : SCall Tryz.prog 73 [.v (vi aX), .v (vi aY)] ⟨[.v (vi r)], [], false⟩ := by
  refine scall_in Tryz.func73 rfl [(.tmp 4)] rfl (fun r => ⟨[.v (vi r)], [], false⟩) (r := r) ?_
  unfold cmp_Compare_int at h
  refine srk tbok ⟨20, [(0, vi aX), (1, vi aY)], []⟩ ?_
  refine sr ?_
  refine SRun.ck tbok 1 ⟨20, [(0, vi aX), (1, vi aY), (7, vi aX)], []⟩ ?_
  obtain ⟨x1, hx1, h⟩ := bind_some h
  refine SRun.ls (xc ents125 (cmp_isNaN_int_run aX _ hx1)) ?_
  refine ckn tbok 1 ⟨20, [(0, vi aX), (1, vi aY), (5, vb x1)], []⟩ ?_
  refine sr ?_
  refine SRun.ck tbok 1 ⟨20, [(0, vi aX), (1, vi aY), (5, vb x1), (9, vi aY)], []⟩ ?_
  obtain ⟨x2, hx2, h⟩ := bind_some h
  refine SRun.ls (xc ents125 (cmp_isNaN_int_run aY _ hx2)) ?_
  refine ckn tbok 1 ⟨20, [(0, vi aX), (1, vi aY), (5, vb x1), (6, vb x2)], []⟩ ?_
  refine swp_seq ?_
  refine srk tbok ⟨20, [(0, vi aX), (1, vi aY), (6, vb x2), (11, vb x1)], []⟩ ?_
  refine swp_cd h (fun h => ?_) fun h => ?_
  refine swp_seq ?_
  refine srk tbok ⟨20, [(12, vb x2)], []⟩ ?_
  refine swp_cd h (fun h => ?_) fun h => ?_
  refine srk tbok ⟨20, [(4, vi 0)], []⟩ ?_
  refine swp_ret ?_
  obtain rfl := inj h
  exact nx_r (nx_r (q_fr (f1 fv)))
  refine swp_skip ?_
  refine nx_n ?_
  refine srk tbok ⟨20, [(4, vi (-1))], []⟩ ?_
  refine swp_ret ?_
  obtain rfl := inj h
  exact nx_r (q_fr (f1 fv))
  refine swp_skip ?_
  refine nx_n ?_
  refine swp_seq ?_
  refine srk tbok ⟨20, [(0, vi aX), (1, vi aY), (13, vb x2)], []⟩ ?_
  refine swp_cd h (fun h => ?_) fun h => ?_
  refine srk tbok ⟨20, [(4, vi 1)], []⟩ ?_
  refine swp_ret ?_
  obtain rfl := inj h
  exact nx_r (q_fr (f1 fv))
  refine swp_skip ?_
  refine nx_n ?_
  refine swp_seq ?_
  refine srk tbok ⟨20, [(0, vi aX), (1, vi aY), (16, vb (decide (aX < aY)))], []⟩ ?_
  refine swp_cd h (fun h => ?_) fun h => ?_
  refine srk tbok ⟨20, [(4, vi (-1))], []⟩ ?_
  refine swp_ret ?_
  obtain rfl := inj h
  exact nx_r (q_fr (f1 fv))
  refine swp_skip ?_
  refine nx_n ?_
  refine swp_seq ?_
  refine srk tbok ⟨20, [(19, vb (decide (aX > aY)))], []⟩ ?_
  refine swp_cd h (fun h => ?_) fun h => ?_
  refine srk tbok ⟨20, [(4, vi 1)], []⟩ ?_
  refine swp_ret ?_
  obtain rfl := inj h
  exact nx_r (q_fr (f1 fv))
  refine swp_skip ?_
  refine nx_n ?_
  refine srk tbok ⟨20, [(4, vi 0)], []⟩ ?_
  refine swp_ret ?_
  obtain rfl := inj h
  exact q_fr (f1 fv)
theorem ents73 : Ents Tryz.prog 73 := ents_of Tryz.func73 (by kernel_rfl) rfl
noncomputable def slices_Compare_int64 (aS1 : (List Int)) (aS2 : (List Int)) : Option (Int) :=
  (((forN (aS1.length : Int) (fun (i3 : Int) (_ : Unit) => ((at' aS1 i3).bind fun x7 => (bif (decide (i3 ≥ (aS2.length : Int))) then some (.inr (.inr 1)) else ((at' aS2 i3).bind fun x8 => ((cmp_Compare_int64 x7 x8).bind fun x9 => (bif (x9 != 0) then some (.inr (.inr x9)) else some (.inl ()))))))) (fun (_ : Unit) => .inl ()) 0 ())).bind (Sum.elim (fun (_ : Unit) => (bif (decide ((aS1.length : Int) < (aS2.length : Int))) then some (-1) else some 0)) some))
theorem slices_Compare_int64_run (aS1 : (List Int)) (aS2 : (List Int)) (r : Int) (h : slices_Compare_int64 aS1 aS2 = some r) : SCall Tryz.prog 74 [.v (vl (eI .i64) aS1), .v (vl (eI .i64) aS2)] ⟨[.v (vi r)], [], false⟩ := by
  refine scall_in Tryz.func74 rfl [(.tmp 4)] rfl (fun r => ⟨[.v (vi r)], [], false⟩) (r := r) ?_
  unfold slices_Compare_int64 at h
  refine srk tbok ⟨36, [(0, vl (eI .i64) aS1), (1, vl (eI .i64) aS2)], []⟩ ?_
  refine swp_seq ?_
  refine srk tbok ⟨36, [(0, vl (eI .i64) aS1), (1, vl (eI .i64) aS2), (9, vl (eI .i64) aS1), (10, vi (aS1.length : Int)), (11, vi 0)], []⟩ ?_
  refine swp_seqE (r := r) h (fun j1 => ⟨36, [(0, vl (eI .i64) aS1), (1, vl (eI .i64) aS2)], []⟩) (fun v2 h => ?_) (fun j1 h => ?_)
  refine swp_blk (a := v2) ?_
  refine swp_lpL (r := v2) (s := (0, ())) _ (fun s3 => ⟨36, [(0, vl (eI .i64) aS1), (1, vl (eI .i64) aS2), (9, vl (eI .i64) aS1), (10, vi (aS1.length : Int)), (11, vi s3.1)], []⟩) _ (Le.sub0) h (fun s3 v4 h => ?_)
  refine srk tbok ⟨36, [(0, vl (eI .i64) aS1), (1, vl (eI .i64) aS2), (9, vl (eI .i64) aS1), (10, vi (aS1.length : Int)), (11, vi s3.1), (12, vb (decide (s3.1 < (aS1.length : Int))))], []⟩ ?_
  refine swp_seq ?_
  refine swp_cd h (fun h => ?_) fun h => ?_
  refine swp_skip ?_
  refine nx_n ?_
  refine swp_seq ?_
  refine swp_seqL (r := v4) h (fun j5 => ⟨36, [(0, vl (eI .i64) aS1), (1, vl (eI .i64) aS2), (9, vl (eI .i64) aS1), (10, vi (aS1.length : Int)), (11, vi s3.1)], []⟩) (fun v6 h => ?_) (fun j5 h => ?_)
  refine swp_blk (a := v6) ?_
  refine sr ?_
  refine SRun.ck tbok 1 ⟨36, [(0, vl (eI .i64) aS1), (1, vl (eI .i64) aS2), (9, vl (eI .i64) aS1), (10, vi (aS1.length : Int)), (11, vi s3.1), (13, vi s3.1)], []⟩ ?_
  obtain ⟨x7, hx7, h⟩ := bind_some h
  refine SRun.ls (x_index (L := aS1) (f := (eI .i64)) (ti := ti26) (tj := ti2) (e := 2) (k := .i64) tbok rfl hx7) ?_
  refine ckn tbok 3 ⟨36, [(0, vl (eI .i64) aS1), (1, vl (eI .i64) aS2), (5, vi s3.1), (6, vi x7), (9, vl (eI .i64) aS1), (10, vi (aS1.length : Int)), (11, vi s3.1)], []⟩ ?_
  refine swp_seq ?_
  refine srk tbok ⟨36, [(0, vl (eI .i64) aS1), (1, vl (eI .i64) aS2), (5, vi s3.1), (6, vi x7), (9, vl (eI .i64) aS1), (10, vi (aS1.length : Int)), (11, vi s3.1), (19, vb (decide (s3.1 ≥ (aS2.length : Int))))], []⟩ ?_
  refine swp_cd h (fun h => ?_) fun h => ?_
  refine srk tbok ⟨36, [(4, vi 1)], []⟩ ?_
  refine swp_ret ?_
  obtain rfl := inj h
  exact nx_r (q_br (q_rr (q_rr (q_br (q_rr (q_fr (f1 fv)))))))
  refine swp_skip ?_
  refine nx_n ?_
  refine sr ?_
  refine SRun.ck tbok 2 ⟨36, [(0, vl (eI .i64) aS1), (1, vl (eI .i64) aS2), (6, vi x7), (9, vl (eI .i64) aS1), (10, vi (aS1.length : Int)), (11, vi s3.1), (20, vl (eI .i64) aS2), (21, vi s3.1)], []⟩ ?_
  obtain ⟨x8, hx8, h⟩ := bind_some h
  refine SRun.ls (x_index (L := aS2) (f := (eI .i64)) (ti := ti26) (tj := ti2) (e := 2) (k := .i64) tbok rfl hx8) ?_
  refine ckn tbok 2 ⟨36, [(0, vl (eI .i64) aS1), (1, vl (eI .i64) aS2), (6, vi x7), (7, vi x8), (9, vl (eI .i64) aS1), (10, vi (aS1.length : Int)), (11, vi s3.1)], []⟩ ?_
  refine sr ?_
  refine SRun.ck tbok 2 ⟨36, [(0, vl (eI .i64) aS1), (1, vl (eI .i64) aS2), (9, vl (eI .i64) aS1), (10, vi (aS1.length : Int)), (11, vi s3.1), (24, vi x7), (25, vi x8)], []⟩ ?_
  obtain ⟨x9, hx9, h⟩ := bind_some h
  refine SRun.ls (xc ents72 (cmp_Compare_int64_run x7 x8 _ hx9)) ?_
  refine ckn tbok 1 ⟨36, [(0, vl (eI .i64) aS1), (1, vl (eI .i64) aS2), (8, vi x9), (9, vl (eI .i64) aS1), (10, vi (aS1.length : Int)), (11, vi s3.1)], []⟩ ?_
  refine srk tbok ⟨36, [(0, vl (eI .i64) aS1), (1, vl (eI .i64) aS2), (8, vi x9), (9, vl (eI .i64) aS1), (10, vi (aS1.length : Int)), (11, vi s3.1), (28, vb (x9 != 0))], []⟩ ?_
  refine swp_cd h (fun h => ?_) fun h => ?_
  refine srk tbok ⟨36, [(4, vi x9)], []⟩ ?_
  refine swp_ret ?_
  obtain rfl := inj h
  exact q_br (q_rr (q_rr (q_br (q_rr (q_fr (f1 fv))))))
  refine swp_skip ?_
  obtain rfl := inj h
  exact q_bn (q_l (Le.sub0))
  refine swp_reg ?_
  refine SRun.ck tbok 2 ⟨36, [(0, vl (eI .i64) aS1), (1, vl (eI .i64) aS2), (9, vl (eI .i64) aS1), (10, vi (aS1.length : Int)), (11, vi (w64 (s3.1 + 1)))], []⟩ ?_
  refine SRun.nil ?_
  obtain rfl := inj h
  exact q_l (Le.sub0)
  refine swp_exit ?_
  obtain rfl := inj h
  exact nx_e (q_re (q_bh (q_l (Le.sub0))))
  refine swp_seq ?_
  refine srk tbok ⟨36, [(35, vb (decide ((aS1.length : Int) < (aS2.length : Int))))], []⟩ ?_
  refine swp_cd h (fun h => ?_) fun h => ?_
  refine srk tbok ⟨36, [(4, vi (-1))], []⟩ ?_
  refine swp_ret ?_
  obtain rfl := inj h
  exact nx_r (q_fr (f1 fv))
  refine swp_skip ?_
  refine nx_n ?_
  refine srk tbok ⟨36, [(4, vi 0)], []⟩ ?_
  refine swp_ret ?_
  obtain rfl := inj h
  exact q_fr (f1 fv)
theorem ents74 : Ents Tryz.prog 74 := ents_of Tryz.func74 (by kernel_rfl) rfl
noncomputable def cmp_Or_int (aVals : (List Int)) : Option (Int) :=
  (((forN (aVals.length : Int) (fun (i3 : Int) (_ : Unit) => ((at' aVals i3).bind fun x7 => (bif (x7 != 0) then some (.inr (.inr x7)) else some (.inl ())))) (fun (_ : Unit) => .inl ()) 0 ())).bind (Sum.elim (fun (_ : Unit) => some 0) some))
theorem cmp_Or_int_run (aVals : (List Int)) (r : Int) (h : cmp_Or_int aVals = some r) : SCall Tryz.prog 71 [.v (vl (eI .i64) aVals)] ⟨[.v (vi r)], [], false⟩ := by
  refine scall_in Tryz.func71 rfl [(.tmp 2)] rfl (fun r => ⟨[.v (vi r)], [], false⟩) (r := r) ?_
  unfold cmp_Or_int at h
  refine srk tbok ⟨18, [(0, vl (eI .i64) aVals)], []⟩ ?_
  refine srk tbok ⟨18, [(0, vl (eI .i64) aVals), (3, vi 0)], []⟩ ?_
  refine swp_seq ?_
  refine srk tbok ⟨18, [(3, vi 0), (6, vl (eI .i64) aVals), (7, vi (aVals.length : Int)), (8, vi 0)], []⟩ ?_
  refine swp_seqE (r := r) h (fun j1 => ⟨18, [(3, vi 0)], []⟩) (fun v2 h => ?_) (fun j1 h => ?_)
  refine swp_blk (a := v2) ?_
  refine swp_lpL (r := v2) (s := (0, ())) _ (fun s3 => ⟨18, [(3, vi 0), (6, vl (eI .i64) aVals), (7, vi (aVals.length : Int)), (8, vi s3.1)], []⟩) _ (Le.sub0) h (fun s3 v4 h => ?_)
  refine srk tbok ⟨18, [(3, vi 0), (6, vl (eI .i64) aVals), (7, vi (aVals.length : Int)), (8, vi s3.1), (9, vb (decide (s3.1 < (aVals.length : Int))))], []⟩ ?_
  refine swp_seq ?_
  refine swp_cd h (fun h => ?_) fun h => ?_
  refine swp_skip ?_
  refine nx_n ?_
  refine swp_seq ?_
  refine swp_seqL (r := v4) h (fun j5 => ⟨18, [(3, vi 0), (6, vl (eI .i64) aVals), (7, vi (aVals.length : Int)), (8, vi s3.1)], []⟩) (fun v6 h => ?_) (fun j5 h => ?_)
  refine swp_blk (a := v6) ?_
  refine sr ?_
  obtain ⟨x7, hx7, h⟩ := bind_some h
  refine SRun.ls (x_index (L := aVals) (f := (eI .i64)) (ti := ti126) (tj := ti3) (e := 3) (k := .i64) tbok rfl hx7) ?_
  refine ckn tbok 2 ⟨18, [(3, vi 0), (5, vi x7), (6, vl (eI .i64) aVals), (7, vi (aVals.length : Int)), (8, vi s3.1)], []⟩ ?_
  refine srk tbok ⟨18, [(3, vi 0), (5, vi x7), (6, vl (eI .i64) aVals), (7, vi (aVals.length : Int)), (8, vi s3.1), (14, vb (x7 != 0))], []⟩ ?_
  refine swp_cd h (fun h => ?_) fun h => ?_
  refine srk tbok ⟨18, [(2, vi x7)], []⟩ ?_
  refine swp_ret ?_
  obtain rfl := inj h
  exact q_br (q_rr (q_rr (q_br (q_rr (q_fr (f1 fv))))))
  refine swp_skip ?_
  obtain rfl := inj h
  exact q_bn (q_l (Le.sub0))
  refine swp_reg ?_
  refine SRun.ck tbok 2 ⟨18, [(3, vi 0), (6, vl (eI .i64) aVals), (7, vi (aVals.length : Int)), (8, vi (w64 (s3.1 + 1)))], []⟩ ?_
  refine SRun.nil ?_
  obtain rfl := inj h
  exact q_l (Le.sub0)
  refine swp_exit ?_
  obtain rfl := inj h
  exact nx_e (q_re (q_bh (q_l (Le.sub0))))
  refine srk tbok ⟨18, [(2, vi 0)], []⟩ ?_
  refine swp_ret ?_
  obtain rfl := inj h
  exact q_fr (f1 fv)
theorem ents71 : Ents Tryz.prog 71 := ents_of Tryz.func71 (by kernel_rfl) rfl
noncomputable def impl_bestRepair_1 (aA : (List Int)) (aB : (List Int)) (c0 : (List Claim)) : Option (Int) :=
  ((impl_weightOf c0 aA).bind fun x1 => ((impl_weightOf c0 aB).bind fun x2 => ((cmp_Compare_int64 x1 x2).bind fun x3 => ((cmp_Compare_int (aA.length : Int) (aB.length : Int)).bind fun x4 => ((slices_Compare_int64 aA aB).bind fun x5 => ((cmp_Or_int ([x3, x4, x5] : List Int)).bind fun x6 => some x6))))))
theorem impl_bestRepair_1_run (aA : (List Int)) (aB : (List Int)) (c0 : (List Claim)) (r : Int) (h : impl_bestRepair_1 aA aB c0 = some r) : SCall Tryz.prog 70 [.v (vl (eI .i64) aA), .v (vl (eI .i64) aB), .v (.ptr [vl eClaim c0] 0)] ⟨[.v (vi r)], [], false⟩ := by
  refine scall_in Tryz.func70 rfl [(.tmp 5)] rfl (fun r => ⟨[.v (vi r)], [], false⟩) (r := r) ?_
  unfold impl_bestRepair_1 at h
  refine srk tbok ⟨23, [(0, vl (eI .i64) aA), (1, vl (eI .i64) aB), (2, .ptr [vl eClaim c0] 0)], []⟩ ?_
  refine swp_seq ?_
  refine swp_dr mixed ?_
  refine DGo.ck tbok false 2 ⟨23, [(0, vl (eI .i64) aA), (1, vl (eI .i64) aB), (2, .ptr [vl eClaim c0] 0), (6, vl eClaim c0), (7, vl (eI .i64) aA)], []⟩ ?_
  obtain ⟨x1, hx1, h⟩ := bind_some h
  refine DGo.step (xc ents36 (impl_weightOf_run c0 aA _ hx1)) ?_
  refine DGo.ck tbok false 2 ⟨23, [(0, vl (eI .i64) aA), (1, vl (eI .i64) aB), (8, vi x1), (9, vl eClaim c0), (10, vl (eI .i64) aB)], []⟩ ?_
  obtain ⟨x2, hx2, h⟩ := bind_some h
  refine DGo.step (xc ents36 (impl_weightOf_run c0 aB _ hx2)) ?_
  obtain ⟨x3, hx3, h⟩ := bind_some h
  refine DGo.step (xc ents72 (cmp_Compare_int64_run x1 x2 _ hx3)) ?_
  refine DGo.ck tbok false 4 ⟨23, [(0, vl (eI .i64) aA), (1, vl (eI .i64) aB), (12, vi x3), (14, vi (aA.length : Int)), (16, vi (aB.length : Int))], []⟩ ?_
  obtain ⟨x4, hx4, h⟩ := bind_some h
  refine DGo.step (xc ents73 (cmp_Compare_int_run (aA.length : Int) (aB.length : Int) _ hx4)) ?_
  refine DGo.ck tbok false 2 ⟨23, [(12, vi x3), (17, vi x4), (18, vl (eI .i64) aA), (19, vl (eI .i64) aB)], []⟩ ?_
  obtain ⟨x5, hx5, h⟩ := bind_some h
  refine DGo.step (xc ents74 (slices_Compare_int64_run aA aB _ hx5)) ?_
  refine DGo.ck tbok false 1 ⟨23, [(21, .own 21)], [(21, oa 3 1 (eI .i64) ([x3, x4, x5] : List Int))]⟩ ?_
  obtain ⟨x6, hx6, h⟩ := bind_some h
  refine DGo.stepW false [21] (xc ents71 (cmp_Or_int_run ([x3, x4, x5] : List Int) _ hx6)) ?_
  refine DGo.ck tbok false 1 ⟨23, [(5, vi x6)], []⟩ ?_
  refine DGo.nx ?_
  refine swp_ret ?_
  obtain rfl := inj h
  exact q_fr (f1 fv)
theorem ents70 : Ents Tryz.prog 70 := ents_of Tryz.func70 (by kernel_rfl) rfl
noncomputable def slices_MinFunc_int64_impl_bestRepair_1 (aX : (List (List Int))) (aCmp0 : (List Claim)) : Option ((List Int)) :=
  (((bif (decide ((aX.length : Int) < 1)) then none else some ())).bind fun (_ : Unit) => ((at' aX 0).bind fun x3 => (((forS (aX.length : Int) (fun (i6 : Int) (s6 : (List Int)) => ((at' aX i6).bind fun x10 => ((impl_bestRepair_1 x10 s6 aCmp0).bind fun x11 => (bif (decide (x11 < 0)) then ((at' aX i6).bind fun x12 => some x12) else some s6)))) (fun (s6 : (List Int)) => s6) 1 x3)).bind fun (j4 : (List Int)) => some j4)))
theorem slices_MinFunc_int64_impl_bestRepair_1_run (aX : (List (List Int))) (aCmp0 : (List Claim)) (r : (List Int)) (h : slices_MinFunc_int64_impl_bestRepair_1 aX aCmp0 = some r) : SCall Tryz.prog 68 [.v (vl (eL (eI .i64)) aX), .v (.clo 70 [.ptr [vl eClaim aCmp0] 0])] ⟨[.v (vl (eI .i64) r)], [], true⟩ := by
  refine scall_in Tryz.func68 rfl [(.tmp 4)] rfl (fun r => ⟨[.v (vl (eI .i64) r)], [], true⟩) (r := r) ?_
  unfold slices_MinFunc_int64_impl_bestRepair_1 at h
  refine srk tbok ⟨33, [(0, vl (eL (eI .i64)) aX), (1, .clo 70 [.ptr [vl eClaim aCmp0] 0])], []⟩ ?_
  refine swp_seq ?_
  refine srk tbok ⟨33, [(0, vl (eL (eI .i64)) aX), (1, .clo 70 [.ptr [vl eClaim aCmp0] 0]), (9, vb (decide ((aX.length : Int) < 1)))], []⟩ ?_
  refine swp_seqJ h (fun j1 => ⟨33, [(0, vl (eL (eI .i64)) aX), (1, .clo 70 [.ptr [vl eClaim aCmp0] 0])], []⟩) (fun v2 h => ?_) (fun j1 h => ?_)
  refine swp_cd h (fun h => ?_) fun h => ?_
  refine swp_reg ?_
  exact dead h
  refine swp_skip ?_
  obtain rfl := inj h
  exact q_j (Le.sub0)
  refine sr ?_
  refine SRun.ck tbok 1 ⟨33, [(0, vl (eL (eI .i64)) aX), (1, .clo 70 [.ptr [vl eClaim aCmp0] 0]), (11, vl (eL (eI .i64)) aX)], []⟩ ?_
  obtain ⟨x3, hx3, h⟩ := bind_some h
  refine SRun.ls (x_index (L := aX) (f := (eL (eI .i64))) (ti := ti35) (tj := ti26) (e := 26) (k := .i64) tbok rfl hx3) ?_
  refine ckn tbok 2 ⟨33, [(0, vl (eL (eI .i64)) aX), (1, .clo 70 [.ptr [vl eClaim aCmp0] 0]), (5, vl (eI .i64) x3)], []⟩ ?_
  refine swp_seq ?_
  refine srk tbok ⟨33, [(0, vl (eL (eI .i64)) aX), (1, .clo 70 [.ptr [vl eClaim aCmp0] 0]), (5, vl (eI .i64) x3), (6, vi 1)], []⟩ ?_
  refine swp_seqJ h (fun j4 => ⟨33, [(5, vl (eI .i64) j4)], []⟩) (fun v5 h => ?_) (fun j4 h => ?_)
  refine swp_blk (a := v5) ?_
  refine swp_lpL (r := v5) (s := (1, x3)) _ (fun s6 => ⟨33, [(0, vl (eL (eI .i64)) aX), (1, .clo 70 [.ptr [vl eClaim aCmp0] 0]), (5, vl (eI .i64) s6.2), (6, vi s6.1)], []⟩) _ (Le.sub0) h (fun s6 v7 h => ?_)
  refine swp_seq ?_
  refine srk tbok ⟨33, [(0, vl (eL (eI .i64)) aX), (1, .clo 70 [.ptr [vl eClaim aCmp0] 0]), (5, vl (eI .i64) s6.2), (6, vi s6.1), (17, vb (decide (s6.1 < (aX.length : Int))))], []⟩ ?_
  refine swp_cd h (fun h => ?_) fun h => ?_
  refine swp_skip ?_
  refine nx_n ?_
  refine swp_seq ?_
  refine swp_seqJ h (fun j8 => ⟨33, [(0, vl (eL (eI .i64)) aX), (1, .clo 70 [.ptr [vl eClaim aCmp0] 0]), (5, vl (eI .i64) j8), (6, vi s6.1)], []⟩) (fun v9 h => ?_) (fun j8 h => ?_)
  refine swp_blk (a := v9) ?_
  refine sr ?_
  refine SRun.ck tbok 3 ⟨33, [(0, vl (eL (eI .i64)) aX), (1, .clo 70 [.ptr [vl eClaim aCmp0] 0]), (5, vl (eI .i64) s6.2), (6, vi s6.1), (20, .clo 70 [.ptr [vl eClaim aCmp0] 0]), (21, vl (eL (eI .i64)) aX), (22, vi s6.1)], []⟩ ?_
  obtain ⟨x10, hx10, h⟩ := bind_some h
  refine SRun.ls (x_index (L := aX) (f := (eL (eI .i64))) (ti := ti35) (tj := ti26) (e := 26) (k := .i64) tbok rfl hx10) ?_
  refine SRun.ck tbok 2 ⟨33, [(0, vl (eL (eI .i64)) aX), (1, .clo 70 [.ptr [vl eClaim aCmp0] 0]), (5, vl (eI .i64) s6.2), (6, vi s6.1), (20, .clo 70 [.ptr [vl eClaim aCmp0] 0]), (24, vl (eI .i64) x10), (25, vl (eI .i64) s6.2)], []⟩ ?_
  obtain ⟨x11, hx11, h⟩ := bind_some h
  refine SRun.ls (xc ents70 (impl_bestRepair_1_run x10 s6.2 aCmp0 _ hx11)) ?_
  refine ckn tbok 1 ⟨33, [(0, vl (eL (eI .i64)) aX), (1, .clo 70 [.ptr [vl eClaim aCmp0] 0]), (5, vl (eI .i64) s6.2), (6, vi s6.1), (27, vb (decide (x11 < 0)))], []⟩ ?_
  refine swp_cd h (fun h => ?_) fun h => ?_
  refine swp_reg ?_
  refine SRun.ck tbok 2 ⟨33, [(0, vl (eL (eI .i64)) aX), (1, .clo 70 [.ptr [vl eClaim aCmp0] 0]), (6, vi s6.1), (28, vl (eL (eI .i64)) aX), (29, vi s6.1)], []⟩ ?_
  obtain ⟨x12, hx12, h⟩ := bind_some h
  refine SRun.ls (x_index (L := aX) (f := (eL (eI .i64))) (ti := ti35) (tj := ti26) (e := 26) (k := .i64) tbok rfl hx12) ?_
  refine SRun.ck tbok 2 ⟨33, [(0, vl (eL (eI .i64)) aX), (1, .clo 70 [.ptr [vl eClaim aCmp0] 0]), (5, vl (eI .i64) x12), (6, vi s6.1)], []⟩ ?_
  refine SRun.nil ?_
  obtain rfl := inj h
  exact q_bn (q_j (Le.sub0))
  refine swp_skip ?_
  obtain rfl := inj h
  exact q_bn (q_j (Le.sub0))
  refine swp_reg ?_
  refine SRun.ck tbok 3 ⟨33, [(0, vl (eL (eI .i64)) aX), (1, .clo 70 [.ptr [vl eClaim aCmp0] 0]), (5, vl (eI .i64) j8), (6, vi (w64 (s6.1 + 1)))], []⟩ ?_
  refine SRun.nil ?_
  obtain rfl := inj h
  exact q_l (Le.sub0)
  refine swp_exit ?_
  obtain rfl := inj h
  exact nx_e (q_re (q_bh (q_j (Le.sub0))))
  refine srk tbok ⟨33, [(4, vl (eI .i64) j4)], []⟩ ?_
  refine swp_ret ?_
  obtain rfl := inj h
  exact q_fr (f1 ft)
theorem ents68 : Ents Tryz.prog 68 := ents_of Tryz.func68 (by kernel_rfl) rfl
noncomputable def impl_bestRepair (aList : (List Claim)) : Option ((List Int)) :=
  ((impl_minimalRepairs aList).bind fun x1 => ((slices_MinFunc_int64_impl_bestRepair_1 x1 aList).bind fun x2 => some x2))
theorem impl_bestRepair_run (aList : (List Claim)) (r : (List Int)) (h : impl_bestRepair aList = some r) : SCall Tryz.prog 35 [.v (vl eClaim aList)] ⟨[.v (vl (eI .i64) r)], [], true⟩ := by
  refine scall_in Tryz.func35 rfl [(.tmp 2)] rfl (fun r => ⟨[.v (vl (eI .i64) r)], [], true⟩) (r := r) ?_
  unfold impl_bestRepair at h
  refine srk tbok ⟨7, [(1, .ref 1 0)], [(1, .box [vl eClaim aList])]⟩ ?_
  refine sr ?_
  refine SRun.ck tbok 1 ⟨7, [(1, .ref 1 0), (3, vl eClaim aList)], [(1, .box [vl eClaim aList])]⟩ ?_
  obtain ⟨x1, hx1, h⟩ := bind_some h
  refine SRun.ls (xc ents69 (impl_minimalRepairs_run aList _ hx1)) ?_
  refine SRun.ck tbok 1 ⟨7, [(4, .own 4), (5, .clo 70 [.ref 1 0])], [(1, .box [vl eClaim aList]), (4, oa 26 1 (eL (eI .i64)) x1)]⟩ ?_
  refine SRun.le (Le.frz' (d := 4) (e := 26) (m := 1) (n := x1.length) (es := x1.map (eL (eI .i64))) (by kernel_rfl) (by kernel_rfl)) ?_
  refine SRun.le (Le.frzB (d := 1) (cs0 := [vl eClaim aList]) (by kernel_rfl) (by kernel_rfl)) ?_
  obtain ⟨x2, hx2, h⟩ := bind_some h
  refine SRun.ls (xc ents68 (slices_MinFunc_int64_impl_bestRepair_1_run x1 aList _ hx2)) ?_
  refine ckn tbok 1 ⟨7, [(2, vl (eI .i64) x2)], []⟩ ?_
  refine swp_ret ?_
  obtain rfl := inj h
  exact q_fr (f1 ft)
theorem ents35 : Ents Tryz.prog 35 := ents_of Tryz.func35 (by kernel_rfl) rfl
noncomputable def impl_told_1 (aC : Claim) (c0 : Int) (c1 : ByteArray) (c2 : Int) : Option (Bool) :=
  (((bif (aC.Kind == c0) then (bif (aC.Place.toList == c1.toList) then ((impl_Span_has aC.Years c2).bind fun x1 => some x1) else some false) else some false)).bind fun (j2 : Bool) => some j2)
theorem impl_told_1_run (aC : Claim) (c0 : Int) (c1 : ByteArray) (c2 : Int) (r : Bool) (h : impl_told_1 aC c0 c1 c2 = some r) : SCall Tryz.prog 138 [.v (.agg (tc eClaim aC)), .v (.ptr [vi c0] 0), .v (.ptr [vs c1] 0), .v (.ptr [vi c2] 0)] ⟨[.v (vb r)], [], false⟩ := by
  refine scall_in Tryz.func138 rfl [(.tmp 5)] rfl (fun r => ⟨[.v (vb r)], [], false⟩) (r := r) ?_
  unfold impl_told_1 at h
  refine srk tbok ⟨22, [(1, .ptr [vi c0] 0), (2, .ptr [vs c1] 0), (3, .ptr [vi c2] 0), (4, .ref 4 0)], [(4, .box (tc eClaim aC))]⟩ ?_
  refine swp_seq ?_
  refine swp_regJ h (fun j2 => ⟨22, [(5, vb j2)], []⟩) (fun v3 h => ?_) (fun j2 h => ?_)
  refine SRun.ck tbok 5 ⟨22, [(2, .ptr [vs c1] 0), (3, .ptr [vi c2] 0), (4, .ref 4 0), (10, vb (aC.Kind == c0))], [(4, .box (tc eClaim aC))]⟩ ?_
  refine SRun.cu [(10, fun b => b)] h (fun h => ?_) fun h => ?_
  refine SRun.ck tbok 6 ⟨22, [(3, .ptr [vi c2] 0), (4, .ref 4 0), (16, vb (aC.Place.toList == c1.toList))], [(4, .box (tc eClaim aC))]⟩ ?_
  refine SRun.cu [(16, fun b => b)] h (fun h => ?_) fun h => ?_
  refine SRun.ck tbok 3 ⟨22, [(16, vb true), (18, .agg (tc eSpan aC.Years)), (19, vi c2)], []⟩ ?_
  obtain ⟨x1, hx1, h⟩ := bind_some h
  refine SRun.ls (xc ents104 (impl_Span_has_run aC.Years c2 _ hx1)) ?_
  refine SRun.ck tbok 2 ⟨22, [(5, vb x1)], []⟩ ?_
  refine SRun.nil ?_
  obtain rfl := inj h
  exact Le.sub0
  refine SRun.ck tbok 6 ⟨22, [(5, vb false)], []⟩ ?_
  refine SRun.nil ?_
  obtain rfl := inj h
  exact Le.sub0
  refine SRun.ck tbok 12 ⟨22, [(5, vb false)], []⟩ ?_
  refine SRun.nil ?_
  obtain rfl := inj h
  exact Le.sub0
  refine swp_ret ?_
  obtain rfl := inj h
  exact q_fr (f1 fv)
theorem ents138 : Ents Tryz.prog 138 := ents_of Tryz.func138 (by kernel_rfl) rfl
noncomputable def slices_IndexFunc_Claim_impl_told_1 (aS : (List Claim)) (aF0 : Int) (aF1 : ByteArray) (aF2 : Int) : Option (Int) :=
  (((forN (aS.length : Int) (fun (i3 : Int) (_ : Unit) => ((at' aS i3).bind fun x7 => ((impl_told_1 x7 aF0 aF1 aF2).bind fun x8 => (bif x8 then some (.inr (.inr i3)) else some (.inl ()))))) (fun (_ : Unit) => .inl ()) 0 ())).bind (Sum.elim (fun (_ : Unit) => some (-1)) some))
theorem slices_IndexFunc_Claim_impl_told_1_run (aS : (List Claim)) (aF0 : Int) (aF1 : ByteArray) (aF2 : Int) (r : Int) (h : slices_IndexFunc_Claim_impl_told_1 aS aF0 aF1 aF2 = some r) : SCall Tryz.prog 117 [.v (vl eClaim aS), .v (.clo 138 [.ptr [vi aF0] 0, .ptr [vs aF1] 0, .ptr [vi aF2] 0])] ⟨[.v (vi r)], [], false⟩ := by
  refine scall_in Tryz.func117 rfl [(.tmp 4)] rfl (fun r => ⟨[.v (vi r)], [], false⟩) (r := r) ?_
  unfold slices_IndexFunc_Claim_impl_told_1 at h
  refine srk tbok ⟨19, [(0, vl eClaim aS), (1, .clo 138 [.ptr [vi aF0] 0, .ptr [vs aF1] 0, .ptr [vi aF2] 0])], []⟩ ?_
  refine swp_seq ?_
  refine srk tbok ⟨19, [(0, vl eClaim aS), (1, .clo 138 [.ptr [vi aF0] 0, .ptr [vs aF1] 0, .ptr [vi aF2] 0]), (7, vi (aS.length : Int)), (8, vi 0)], []⟩ ?_
  refine swp_seqE (r := r) h (fun j1 => ⟨19, [], []⟩) (fun v2 h => ?_) (fun j1 h => ?_)
  refine swp_blk (a := v2) ?_
  refine swp_lpL (r := v2) (s := (0, ())) _ (fun s3 => ⟨19, [(0, vl eClaim aS), (1, .clo 138 [.ptr [vi aF0] 0, .ptr [vs aF1] 0, .ptr [vi aF2] 0]), (7, vi (aS.length : Int)), (8, vi s3.1)], []⟩) _ (Le.sub0) h (fun s3 v4 h => ?_)
  refine srk tbok ⟨19, [(0, vl eClaim aS), (1, .clo 138 [.ptr [vi aF0] 0, .ptr [vs aF1] 0, .ptr [vi aF2] 0]), (7, vi (aS.length : Int)), (8, vi s3.1), (9, vb (decide (s3.1 < (aS.length : Int))))], []⟩ ?_
  refine swp_seq ?_
  refine swp_cd h (fun h => ?_) fun h => ?_
  refine swp_skip ?_
  refine nx_n ?_
  refine swp_seq ?_
  refine swp_seqL (r := v4) h (fun j5 => ⟨19, [(0, vl eClaim aS), (1, .clo 138 [.ptr [vi aF0] 0, .ptr [vs aF1] 0, .ptr [vi aF2] 0]), (7, vi (aS.length : Int)), (8, vi s3.1)], []⟩) (fun v6 h => ?_) (fun j5 h => ?_)
  refine swp_blk (a := v6) ?_
  refine srk tbok ⟨19, [(0, vl eClaim aS), (1, .clo 138 [.ptr [vi aF0] 0, .ptr [vs aF1] 0, .ptr [vi aF2] 0]), (5, vi s3.1), (7, vi (aS.length : Int)), (8, vi s3.1)], []⟩ ?_
  refine sr ?_
  refine SRun.ck tbok 3 ⟨19, [(0, vl eClaim aS), (1, .clo 138 [.ptr [vi aF0] 0, .ptr [vs aF1] 0, .ptr [vi aF2] 0]), (5, vi s3.1), (7, vi (aS.length : Int)), (8, vi s3.1), (11, .clo 138 [.ptr [vi aF0] 0, .ptr [vs aF1] 0, .ptr [vi aF2] 0]), (12, vl eClaim aS), (13, vi s3.1)], []⟩ ?_
  obtain ⟨x7, hx7, h⟩ := bind_some h
  refine SRun.ls (x_index (L := aS) (f := eClaim) (ti := ti24) (tj := ti42) (e := 42) (k := .i64) tbok rfl hx7) ?_
  refine SRun.ck tbok 1 ⟨19, [(0, vl eClaim aS), (1, .clo 138 [.ptr [vi aF0] 0, .ptr [vs aF1] 0, .ptr [vi aF2] 0]), (5, vi s3.1), (7, vi (aS.length : Int)), (8, vi s3.1), (11, .clo 138 [.ptr [vi aF0] 0, .ptr [vs aF1] 0, .ptr [vi aF2] 0]), (15, .agg (tc eClaim x7))], []⟩ ?_
  obtain ⟨x8, hx8, h⟩ := bind_some h
  refine SRun.ls (xc ents138 (impl_told_1_run x7 aF0 aF1 aF2 _ hx8)) ?_
  refine SRun.nx ?_
  refine swp_cd h (fun h => ?_) fun h => ?_
  refine srk tbok ⟨19, [(4, vi s3.1)], []⟩ ?_
  refine swp_ret ?_
  obtain rfl := inj h
  exact q_br (q_rr (q_rr (q_br (q_rr (q_fr (f1 fv))))))
  refine swp_skip ?_
  obtain rfl := inj h
  exact q_bn (q_l (Le.sub0))
  refine swp_reg ?_
  refine SRun.ck tbok 2 ⟨19, [(0, vl eClaim aS), (1, .clo 138 [.ptr [vi aF0] 0, .ptr [vs aF1] 0, .ptr [vi aF2] 0]), (7, vi (aS.length : Int)), (8, vi (w64 (s3.1 + 1)))], []⟩ ?_
  refine SRun.nil ?_
  obtain rfl := inj h
  exact q_l (Le.sub0)
  refine swp_exit ?_
  obtain rfl := inj h
  exact nx_e (q_re (q_bh (q_l (Le.sub0))))
  refine srk tbok ⟨19, [(4, vi (-1))], []⟩ ?_
  refine swp_ret ?_
  obtain rfl := inj h
  exact q_fr (f1 fv)
noncomputable def impl_told (aList : (List Claim)) (aKind : Int) (aPlace : ByteArray) (aYear : Int) : Option (ByteArray × Bool) :=
  ((slices_IndexFunc_Claim_impl_told_1 aList aKind aPlace aYear).bind fun x1 => (bif (decide (x1 < 0)) then some ((ByteArray.mk #[]), false) else ((at' aList x1).bind fun x2 => some (x2.Value, true))))
theorem impl_told_run (aList : (List Claim)) (aKind : Int) (aPlace : ByteArray) (aYear : Int) (r : ByteArray × Bool) (h : impl_told aList aKind aPlace aYear = some r) : SCall Tryz.prog 92 [.v (vl eClaim aList), .v (vi aKind), .v (vs aPlace), .v (vi aYear)] ⟨[.v (vs r.1), .v (vb r.2)], [], false⟩ := by
  refine scall_in Tryz.func92 rfl [(.tmp 8), (.tmp 9)] rfl (fun r => ⟨[.v (vs r.1), .v (vb r.2)], [], false⟩) (r := r) ?_
  unfold impl_told at h
  refine srk tbok ⟨21, [(0, vl eClaim aList), (5, .ref 5 0), (6, .ref 6 0), (7, .ref 7 0)], [(5, .box [vi aKind]), (6, .box [vs aPlace]), (7, .box [vi aYear])]⟩ ?_
  refine sr ?_
  refine SRun.ck tbok 2 ⟨21, [(0, vl eClaim aList), (11, vl eClaim aList), (12, .clo 138 [.ref 5 0, .ref 6 0, .ref 7 0])], [(5, .box [vi aKind]), (6, .box [vs aPlace]), (7, .box [vi aYear])]⟩ ?_
  obtain ⟨x1, hx1, h⟩ := bind_some h
  refine SRun.ls (xc ents117 (slices_IndexFunc_Claim_impl_told_1_run aList aKind aPlace aYear _ hx1)) ?_
  refine ckn tbok 1 ⟨21, [(0, vl eClaim aList), (10, vi x1)], []⟩ ?_
  refine swp_seq ?_
  refine srk tbok ⟨21, [(0, vl eClaim aList), (10, vi x1), (15, vb (decide (x1 < 0)))], []⟩ ?_
  refine swp_cd h (fun h => ?_) fun h => ?_
  refine srk tbok ⟨21, [(8, vs (ByteArray.mk #[])), (9, vb false)], []⟩ ?_
  refine swp_ret ?_
  obtain rfl := inj h
  exact nx_r (q_fr (f2 fv fv))
  refine swp_skip ?_
  refine nx_n ?_
  refine sr ?_
  refine SRun.ck tbok 2 ⟨21, [(16, vl eClaim aList), (17, vi x1)], []⟩ ?_
  obtain ⟨x2, hx2, h⟩ := bind_some h
  refine SRun.ls (x_index (L := aList) (f := eClaim) (ti := ti24) (tj := ti42) (e := 42) (k := .i64) tbok rfl hx2) ?_
  refine ckn tbok 4 ⟨21, [(8, vs x2.Value), (9, vb true)], []⟩ ?_
  refine swp_ret ?_
  obtain rfl := inj h
  exact q_fr (f2 fv fv)
theorem ents92 : Ents Tryz.prog 92 := ents_of Tryz.func92 (by kernel_rfl) rfl
noncomputable def impl_bestTold (aList : (List Claim)) (aKind : Int) (aPlace : ByteArray) (aYear : Int) : Option (ByteArray × Int) :=
  ((impl_aboutCode aList aPlace aYear).bind fun x1 => (bif (x1 != 0) then some ((ByteArray.mk #[]), x1) else ((impl_bestRepair aList).bind fun x2 => ((impl_kept aList x2).bind fun x3 => ((impl_told x3 aKind aPlace aYear).bind fun x4 => (bif (!x4.2) then some ((ByteArray.mk #[]), 4) else some (x4.1, 0)))))))
theorem impl_bestTold_run (aList : (List Claim)) (aKind : Int) (aPlace : ByteArray) (aYear : Int) (r : ByteArray × Int) (h : impl_bestTold aList aKind aPlace aYear = some r) : SCall Tryz.prog 45 [.v (vl eClaim aList), .v (vi aKind), .v (vs aPlace), .v (vi aYear)] ⟨[.v (vs r.1), .v (vi r.2)], [], false⟩ := by
  refine scall_in Tryz.func45 rfl [(.tmp 8), (.tmp 9)] rfl (fun r => ⟨[.v (vs r.1), .v (vi r.2)], [], false⟩) (r := r) ?_
  unfold impl_bestTold at h
  refine srk tbok ⟨34, [(0, vl eClaim aList), (1, vi aKind), (2, vs aPlace), (3, vi aYear)], []⟩ ?_
  refine swp_seq ?_
  refine sr ?_
  refine SRun.ck tbok 3 ⟨34, [(0, vl eClaim aList), (1, vi aKind), (2, vs aPlace), (3, vi aYear), (13, vl eClaim aList), (14, vs aPlace), (15, vi aYear)], []⟩ ?_
  obtain ⟨x1, hx1, h⟩ := bind_some h
  refine SRun.ls (xc ents54 (impl_aboutCode_run aList aPlace aYear _ hx1)) ?_
  refine ckn tbok 1 ⟨34, [(0, vl eClaim aList), (1, vi aKind), (2, vs aPlace), (3, vi aYear), (10, vi x1)], []⟩ ?_
  refine srk tbok ⟨34, [(0, vl eClaim aList), (1, vi aKind), (2, vs aPlace), (3, vi aYear), (10, vi x1), (18, vb (x1 != 0))], []⟩ ?_
  refine swp_cd h (fun h => ?_) fun h => ?_
  refine srk tbok ⟨34, [(8, vs (ByteArray.mk #[])), (9, vi x1)], []⟩ ?_
  refine swp_ret ?_
  obtain rfl := inj h
  exact nx_r (q_fr (f2 fv fv))
  refine swp_skip ?_
  refine nx_n ?_
  refine sr ?_
  refine SRun.ck tbok 2 ⟨34, [(1, vi aKind), (2, vs aPlace), (3, vi aYear), (21, vl eClaim aList), (22, vl eClaim aList)], []⟩ ?_
  obtain ⟨x2, hx2, h⟩ := bind_some h
  refine SRun.ls (xc ents35 (impl_bestRepair_run aList _ hx2)) ?_
  obtain ⟨x3, hx3, h⟩ := bind_some h
  refine SRun.ls (xc ents40 (impl_kept_run aList x2 _ hx3)) ?_
  refine SRun.ck tbok 3 ⟨34, [(24, .own 24), (25, vi aKind), (26, vs aPlace), (27, vi aYear)], [(24, oa 42 7 eClaim x3)]⟩ ?_
  obtain ⟨x4, hx4, h⟩ := bind_some h
  refine SRun.ls (xc ents92 (impl_told_run x3 aKind aPlace aYear _ hx4)) ?_
  refine ckn tbok 5 ⟨34, [(11, vs x4.1), (12, vb x4.2)], []⟩ ?_
  refine swp_seq ?_
  refine srk tbok ⟨34, [(11, vs x4.1), (32, vb (!x4.2))], []⟩ ?_
  refine swp_cd h (fun h => ?_) fun h => ?_
  refine srk tbok ⟨34, [(8, vs (ByteArray.mk #[])), (9, vi 4)], []⟩ ?_
  refine swp_ret ?_
  obtain rfl := inj h
  exact nx_r (q_fr (f2 fv fv))
  refine swp_skip ?_
  refine nx_n ?_
  refine srk tbok ⟨34, [(8, vs x4.1), (9, vi 0)], []⟩ ?_
  refine swp_ret ?_
  obtain rfl := inj h
  exact q_fr (f2 fv fv)
theorem ents45 : Ents Tryz.prog 45 := ents_of Tryz.func45 (by kernel_rfl) rfl
noncomputable def impl_BestName (aList : (List Claim)) (aPlace : ByteArray) (aYear : Int) : Option (ByteArray × Int) :=
  ((impl_bestTold aList 0 aPlace aYear).bind fun x1 => some (x1.1, x1.2))
theorem impl_BestName_run (aList : (List Claim)) (aPlace : ByteArray) (aYear : Int) (r : ByteArray × Int) (h : impl_BestName aList aPlace aYear = some r) : SCall Tryz.prog 19 [.v (vl eClaim aList), .v (vs aPlace), .v (vi aYear)] ⟨[.v (vs r.1), .v (vi r.2)], [], false⟩ := by
  refine scall_in Tryz.func19 rfl [(.tmp 6), (.tmp 7)] rfl (fun r => ⟨[.v (vs r.1), .v (vi r.2)], [], false⟩) (r := r) ?_
  unfold impl_BestName at h
  refine srk tbok ⟨14, [(0, vl eClaim aList), (1, vs aPlace), (2, vi aYear)], []⟩ ?_
  refine sr ?_
  refine SRun.ck tbok 3 ⟨14, [(8, vl eClaim aList), (9, vs aPlace), (10, vi aYear)], []⟩ ?_
  obtain ⟨x1, hx1, h⟩ := bind_some h
  refine SRun.ls (xc ents45 (impl_bestTold_run aList 0 aPlace aYear _ hx1)) ?_
  refine ckn tbok 4 ⟨14, [(6, vs x1.1), (7, vi x1.2)], []⟩ ?_
  refine swp_ret ?_
  obtain rfl := inj h
  exact q_fr (f2 fv fv)
theorem ents19 : Ents Tryz.prog 19 := ents_of Tryz.func19 (by kernel_rfl) rfl
noncomputable def spec_ParentBy (aList : (List Claim)) (aPlace : ByteArray) (aYear : Int) : Option (ByteArray × Int) :=
  ((spec_l21Sound aList aPlace aYear).bind fun x1 => (bif (x1 != 0) then some ((ByteArray.mk #[]), x1) else ((spec_l21Parent aList aPlace aYear).bind fun x2 => (bif (x2.toList == (ByteArray.mk #[]).toList) then some ((ByteArray.mk #[]), 4) else some (x2, 0)))))
theorem spec_ParentBy_run (aList : (List Claim)) (aPlace : ByteArray) (aYear : Int) (r : ByteArray × Int) (h : spec_ParentBy aList aPlace aYear = some r) : SCall Tryz.prog 48 [.v (vl eClaim aList), .v (vs aPlace), .v (vi aYear)] ⟨[.v (vs r.1), .v (vi r.2)], [], false⟩ := by
  refine scall_in Tryz.func48 rfl [(.tmp 6), (.tmp 7)] rfl (fun r => ⟨[.v (vs r.1), .v (vi r.2)], [], false⟩) (r := r) ?_
  unfold spec_ParentBy at h
  refine srk tbok ⟨24, [(0, vl eClaim aList), (1, vs aPlace), (2, vi aYear)], []⟩ ?_
  refine sr ?_
  refine SRun.ck tbok 3 ⟨24, [(0, vl eClaim aList), (1, vs aPlace), (2, vi aYear), (10, vl eClaim aList), (11, vs aPlace), (12, vi aYear)], []⟩ ?_
  obtain ⟨x1, hx1, h⟩ := bind_some h
  refine SRun.ls (xc ents95 (spec_l21Sound_run aList aPlace aYear _ hx1)) ?_
  refine ckn tbok 1 ⟨24, [(0, vl eClaim aList), (1, vs aPlace), (2, vi aYear), (8, vi x1)], []⟩ ?_
  refine swp_seq ?_
  refine srk tbok ⟨24, [(0, vl eClaim aList), (1, vs aPlace), (2, vi aYear), (8, vi x1), (15, vb (x1 != 0))], []⟩ ?_
  refine swp_cd h (fun h => ?_) fun h => ?_
  refine srk tbok ⟨24, [(6, vs (ByteArray.mk #[])), (7, vi x1)], []⟩ ?_
  refine swp_ret ?_
  obtain rfl := inj h
  exact nx_r (q_fr (f2 fv fv))
  refine swp_skip ?_
  refine nx_n ?_
  refine sr ?_
  refine SRun.ck tbok 3 ⟨24, [(17, vl eClaim aList), (18, vs aPlace), (19, vi aYear)], []⟩ ?_
  obtain ⟨x2, hx2, h⟩ := bind_some h
  refine SRun.ls (xc ents96 (spec_l21Parent_run aList aPlace aYear _ hx2)) ?_
  refine ckn tbok 1 ⟨24, [(9, vs x2)], []⟩ ?_
  refine swp_seq ?_
  refine srk tbok ⟨24, [(9, vs x2), (22, vb (x2.toList == (ByteArray.mk #[]).toList))], []⟩ ?_
  refine swp_cd h (fun h => ?_) fun h => ?_
  refine srk tbok ⟨24, [(6, vs (ByteArray.mk #[])), (7, vi 4)], []⟩ ?_
  refine swp_ret ?_
  obtain rfl := inj h
  exact nx_r (q_fr (f2 fv fv))
  refine swp_skip ?_
  refine nx_n ?_
  refine srk tbok ⟨24, [(6, vs x2), (7, vi 0)], []⟩ ?_
  refine swp_ret ?_
  obtain rfl := inj h
  exact q_fr (f2 fv fv)
theorem ents48 : Ents Tryz.prog 48 := ents_of Tryz.func48 (by kernel_rfl) rfl
noncomputable def spec_BestParent (aList : (List Claim)) (aPlace : ByteArray) (aYear : Int) : Option (ByteArray × Int) :=
  ((spec_l21Code aList aPlace aYear).bind fun x1 => (bif (x1 != 0) then some ((ByteArray.mk #[]), x1) else ((spec_l24Kept aList).bind fun x2 => ((spec_ParentBy x2 aPlace aYear).bind fun x3 => some (x3.1, x3.2)))))
theorem spec_BestParent_run (aList : (List Claim)) (aPlace : ByteArray) (aYear : Int) (r : ByteArray × Int) (h : spec_BestParent aList aPlace aYear = some r) : SCall Tryz.prog 21 [.v (vl eClaim aList), .v (vs aPlace), .v (vi aYear)] ⟨[.v (vs r.1), .v (vi r.2)], [], false⟩ := by
  refine scall_in Tryz.func21 rfl [(.tmp 6), (.tmp 7)] rfl (fun r => ⟨[.v (vs r.1), .v (vi r.2)], [], false⟩) (r := r) ?_
  unfold spec_BestParent at h
  refine srk tbok ⟨23, [(0, vl eClaim aList), (1, vs aPlace), (2, vi aYear)], []⟩ ?_
  refine sr ?_
  refine SRun.ck tbok 3 ⟨23, [(0, vl eClaim aList), (1, vs aPlace), (2, vi aYear), (9, vl eClaim aList), (10, vs aPlace), (11, vi aYear)], []⟩ ?_
  obtain ⟨x1, hx1, h⟩ := bind_some h
  refine SRun.ls (xc ents47 (spec_l21Code_run aList aPlace aYear _ hx1)) ?_
  refine ckn tbok 1 ⟨23, [(0, vl eClaim aList), (1, vs aPlace), (2, vi aYear), (8, vi x1)], []⟩ ?_
  refine swp_seq ?_
  refine srk tbok ⟨23, [(0, vl eClaim aList), (1, vs aPlace), (2, vi aYear), (8, vi x1), (14, vb (x1 != 0))], []⟩ ?_
  refine swp_cd h (fun h => ?_) fun h => ?_
  refine srk tbok ⟨23, [(6, vs (ByteArray.mk #[])), (7, vi x1)], []⟩ ?_
  refine swp_ret ?_
  obtain rfl := inj h
  exact nx_r (q_fr (f2 fv fv))
  refine swp_skip ?_
  refine nx_n ?_
  refine sr ?_
  refine SRun.ck tbok 1 ⟨23, [(1, vs aPlace), (2, vi aYear), (16, vl eClaim aList)], []⟩ ?_
  obtain ⟨x2, hx2, h⟩ := bind_some h
  refine SRun.ls (xc ents49 (spec_l24Kept_run aList _ hx2)) ?_
  refine SRun.ck tbok 2 ⟨23, [(17, .own 17), (18, vs aPlace), (19, vi aYear)], [(17, oa 42 7 eClaim x2)]⟩ ?_
  obtain ⟨x3, hx3, h⟩ := bind_some h
  refine SRun.ls (xc ents48 (spec_ParentBy_run x2 aPlace aYear _ hx3)) ?_
  refine ckn tbok 4 ⟨23, [(6, vs x3.1), (7, vi x3.2)], []⟩ ?_
  refine swp_ret ?_
  obtain rfl := inj h
  exact q_fr (f2 fv fv)
theorem ents21 : Ents Tryz.prog 21 := ents_of Tryz.func21 (by kernel_rfl) rfl
noncomputable def impl_BestParent (aList : (List Claim)) (aPlace : ByteArray) (aYear : Int) : Option (ByteArray × Int) :=
  ((impl_bestTold aList 1 aPlace aYear).bind fun x1 => some (x1.1, x1.2))
theorem impl_BestParent_run (aList : (List Claim)) (aPlace : ByteArray) (aYear : Int) (r : ByteArray × Int) (h : impl_BestParent aList aPlace aYear = some r) : SCall Tryz.prog 23 [.v (vl eClaim aList), .v (vs aPlace), .v (vi aYear)] ⟨[.v (vs r.1), .v (vi r.2)], [], false⟩ := by
  refine scall_in Tryz.func23 rfl [(.tmp 6), (.tmp 7)] rfl (fun r => ⟨[.v (vs r.1), .v (vi r.2)], [], false⟩) (r := r) ?_
  unfold impl_BestParent at h
  refine srk tbok ⟨14, [(0, vl eClaim aList), (1, vs aPlace), (2, vi aYear)], []⟩ ?_
  refine sr ?_
  refine SRun.ck tbok 3 ⟨14, [(8, vl eClaim aList), (9, vs aPlace), (10, vi aYear)], []⟩ ?_
  obtain ⟨x1, hx1, h⟩ := bind_some h
  refine SRun.ls (xc ents45 (impl_bestTold_run aList 1 aPlace aYear _ hx1)) ?_
  refine ckn tbok 4 ⟨14, [(6, vs x1.1), (7, vi x1.2)], []⟩ ?_
  refine swp_ret ?_
  obtain rfl := inj h
  exact q_fr (f2 fv fv)
theorem ents23 : Ents Tryz.prog 23 := ents_of Tryz.func23 (by kernel_rfl) rfl
end Go.Proofs.YtppehghiiahabaaGreatDoor.Sh
