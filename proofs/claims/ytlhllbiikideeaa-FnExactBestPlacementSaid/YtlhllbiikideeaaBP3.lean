/- BestPlacement: a call of it does what its typed function says. -/
import Derived.Test.YtlhllbiikideeaaBP2
namespace Go.Proofs.Ytlhllbiikideeaa.Sh
open Go.RowKit
set_option maxRecDepth 100000
set_option maxHeartbeats 4000000
noncomputable def impl_BestPlacement (aList : List Label) : Option (List Int × Int) :=
  (impl_AreLabels aList).bind fun x1 => bif !x1 then some (([] : List Int), 1) else ((slices_Repeat_int64 ([4] : List Int) (aList.length : Int)).bind fun x2 => (walk_f (aList.length + 1) aList 0 none x2).bind fun r => match r.1 with
    | none => none
    | some x => some (x, 0))
/-- The names of the captured variables in BestPlacement's own frame. -/
def bpR (d : Nat) : Nat := if d = 1000001 then 1 else if d = 1000002 then 5 else if d = 1000003 then 4 else if d = 1000004 then 6 else if d = 1000100 then 13 else if d = 3000000 then 2 else d
theorem impl_BestPlacement_run (aList : List Label) (r : List Int × Int) (h : impl_BestPlacement aList = some r) : SCall Try.prog 9 [.v (vl eLabel aList)] ⟨[.own 2 1 r.1.length (r.1.map (eI .i64)), .v (vi r.2)], [], false⟩ := by
  refine scall_in Try.func9 rfl [(.tmp 2), (.tmp 3)] rfl (fun r => ⟨[.own 2 1 r.1.length (r.1.map (eI .i64)), .v (vi r.2)], [], false⟩) (r := r) ?_
  unfold impl_BestPlacement at h
  refine srk tbok ⟨18, [(1, .ref 1 0)], [(1, .box [vl eLabel aList]), (2, oa 2 1 (eI .i64) ([] : List Int))]⟩ ?_
  refine swp_seq ?_
  refine sr ?_
  refine SRun.ck tbok 1 ⟨18, [(1, .ref 1 0), (7, vl eLabel aList)], [(1, .box [vl eLabel aList]), (2, oa 2 1 (eI .i64) ([] : List Int))]⟩ ?_
  obtain ⟨x1, hx1, h⟩ := bind_some h
  refine SRun.ls (xc ents28 (impl_AreLabels_run aList _ hx1)) ?_
  refine ckn tbok 1 ⟨18, [(1, .ref 1 0), (9, vb (!x1))], [(1, .box [vl eLabel aList]), (2, oa 2 1 (eI .i64) ([] : List Int))]⟩ ?_
  refine swp_cd h (fun h => ?_) fun h => ?_
  · refine swp_le (σ' := ⟨18, [(1, .ref 1 0)], [(1, .box [vl eLabel aList])]⟩) (Le.sub0) ?_
    refine srk tbok ⟨18, [(2, .own 2), (3, vi 1)], [(2, oa 2 1 (eI .i64) ([] : List Int))]⟩ ?_
    refine swp_ret ?_
    obtain rfl := inj h
    exact nx_r (q_fr (f2 (fo (eI_flat .i64)) fv))
  refine swp_skip ?_
  refine nx_n ?_
  refine sr ?_
  refine SRun.ck tbok 3 ⟨18, [(1, .ref 1 0), (10, .own 10), (12, vi (aList.length : Int))], [(1, .box [vl eLabel aList]), (10, oa 2 1 (eI .i64) ([4] : List Int)), (2, oa 2 1 (eI .i64) ([] : List Int))]⟩ ?_
  obtain ⟨x2, hx2, h⟩ := bind_some h
  refine SRun.ls (xc ents32 (slices_Repeat_int64_run ([4] : List Int) (aList.length : Int) _ hx2)) ?_
  refine SRun.ck tbok 2 ⟨18, [(1, .ref 1 0), (4, .ref 4 0)], [(1, .box [vl eLabel aList]), (4, .box [.own 13]), (13, oa 2 1 (eI .i64) x2), (2, oa 2 1 (eI .i64) ([] : List Int))]⟩ ?_
  refine SRun.nx ?_
  refine sr ?_
  refine SRun.ls (lstep_alloc_nil (ti := ti24) tbok rfl rfl) ?_
  refine SRun.nx ?_
  refine srk tbokW ⟨18, [(1, .ref 1 0), (4, .ref 4 0), (5, .ref 5 0), (6, .ref 6 0)], [(1, .box [vl eLabel aList]), (4, .box [.own 13]), (5, .box [.tr .nil]), (6, .box [.tr .nilf]), (13, oa 2 1 (eI .i64) x2), (2, oa 2 1 (eI .i64) ([] : List Int))]⟩ ?_
  refine srk tbokW ⟨18, [(1, .ref 1 0), (4, .ref 4 0), (5, .ref 5 0), (6, .ref 6 0)], [(1, .box [vl eLabel aList]), (5, .box [.tr .nil]), (4, .box [.own 13]), (6, .box [.clo 33 [.ref 1 0, .ref 5 0, .ref 4 0, .ref 6 0]]), (13, oa 2 1 (eI .i64) x2), (2, oa 2 1 (eI .i64) ([] : List Int))]⟩ ?_
  obtain ⟨q, hq, h⟩ := bind_some h
  refine sr ?_
  refine SRun.ck tbokW 1 ⟨18, [(5, .ref 5 0), (15, .clo 33 [.ref 1 0, .ref 5 0, .ref 4 0, .ref 6 0])], [(1, .box [vl eLabel aList]), (5, .box [.tr .nil]), (4, .box [.own 13]), (6, .box [.clo 33 [.ref 1 0, .ref 5 0, .ref 4 0, .ref 6 0]]), (13, oa 2 1 (eI .i64) x2), (2, oa 2 1 (eI .i64) ([] : List Int))]⟩ ?_
  refine SRun.estep (hstep_ren bpR (xs := [vi 0]) (caps := [.ref 1 0, .ref 5 0, .ref 4 0, .ref 6 0]) rfl ents33 (walk_run _ aList 0 none x2 q hq) (fun p hp k hk => by
    have := (wos_nm p hp).2 k hk
    rcases this with rfl | rfl | rfl | rfl | rfl | rfl <;> first | exact .inl rfl | exact .inr ⟨by decide, by decide⟩)) ?_
  refine SRun.nx ?_
  obtain ⟨b, cur⟩ := q
  cases b with
  | none => cases h
  | some x =>
    refine srk tbok ⟨18, [(2, .own 2), (3, vi 0)], [(2, oa 2 1 (eI .i64) x)]⟩ ?_
    refine swp_ret ?_
    obtain rfl := inj h
    exact q_fr (f2 (fo (eI_flat .i64)) fv)
end Go.Proofs.Ytlhllbiikideeaa.Sh
