/- FnExactBestPlacement returns true and leaves its arguments as they were, for every input of its parameter types; no condition. -/
import Derived.Test.YtlhllbiikideeaaR1
import Derived.Test.YtlhllbiikideeaaYA
import Derived.ChangeMaps5
namespace Go.Proofs.Ytlhllbiikideeaa
open Go.RowKit Go.ChangeShapes Go.WideShapes Go.ChangeAt Go.Deep Go.ChangeMaps
namespace Sh
theorem openT_Point_54 : OpenT Try.prog 54 ePoint okPoint := by
  intro H enc w fuel cs x h
  obtain ⟨xs, m, _, _, hl, hxl, hf⟩ := DataW.trod_struct Try.underlying54 h
  have hc : Try.prog.cellsOf 54 = 2 := by kernel_rfl
  rw [hc] at hl
  have q0 : Try.prog.cellsOf 2 = 1 := by kernel_rfl
  have f0 : DataW.trod enc Try.prog w 0 (fun _ => true) true m 2 ((cs.drop 0).take (Try.prog.cellsOf 2)) = xs[0]? := hf 0 _ rfl
  rw [q0] at f0
  obtain ⟨a0, k0, _, r0⟩ := (openT_i64 Try.underlying2) H enc w m _ _ (f0.trans (List.getElem?_eq_getElem (by rw [hxl]; decide)))
  have q1 : Try.prog.cellsOf 2 = 1 := by kernel_rfl
  have f1 : DataW.trod enc Try.prog w 0 (fun _ => true) true m 2 ((cs.drop 1).take (Try.prog.cellsOf 2)) = xs[1]? := hf 1 _ rfl
  rw [q1] at f1
  obtain ⟨a1, k1, _, r1⟩ := (openT_i64 Try.underlying2) H enc w m _ _ (f1.trans (List.getElem?_eq_getElem (by rw [hxl]; decide)))
  exact ⟨⟨a0, a1⟩, ⟨k0, k1⟩, by rw [hl]; rfl, (fields_cons (off := 0) 1 rfl r0 (fields_cons 1 rfl r1 fields_nil))⟩
theorem openT_Label_56 : OpenT Try.prog 56 eLabel okLabel := by
  intro H enc w fuel cs x h
  obtain ⟨xs, m, _, _, hl, hxl, hf⟩ := DataW.trod_struct Try.underlying56 h
  have hc : Try.prog.cellsOf 56 = 4 := by kernel_rfl
  rw [hc] at hl
  have q0 : Try.prog.cellsOf 54 = 2 := by kernel_rfl
  have f0 : DataW.trod enc Try.prog w 0 (fun _ => true) true m 54 ((cs.drop 0).take (Try.prog.cellsOf 54)) = xs[0]? := hf 0 _ rfl
  rw [q0] at f0
  obtain ⟨a0, k0, _, r0⟩ := openT_Point_54 H enc w m _ _ (f0.trans (List.getElem?_eq_getElem (by rw [hxl]; decide)))
  have q1 : Try.prog.cellsOf 2 = 1 := by kernel_rfl
  have f1 : DataW.trod enc Try.prog w 0 (fun _ => true) true m 2 ((cs.drop 2).take (Try.prog.cellsOf 2)) = xs[1]? := hf 1 _ rfl
  rw [q1] at f1
  obtain ⟨a1, k1, _, r1⟩ := (openT_i64 Try.underlying2) H enc w m _ _ (f1.trans (List.getElem?_eq_getElem (by rw [hxl]; decide)))
  have q2 : Try.prog.cellsOf 2 = 1 := by kernel_rfl
  have f2 : DataW.trod enc Try.prog w 0 (fun _ => true) true m 2 ((cs.drop 3).take (Try.prog.cellsOf 2)) = xs[2]? := hf 2 _ rfl
  rw [q2] at f2
  obtain ⟨a2, k2, _, r2⟩ := (openT_i64 Try.underlying2) H enc w m _ _ (f2.trans (List.getElem?_eq_getElem (by rw [hxl]; decide)))
  exact ⟨⟨a0, a1, a2⟩, ⟨k0, k1, k2⟩, by rw [hl]; rfl, (fields_cons (off := 0) 2 rfl r0 (fields_cons 1 rfl r1 (fields_cons 1 rfl r2 fields_nil)))⟩
set_option maxRecDepth 100000 in
theorem fnExactBestPlacement_lifted (os : Os) (started : os.Started) (H : Type) (enc : TypeId × Value → H) :
    ReturnsInHanded {} Try.checked os 3 .any (Rows.fnExactBestPlacementSpec.pre6 enc Try.prog Try.f3 Rows.fnExactBestPlacementRow.domain false) (Rows.fnExactBestPlacementSpec.post enc Try.prog Try.f3 false true false false) := by
  refine returnsInHanded_of_change (C := Try.checked) own started (by kernel_rfl) Try.func3
    (ChangeSpec.witness6 (enc := enc) (C := Try.checked) false ⟨#[], #[.slice none 0 0], []⟩ 8 (by kernel_rfl) (by kernel_rfl) (by kernel_rfl) (by kernel_rfl)) ?_
  intro W base args ds gs before hval0 hW _ _
  have hval : ∀ (j : Nat) t v, Try.f3.params[j]? = some t → args[j]? = some v → Value.okWide Try.prog W .any base t v := hval0
  have hW' := hW
  obtain ⟨p, q, hA0, hV, hbef, hfz, hnd⟩ := hW
  have hA : DataW.TrodAll enc Try.prog W 0 (fun _ => true) true Try.f3.params.toList args.toList ds p := hA0
  have hA1 := hA
  rw [Try.params3] at hA1 hval
  clear hA0 hval0
  have hts : ∀ t ∈ Try.f3.params.toList, Try.prog.readableRec t = true ∧ t < Try.prog.types.size := by
    rw [Try.params3]
    intro t ht
    have h : (#[22] : Array TypeId).toList.all (fun t => Try.prog.readableRec t && decide (t < Try.prog.types.size)) = true := by kernel_rfl
    have h2 := List.all_eq_true.1 h t ht
    simpa using h2
  obtain ⟨v0, vs0, d0, ds0, p0, q0, hargs, rfl, rfl, h0, r0⟩ := trodAll_cons hA1
  obtain ⟨rfl, rfl, rfl⟩ := trodAll_nil r0
  obtain rfl : args = #[v0] := by cases args; simp_all
  obtain ⟨rfl, rfl⟩ := trodVars_none hV
  obtain ⟨A0, n0, c0, rfl⟩ := okWide_slice Try.underlying22 (hval 0 22 v0 rfl rfl)
  obtain ⟨fuel0, g0⟩ := h0
  obtain ⟨a0, k0, _, s0⟩ := (openT_slice (m := 4) Try.underlying22 (by kernel_rfl) (by decide) (fun _ => rfl) openT_Label_56) H enc W fuel0 _ _ g0
  replace s0 := s0 0 _ _ rfl rfl
  refine (row_calls (ins := [.tr (.sl a0.length (a0.map eLabel))]) (vs := [.slice A0 n0 c0]) (laws_FnExactBestPlacement_run a0 true (FnExactBestPlacement_true a0 k0)) rfl (rows_cons (.tr _ _ s0) rows_nil)).mono fun e W' ⟨he, hb⟩ => ?_
  subst he
  exact ⟨_, rfl, law_post hW' laidOut hts hA rfl hbef hb rfl Try.underlying4 rfl rfl rfl (fun _ _ => rfl)⟩
end Sh
/-- The claimed theorem. -/
theorem fnExactBestPlacement_holds : Rows.FnExactBestPlacementSaid :=
  OpenClaim.holds_of_wide 3 Try.f3 rfl rfl rfl rfl rfl rfl rfl ⟨rfl, rfl, rfl, rfl, rfl⟩ rfl rfl rfl rfl rfl (by kernel_rfl) Try.func3 (by kernel_rfl)
    (of_decide_eq_true (by kernel_rfl)) (by unfold Func.isWrapper; rw [if_neg (of_decide_eq_false (by kernel_rfl))]; exact ⟨rfl, rfl⟩)
    (fun os started H enc _ => Sh.fnExactBestPlacement_lifted os started H enc)
end Go.Proofs.Ytlhllbiikideeaa
