/- FnExactClashesOf returns true and leaves its arguments as they were, for every input of its parameter types; no condition. -/
import Derived.Test.YtnnpmbcamnnfgaaB1
import Derived.Test.YtnnpmbcamnnfgaaA21
namespace Go.Proofs.Ytnnpmbcamnnfgaa
open Go.RowKit Go.ChangeShapes Go.WideShapes Go.ChangeAt Go.Deep
set_option maxRecDepth 100000 in
theorem fnExactClashesOf_lifted (os : Os) (started : os.Started) (H : Type) (enc : TypeId × Value → H) :
    ReturnsInHanded {} Try.checked os 9 .any (Rows.fnExactClashesOfSpec.pre6 enc Try.prog Try.f9 Rows.fnExactClashesOfRow.domain false) (Rows.fnExactClashesOfSpec.post enc Try.prog Try.f9 false true false false) := by
  refine returnsInHanded_of_change (C := Try.checked) Try.own started (by kernel_rfl) Try.func9
    (ChangeSpec.witness6 (enc := enc) (C := Try.checked) false ⟨#[], #[.slice none 0 0, .slice none 0 0], []⟩ 8 (by kernel_rfl) (by kernel_rfl) (by kernel_rfl) (by kernel_rfl)) ?_
  intro W base args ds gs before hval0 hW _ _
  have hval : ∀ (j : Nat) t v, Try.f9.params[j]? = some t → args[j]? = some v → Value.okWide Try.prog W .any base t v := hval0
  have hW' := hW
  obtain ⟨p, q, hA0, hV, hbef, hfz, hnd⟩ := hW
  have hA : DataW.TrodAll enc Try.prog W 0 (fun _ => true) true Try.f9.params.toList args.toList ds p := hA0
  have hA1 := hA
  rw [Try.params9] at hA1 hval
  clear hA0 hval0
  have hts : ∀ t ∈ Try.f9.params.toList, Try.prog.readableRec t = true ∧ t < Try.prog.types.size := by
    rw [Try.params9]
    intro t ht
    have h : (#[22, 29] : Array TypeId).toList.all (fun t => Try.prog.readableRec t && decide (t < Try.prog.types.size)) = true := by kernel_rfl
    have h2 := List.all_eq_true.1 h t ht
    simpa using h2
  obtain ⟨v0, vs0, d0, ds0, p0, q0, hargs, rfl, rfl, h0, r0⟩ := trodAll_cons hA1
  obtain ⟨v1, vs1, d1, ds1, p1, q1, rfl, rfl, rfl, h1, r1⟩ := trodAll_cons r0
  obtain ⟨rfl, rfl, rfl⟩ := trodAll_nil r1
  obtain rfl : args = #[v0, v1] := by cases args; simp_all
  obtain ⟨rfl, rfl⟩ := trodVars_none hV
  obtain ⟨A0, n0, c0, rfl⟩ := okWide_slice Try.underlying22 (hval 0 22 v0 rfl rfl)
  obtain ⟨fuel0, g0⟩ := h0
  obtain ⟨A0', n0', c0', e0, L0, k0, R0⟩ := opens_rd Try.underlying22 (by kernel_rfl) (by decide) (opens_Label) g0
  simp only [Value.cells, List.cons.injEq, Value.slice.injEq, and_true] at e0
  obtain ⟨rfl, rfl, rfl⟩ := e0
  obtain ⟨A1, n1, c1, rfl⟩ := okWide_slice Try.underlying29 (hval 1 29 v1 rfl rfl)
  obtain ⟨fuel1, g1⟩ := h1
  obtain ⟨A1', n1', c1', e1, L1, k1, R1⟩ := opens_rd Try.underlying29 (by kernel_rfl) (by decide) (opens_int Try.underlying2) g1
  simp only [Value.cells, List.cons.injEq, Value.slice.injEq, and_true] at e1
  obtain ⟨rfl, rfl, rfl⟩ := e1
  refine (lawClashes_any A0 n0 c0 L0 A1 n1 c1 L1 W R0 R1).mono fun e W' ⟨he, X, hX⟩ => ?_
  subst he hX
  exact ⟨_, rfl, law_post hW' Try.laidOut hts hA rfl hbef X.h rfl Try.underlying4 rfl rfl rfl (fun _ _ => rfl)⟩
theorem fnExactClashesOf_holds : Rows.FnExactClashesOfSaid :=
  OpenClaim.holds_of_wide 9 Try.f9 rfl rfl rfl rfl rfl rfl rfl ⟨rfl, rfl, rfl, rfl, rfl⟩ rfl rfl rfl rfl rfl (by kernel_rfl) Try.func9 (by kernel_rfl)
    (of_decide_eq_true (by kernel_rfl)) (by unfold Func.isWrapper; rw [if_neg (of_decide_eq_false (by kernel_rfl))]; exact ⟨rfl, rfl⟩)
    (fun os started H enc _ => fnExactClashesOf_lifted os started H enc)
end Go.Proofs.Ytnnpmbcamnnfgaa
