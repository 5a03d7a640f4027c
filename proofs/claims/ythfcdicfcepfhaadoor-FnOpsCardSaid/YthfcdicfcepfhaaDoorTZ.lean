/- FnOps returns true and leaves its arguments as they were, for every input of its parameter types; no condition. -/
import Derived.Test.YthfcdicfcepfhaaDoorR1
import Derived.Test.YthfcdicfcepfhaaDoorTJ6
import Derived.Test.YthfcdicfcepfhaaDoorCards
import Derived.Test.YthfcdicfcepfhaaDoorTie
import Derived.ChangeMaps5
import Derived.SevenTiedAt
import Derived.Lay
namespace Go.Proofs.YthfcdicfcepfhaaDoor
open Go.RowKit Go.ChangeShapes Go.WideShapes Go.ChangeAt Go.Deep Go.ChangeMaps
namespace Sh

set_option maxRecDepth 100000 in
theorem fnOps_lifted (os : Os) (started : os.Started) (H : Type) (enc : TypeId × Value → H) :
    ReturnsInHanded {} Tryd.checked os 11 .any (fun w args => (Rows.fnOpsSpec.pre enc Tryd.prog Tryd.f11 [] false w args ∧ laidMetH Tryd.prog Rows.fnOpsRow.laid w) ∧ sizedMet enc Tryd.prog Tryd.f11 (OpenSpec.ofChange Rows.fnOpsSpec) false w args) (Rows.fnOpsSpec.post enc Tryd.prog Tryd.f11 false true false false) := by
  refine returnsInHanded_of_change_and (C := Tryd.checked) (X := fun w _ => laidMetH Tryd.prog Rows.fnOpsRow.laid w) (fun _ _ _ hh h => h.of_heap hh) own started (by kernel_rfl) Tryd.func11
    (ChangeSpec.witness_shaped (enc := enc) (C := Tryd.checked) (os := os) (X := fun w _ => laidMetH Tryd.prog Rows.fnOpsRow.laid w) false (World.laidAll Tryd.prog os Rows.fnOpsRow.laid) #[.slice none 0 0] 8 (World.laidAll_os _ _ _)
      (World.shaped_of_ZipB (by kernel_rfl) (by kernel_rfl)) (by kernel_rfl) (by kernel_rfl) (by kernel_rfl)
      (by rw [MakeChecks.laidMetH_plain _ _ _ (by kernel_rfl)]; exact laidMet_laidAll _ (by kernel_rfl) (by kernel_rfl))) ?_
  intro W base args ds gs before hval0 hW _ _ _ _
  have hval : ∀ (j : Nat) t v, Tryd.f11.params[j]? = some t → args[j]? = some v → Value.okWide Tryd.prog W .any base t v := hval0
  have hW' := hW
  obtain ⟨p, q, hA0, hV, hbef, hfz, hnd⟩ := hW
  have hA : DataW.TrodAll enc Tryd.prog W 0 (fun _ => true) true Tryd.f11.params.toList args.toList ds p := hA0
  have hA1 := hA
  rw [Tryd.params11] at hA1 hval
  clear hA0 hval0
  have hts : ∀ t ∈ Tryd.f11.params.toList, Tryd.prog.readableRec t = true ∧ t < Tryd.prog.types.size := by
    rw [Tryd.params11]
    intro t ht
    have h : (#[50] : Array TypeId).toList.all (fun t => Tryd.prog.readableRec t && decide (t < Tryd.prog.types.size)) = true := by kernel_rfl
    have h2 := List.all_eq_true.1 h t ht
    simpa using h2
  obtain ⟨v0, vs0, d0, ds0, p0, q0, hargs, rfl, rfl, h0, r0⟩ := trodAll_cons hA1
  obtain ⟨rfl, rfl, rfl⟩ := trodAll_nil r0
  obtain rfl : args = #[v0] := by cases args; simp_all
  obtain ⟨rfl, rfl⟩ := trodVars_none hV
  obtain ⟨A0, n0, c0, rfl⟩ := okWide_slice Tryd.underlying50 (hval 0 50 v0 rfl rfl)
  obtain ⟨fuel0, g0⟩ := h0
  obtain ⟨a0, k0, _, s0⟩ := (openT_slice (m := 1) Tryd.underlying50 (by kernel_rfl) (by decide) (fun _ => rfl) (openT_u8 Tryd.underlying5)) H enc W fuel0 _ _ g0
  replace s0 := s0 0 _ _ rfl rfl
  refine (row_calls (ins := [.tr (.sl a0.length (a0.map (eI .u8)))]) (vs := [.slice A0 n0 c0]) (laws_FnOps_run a0 true (FnOps_true a0 k0)) rfl (rows_cons (.tr _ _ s0) rows_nil)).mono fun e W' ⟨he, hb⟩ => ?_
  subst he
  exact ⟨_, rfl, law_post hW' laidOut hts hA rfl hbef hb rfl Tryd.underlying4 rfl rfl rfl (fun _ _ => rfl)⟩
end Sh
/-- The claimed theorem. -/
theorem fnOps_holds : Rows.FnOpsSaid :=
  OpenClaim.holds_of_wide 11 Tryd.f11 rfl rfl rfl rfl rfl rfl rfl ⟨rfl, rfl, rfl, rfl, rfl⟩ rfl rfl rfl rfl rfl (by kernel_rfl) Tryd.func11 (by kernel_rfl)
    (of_decide_eq_true (by kernel_rfl)) (by unfold Func.isWrapper; rw [if_neg (of_decide_eq_false (by kernel_rfl))]; exact ⟨rfl, rfl⟩)
    (fun os started H enc _ => Sh.fnOps_lifted os started H enc)
/-- The card that is claimed. -/
theorem fnOps_card : Rows.FnOpsCardSaid :=
  Claim7.holds_tied_plain_at .later [] [.data, .pinned] true (true, "b5c291ed0ff0ea5e422ab5d351a4fe0281a18510446be07b9dcdf3222f135825") false fnOps_holds (fun _ h => by cases h) (by kernel_rfl) (fun _ h => by cases h) fnOps_row_tie rfl ⟨rfl, rfl⟩ (by kernel_rfl) rfl
    (fun f fn hf hfn => by
      obtain rfl : f = 11 := Option.some.inj ((show Tryd.prog.funcNamed Rows.fnOpsRow.func = some 11 by kernel_rfl).symm.trans hf) |>.symm
      obtain rfl : fn = Tryd.f11 := (Option.some.inj (Tryd.func11.symm.trans hfn)).symm
      exact ⟨by kernel_rfl, fun j t ht => by
        rw [Tryd.params11] at ht
        have hm : t ∈ [50] := by simpa using Array.mem_of_getElem? ht
        have hall : ([50].all fun u => !Tryd.prog.wantsStandIn u) = true := by kernel_rfl
        exact (show Tryd.prog.wantsStandIn t = false by simpa using List.all_eq_true.1 hall t hm)⟩)
    (by kernel_rfl)
end Go.Proofs.YthfcdicfcepfhaaDoor
