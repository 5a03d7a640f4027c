/- FnExactGroupsOf returns true and leaves its arguments as they were, for every input of its parameter types; no condition. -/
import Derived.Test.YtojhgfkohbfhhaaDoorR1
import Derived.Test.YtojhgfkohbfhhaaDoorY11
import Derived.Test.YtojhgfkohbfhhaaDoorCards
import Derived.Test.YtojhgfkohbfhhaaDoorTie
import Derived.ChangeMaps5
import Derived.SevenTiedAt
import Derived.Lay
namespace Go.Proofs.YtojhgfkohbfhhaaDoor
open Go.RowKit Go.ChangeShapes Go.WideShapes Go.ChangeAt Go.Deep Go.ChangeMaps
namespace Sh
theorem openT_Tie_44 : OpenT Tryd.prog 44 eTie okTie := by
  intro H enc w fuel cs x h
  obtain ⟨xs, m, _, _, hl, hxl, hf⟩ := DataW.trod_struct Tryd.underlying44 h
  have hc : Tryd.prog.cellsOf 44 = 4 := by kernel_rfl
  rw [hc] at hl
  have q0 : Tryd.prog.cellsOf 2 = 1 := by kernel_rfl
  have f0 : DataW.trod enc Tryd.prog w 0 (fun _ => true) true m 2 ((cs.drop 0).take (Tryd.prog.cellsOf 2)) = xs[0]? := hf 0 _ rfl
  rw [q0] at f0
  obtain ⟨a0, k0, _, r0⟩ := (openT_i64 Tryd.underlying2) H enc w m _ _ (f0.trans (List.getElem?_eq_getElem (by rw [hxl]; decide)))
  have q1 : Tryd.prog.cellsOf 2 = 1 := by kernel_rfl
  have f1 : DataW.trod enc Tryd.prog w 0 (fun _ => true) true m 2 ((cs.drop 1).take (Tryd.prog.cellsOf 2)) = xs[1]? := hf 1 _ rfl
  rw [q1] at f1
  obtain ⟨a1, k1, _, r1⟩ := (openT_i64 Tryd.underlying2) H enc w m _ _ (f1.trans (List.getElem?_eq_getElem (by rw [hxl]; decide)))
  have q2 : Tryd.prog.cellsOf 4 = 1 := by kernel_rfl
  have f2 : DataW.trod enc Tryd.prog w 0 (fun _ => true) true m 4 ((cs.drop 2).take (Tryd.prog.cellsOf 4)) = xs[2]? := hf 2 _ rfl
  rw [q2] at f2
  obtain ⟨a2, k2, _, r2⟩ := (openT_bool Tryd.underlying4) H enc w m _ _ (f2.trans (List.getElem?_eq_getElem (by rw [hxl]; decide)))
  have q3 : Tryd.prog.cellsOf 9 = 1 := by kernel_rfl
  have f3 : DataW.trod enc Tryd.prog w 0 (fun _ => true) true m 9 ((cs.drop 3).take (Tryd.prog.cellsOf 9)) = xs[3]? := hf 3 _ rfl
  rw [q3] at f3
  obtain ⟨a3, k3, _, r3⟩ := (openT_str Tryd.underlying9) H enc w m _ _ (f3.trans (List.getElem?_eq_getElem (by rw [hxl]; decide)))
  exact ⟨⟨a0, a1, a2, a3⟩, ⟨k0, k1, k2, k3⟩, by rw [hl]; rfl, (fields_cons (off := 0) 1 rfl r0 (fields_cons 1 rfl r1 (fields_cons 1 rfl r2 (fields_cons 1 rfl r3 fields_nil))))⟩
set_option maxRecDepth 100000 in
theorem fnExactGroupsOf_lifted (os : Os) (started : os.Started) (H : Type) (enc : TypeId × Value → H) :
    ReturnsInHanded {} Tryd.checked os 3 .any (fun w args => (Rows.fnExactGroupsOfSpec.pre enc Tryd.prog Tryd.f3 [] false w args ∧ laidMetH Tryd.prog Rows.fnExactGroupsOfRow.laid w) ∧ sizedMet enc Tryd.prog Tryd.f3 (OpenSpec.ofChange Rows.fnExactGroupsOfSpec) false w args) (Rows.fnExactGroupsOfSpec.post enc Tryd.prog Tryd.f3 false true false false) := by
  refine returnsInHanded_of_change_and (C := Tryd.checked) (X := fun w _ => laidMetH Tryd.prog Rows.fnExactGroupsOfRow.laid w) (fun _ _ _ hh h => h.of_heap hh) own started (by kernel_rfl) Tryd.func3
    (ChangeSpec.witness_shaped (enc := enc) (C := Tryd.checked) (os := os) (X := fun w _ => laidMetH Tryd.prog Rows.fnExactGroupsOfRow.laid w) false (World.laidAll Tryd.prog os Rows.fnExactGroupsOfRow.laid) #[.int .i64 0, .slice none 0 0] 8 (World.laidAll_os _ _ _)
      (World.shaped_of_ZipB (by kernel_rfl) (by kernel_rfl)) (by kernel_rfl) (by kernel_rfl) (by kernel_rfl)
      (by rw [MakeChecks.laidMetH_plain _ _ _ (by kernel_rfl)]; exact laidMet_laidAll _ (by kernel_rfl) (by kernel_rfl))) ?_
  intro W base args ds gs before hval0 hW _ _ _ _
  have hval : ∀ (j : Nat) t v, Tryd.f3.params[j]? = some t → args[j]? = some v → Value.okWide Tryd.prog W .any base t v := hval0
  have hW' := hW
  obtain ⟨p, q, hA0, hV, hbef, hfz, hnd⟩ := hW
  have hA : DataW.TrodAll enc Tryd.prog W 0 (fun _ => true) true Tryd.f3.params.toList args.toList ds p := hA0
  have hA1 := hA
  rw [Tryd.params3] at hA1 hval
  clear hA0 hval0
  have hts : ∀ t ∈ Tryd.f3.params.toList, Tryd.prog.readableRec t = true ∧ t < Tryd.prog.types.size := by
    rw [Tryd.params3]
    intro t ht
    have h : (#[2, 22] : Array TypeId).toList.all (fun t => Tryd.prog.readableRec t && decide (t < Tryd.prog.types.size)) = true := by kernel_rfl
    have h2 := List.all_eq_true.1 h t ht
    simpa using h2
  obtain ⟨v0, vs0, d0, ds0, p0, q0, hargs, rfl, rfl, h0, r0⟩ := trodAll_cons hA1
  obtain ⟨v1, vs1, d1, ds1, p1, q1, rfl, rfl, rfl, h1, r1⟩ := trodAll_cons r0
  obtain ⟨rfl, rfl, rfl⟩ := trodAll_nil r1
  obtain rfl : args = #[v0, v1] := by cases args; simp_all
  obtain ⟨rfl, rfl⟩ := trodVars_none hV
  obtain ⟨a0, rfl, rfl, rfl, wa0⟩ := open_int Tryd.underlying2 (hval 0 2 v0 rfl rfl) h0
  have w0 := bounds_i64 wa0
  have k0 : okI a0 := ⟨by omega, by omega⟩
  obtain ⟨A1, n1, c1, rfl⟩ := okWide_slice Tryd.underlying22 (hval 1 22 v1 rfl rfl)
  obtain ⟨fuel1, g1⟩ := h1
  obtain ⟨a1, k1, _, s1⟩ := (openT_slice (m := 4) Tryd.underlying22 (by kernel_rfl) (by decide) (fun _ => rfl) openT_Tie_44) H enc W fuel1 _ _ g1
  replace s1 := s1 0 _ _ rfl rfl
  refine (row_calls (ins := [.tr (.int .i64 a0), .tr (.sl a1.length (a1.map eTie))]) (vs := [.int .i64 a0, .slice A1 n1 c1]) (laws_FnExactGroupsOf_run a0 a1 true (FnExactGroupsOf_true a0 a1 k0 k1)) rfl (rows_cons (.tr _ _ (.int .i64 a0)) (rows_cons (.tr _ _ s1) rows_nil))).mono fun e W' ⟨he, hb⟩ => ?_
  subst he
  exact ⟨_, rfl, law_post hW' laidOut hts hA rfl hbef hb rfl Tryd.underlying4 rfl rfl rfl (fun _ _ => rfl)⟩
end Sh
/-- The claimed theorem. -/
theorem fnExactGroupsOf_holds : Rows.FnExactGroupsOfSaid :=
  OpenClaim.holds_of_wide 3 Tryd.f3 rfl rfl rfl rfl rfl rfl rfl ⟨rfl, rfl, rfl, rfl, rfl⟩ rfl rfl rfl rfl rfl (by kernel_rfl) Tryd.func3 (by kernel_rfl)
    (of_decide_eq_true (by kernel_rfl)) (by unfold Func.isWrapper; rw [if_neg (of_decide_eq_false (by kernel_rfl))]; exact ⟨rfl, rfl⟩)
    (fun os started H enc _ => Sh.fnExactGroupsOf_lifted os started H enc)
/-- The card that is claimed. -/
theorem fnExactGroupsOf_card : Rows.FnExactGroupsOfCardSaid :=
  Claim7.holds_tied_plain_at .later [] [.data, .pinned] true (true, "64d80f9425e66e35347faac15a81a15021a2e565416f4c8624adbd7623c66fa1") true fnExactGroupsOf_holds (fun _ h => by cases h) (by kernel_rfl) (fun _ h => by cases h) fnExactGroupsOf_row_tie rfl ⟨rfl, rfl⟩ (by kernel_rfl) rfl
    (fun f fn hf hfn => by
      obtain rfl : f = 3 := Option.some.inj ((show Tryd.prog.funcNamed Rows.fnExactGroupsOfRow.func = some 3 by kernel_rfl).symm.trans hf) |>.symm
      obtain rfl : fn = Tryd.f3 := (Option.some.inj (Tryd.func3.symm.trans hfn)).symm
      exact ⟨by kernel_rfl, fun j t ht => by
        rw [Tryd.params3] at ht
        have hm : t ∈ [2, 22] := by simpa using Array.mem_of_getElem? ht
        have hall : ([2, 22].all fun u => !Tryd.prog.wantsStandIn u) = true := by kernel_rfl
        exact (show Tryd.prog.wantsStandIn t = false by simpa using List.all_eq_true.1 hall t hm)⟩)
    (by kernel_rfl)
end Go.Proofs.YtojhgfkohbfhhaaDoor
