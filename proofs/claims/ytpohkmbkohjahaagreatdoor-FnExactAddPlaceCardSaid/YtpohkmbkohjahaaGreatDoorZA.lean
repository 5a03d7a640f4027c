/- FnExactAddPlace returns true and leaves its arguments as they were, for every input of its parameter types; no condition. -/
import Derived.Test.YtpohkmbkohjahaaGreatDoorR1
import Derived.Test.YtpohkmbkohjahaaGreatDoorMPL7
import Derived.Test.YtpohkmbkohjahaaGreatDoorCards
import Derived.Test.YtpohkmbkohjahaaGreatDoorTie
import Derived.ChangeMaps5
import Derived.SevenTiedAt
import Derived.Lay
namespace Go.Proofs.YtpohkmbkohjahaaGreatDoor
open Go.RowKit Go.ChangeShapes Go.WideShapes Go.ChangeAt Go.Deep Go.ChangeMaps
namespace Sh
theorem openT_Span_32 : OpenT Tryz.prog 32 eSpan okSpan := by
  intro H enc w fuel cs x h
  obtain ⟨xs, m, _, _, hl, hxl, hf⟩ := DataW.trod_struct Tryz.underlying32 h
  have hc : Tryz.prog.cellsOf 32 = 2 := by kernel_rfl
  rw [hc] at hl
  have q0 : Tryz.prog.cellsOf 2 = 1 := by kernel_rfl
  have f0 : DataW.trod enc Tryz.prog w 0 (fun _ => true) true m 2 ((cs.drop 0).take (Tryz.prog.cellsOf 2)) = xs[0]? := hf 0 _ rfl
  rw [q0] at f0
  obtain ⟨a0, k0, _, r0⟩ := (openT_i64 Tryz.underlying2) H enc w m _ _ (f0.trans (List.getElem?_eq_getElem (by rw [hxl]; decide)))
  have q1 : Tryz.prog.cellsOf 2 = 1 := by kernel_rfl
  have f1 : DataW.trod enc Tryz.prog w 0 (fun _ => true) true m 2 ((cs.drop 1).take (Tryz.prog.cellsOf 2)) = xs[1]? := hf 1 _ rfl
  rw [q1] at f1
  obtain ⟨a1, k1, _, r1⟩ := (openT_i64 Tryz.underlying2) H enc w m _ _ (f1.trans (List.getElem?_eq_getElem (by rw [hxl]; decide)))
  exact ⟨⟨a0, a1⟩, ⟨k0, k1⟩, by rw [hl]; rfl, (fields_cons (off := 0) 1 rfl r0 (fields_cons 1 rfl r1 fields_nil))⟩
theorem openT_Name_112 : OpenT Tryz.prog 112 eName okName := by
  intro H enc w fuel cs x h
  obtain ⟨xs, m, _, _, hl, hxl, hf⟩ := DataW.trod_struct Tryz.underlying112 h
  have hc : Tryz.prog.cellsOf 112 = 5 := by kernel_rfl
  rw [hc] at hl
  have q0 : Tryz.prog.cellsOf 9 = 1 := by kernel_rfl
  have f0 : DataW.trod enc Tryz.prog w 0 (fun _ => true) true m 9 ((cs.drop 0).take (Tryz.prog.cellsOf 9)) = xs[0]? := hf 0 _ rfl
  rw [q0] at f0
  obtain ⟨a0, k0, _, r0⟩ := (openT_str Tryz.underlying9) H enc w m _ _ (f0.trans (List.getElem?_eq_getElem (by rw [hxl]; decide)))
  have q1 : Tryz.prog.cellsOf 9 = 1 := by kernel_rfl
  have f1 : DataW.trod enc Tryz.prog w 0 (fun _ => true) true m 9 ((cs.drop 1).take (Tryz.prog.cellsOf 9)) = xs[1]? := hf 1 _ rfl
  rw [q1] at f1
  obtain ⟨a1, k1, _, r1⟩ := (openT_str Tryz.underlying9) H enc w m _ _ (f1.trans (List.getElem?_eq_getElem (by rw [hxl]; decide)))
  have q2 : Tryz.prog.cellsOf 2 = 1 := by kernel_rfl
  have f2 : DataW.trod enc Tryz.prog w 0 (fun _ => true) true m 2 ((cs.drop 2).take (Tryz.prog.cellsOf 2)) = xs[2]? := hf 2 _ rfl
  rw [q2] at f2
  obtain ⟨a2, k2, _, r2⟩ := (openT_i64 Tryz.underlying2) H enc w m _ _ (f2.trans (List.getElem?_eq_getElem (by rw [hxl]; decide)))
  have q3 : Tryz.prog.cellsOf 32 = 2 := by kernel_rfl
  have f3 : DataW.trod enc Tryz.prog w 0 (fun _ => true) true m 32 ((cs.drop 3).take (Tryz.prog.cellsOf 32)) = xs[3]? := hf 3 _ rfl
  rw [q3] at f3
  obtain ⟨a3, k3, _, r3⟩ := openT_Span_32 H enc w m _ _ (f3.trans (List.getElem?_eq_getElem (by rw [hxl]; decide)))
  exact ⟨⟨a0, a1, a2, a3⟩, ⟨k0, k1, k2, k3⟩, by rw [hl]; rfl, (fields_cons (off := 0) 1 rfl r0 (fields_cons 1 rfl r1 (fields_cons 1 rfl r2 (fields_cons 2 rfl r3 fields_nil))))⟩
theorem openT_Place_35 : OpenT Tryz.prog 35 ePlace okPlace := by
  intro H enc w fuel cs x h
  obtain ⟨xs, m, _, _, hl, hxl, hf⟩ := DataW.trod_struct Tryz.underlying35 h
  have hc : Tryz.prog.cellsOf 35 = 5 := by kernel_rfl
  rw [hc] at hl
  have q0 : Tryz.prog.cellsOf 9 = 1 := by kernel_rfl
  have f0 : DataW.trod enc Tryz.prog w 0 (fun _ => true) true m 9 ((cs.drop 0).take (Tryz.prog.cellsOf 9)) = xs[0]? := hf 0 _ rfl
  rw [q0] at f0
  obtain ⟨a0, k0, _, r0⟩ := (openT_str Tryz.underlying9) H enc w m _ _ (f0.trans (List.getElem?_eq_getElem (by rw [hxl]; decide)))
  have q1 : Tryz.prog.cellsOf 2 = 1 := by kernel_rfl
  have f1 : DataW.trod enc Tryz.prog w 0 (fun _ => true) true m 2 ((cs.drop 1).take (Tryz.prog.cellsOf 2)) = xs[1]? := hf 1 _ rfl
  rw [q1] at f1
  obtain ⟨a1, k1, _, r1⟩ := (openT_i64 Tryz.underlying2) H enc w m _ _ (f1.trans (List.getElem?_eq_getElem (by rw [hxl]; decide)))
  have q2 : Tryz.prog.cellsOf 32 = 2 := by kernel_rfl
  have f2 : DataW.trod enc Tryz.prog w 0 (fun _ => true) true m 32 ((cs.drop 2).take (Tryz.prog.cellsOf 32)) = xs[2]? := hf 2 _ rfl
  rw [q2] at f2
  obtain ⟨a2, k2, _, r2⟩ := openT_Span_32 H enc w m _ _ (f2.trans (List.getElem?_eq_getElem (by rw [hxl]; decide)))
  have q3 : Tryz.prog.cellsOf 33 = 1 := by kernel_rfl
  have f3 : DataW.trod enc Tryz.prog w 0 (fun _ => true) true m 33 ((cs.drop 4).take (Tryz.prog.cellsOf 33)) = xs[3]? := hf 3 _ rfl
  rw [q3] at f3
  obtain ⟨a3, k3, _, r3⟩ := (openT_slice (m := 5) Tryz.underlying33 (by kernel_rfl) (by decide) (fun _ => rfl) openT_Name_112) H enc w m _ _ (f3.trans (List.getElem?_eq_getElem (by rw [hxl]; decide)))
  exact ⟨⟨a0, a1, a2, a3⟩, ⟨k0, k1, k2, k3⟩, by rw [hl]; rfl, (fields_cons (off := 0) 1 rfl r0 (fields_cons 1 rfl r1 (fields_cons 2 rfl r2 (fields_cons 1 rfl r3 fields_nil))))⟩
set_option maxRecDepth 100000 in
theorem fnExactAddPlace_lifted (os : Os) (started : os.Started) (H : Type) (enc : TypeId × Value → H) :
    ReturnsInHanded {} Tryz.checked os 4 .any (fun w args => (Rows.fnExactAddPlaceSpec.pre enc Tryz.prog Tryz.f4 [] false w args ∧ laidMetH Tryz.prog Rows.fnExactAddPlaceRow.laid w) ∧ sizedMet enc Tryz.prog Tryz.f4 (OpenSpec.ofChange Rows.fnExactAddPlaceSpec) false w args) (Rows.fnExactAddPlaceSpec.post enc Tryz.prog Tryz.f4 false true false false) := by
  refine returnsInHanded_of_change_and (C := Tryz.checked) (X := fun w _ => laidMetH Tryz.prog Rows.fnExactAddPlaceRow.laid w) (fun _ _ _ hh h => h.of_heap hh) own started (by kernel_rfl) Tryz.func4
    (ChangeSpec.witness_shaped (enc := enc) (C := Tryz.checked) (os := os) (X := fun w _ => laidMetH Tryz.prog Rows.fnExactAddPlaceRow.laid w) false (World.laidAll Tryz.prog os Rows.fnExactAddPlaceRow.laid) #[.slice none 0 0, .agg #[.string ⟨#[]⟩, .int .i64 0, .int .i64 0, .int .i64 0, .slice none 0 0]] 8 (World.laidAll_os _ _ _)
      (World.shaped_of_ZipB (by kernel_rfl) (by kernel_rfl)) (by kernel_rfl) (by kernel_rfl) (by kernel_rfl)
      (by rw [MakeChecks.laidMetH_plain _ _ _ (by kernel_rfl)]; exact laidMet_laidAll _ (by kernel_rfl) (by kernel_rfl))) ?_
  intro W base args ds gs before hval0 hW _ _ _ _
  have hval : ∀ (j : Nat) t v, Tryz.f4.params[j]? = some t → args[j]? = some v → Value.okWide Tryz.prog W .any base t v := hval0
  have hW' := hW
  obtain ⟨p, q, hA0, hV, hbef, hfz, hnd⟩ := hW
  have hA : DataW.TrodAll enc Tryz.prog W 0 (fun _ => true) true Tryz.f4.params.toList args.toList ds p := hA0
  have hA1 := hA
  rw [Tryz.params4] at hA1 hval
  clear hA0 hval0
  have hts : ∀ t ∈ Tryz.f4.params.toList, Tryz.prog.readableRec t = true ∧ t < Tryz.prog.types.size := by
    rw [Tryz.params4]
    intro t ht
    have h : (#[22, 35] : Array TypeId).toList.all (fun t => Tryz.prog.readableRec t && decide (t < Tryz.prog.types.size)) = true := by kernel_rfl
    have h2 := List.all_eq_true.1 h t ht
    simpa using h2
  obtain ⟨v0, vs0, d0, ds0, p0, q0, hargs, rfl, rfl, h0, r0⟩ := trodAll_cons hA1
  obtain ⟨v1, vs1, d1, ds1, p1, q1, rfl, rfl, rfl, h1, r1⟩ := trodAll_cons r0
  obtain ⟨rfl, rfl, rfl⟩ := trodAll_nil r1
  obtain rfl : args = #[v0, v1] := by cases args; simp_all
  obtain ⟨rfl, rfl⟩ := trodVars_none hV
  obtain ⟨A0, n0, c0, rfl⟩ := okWide_slice Tryz.underlying22 (hval 0 22 v0 rfl rfl)
  obtain ⟨fuel0, g0⟩ := h0
  obtain ⟨a0, k0, _, s0⟩ := (openT_slice (m := 5) Tryz.underlying22 (by kernel_rfl) (by decide) (fun _ => rfl) openT_Place_35) H enc W fuel0 _ _ g0
  replace s0 := s0 0 _ _ rfl rfl
  obtain ⟨b1, rfl, _⟩ := okWide_struct Tryz.underlying35 (hval 1 35 v1 rfl rfl)
  obtain ⟨fuel1, g1⟩ := h1
  obtain ⟨a1, k1, l1, s1⟩ := openT_Place_35 H enc W fuel1 _ _ g1
  refine (row_calls (ins := [.tr (.sl a0.length (a0.map ePlace)), .agg ((ePlace a1).map .tr)]) (vs := [.slice A0 n0 c0, .agg b1]) (laws_FnExactAddPlace_run a0 a1 true (FnExactAddPlace_true a0 a1 k0 k1)) rfl (rows_cons (.tr _ _ s0) (rows_cons (svr_agg l1 s1) rows_nil))).mono fun e W' ⟨he, hb⟩ => ?_
  subst he
  exact ⟨_, rfl, law_post hW' laidOut hts hA rfl hbef hb rfl Tryz.underlying4 rfl rfl rfl (fun _ _ => rfl)⟩
end Sh
/-- The claimed theorem. -/
theorem fnExactAddPlace_holds : Rows.FnExactAddPlaceSaid :=
  OpenClaim.holds_of_wide 4 Tryz.f4 rfl rfl rfl rfl rfl rfl rfl ⟨rfl, rfl, rfl, rfl, rfl⟩ rfl rfl rfl rfl rfl (by kernel_rfl) Tryz.func4 (by kernel_rfl)
    (of_decide_eq_true (by kernel_rfl)) (by unfold Func.isWrapper; rw [if_neg (of_decide_eq_false (by kernel_rfl))]; exact ⟨rfl, rfl⟩)
    (fun os started H enc _ => Sh.fnExactAddPlace_lifted os started H enc)
/-- The card that is claimed. -/
theorem fnExactAddPlace_card : Rows.FnExactAddPlaceCardSaid :=
  Claim7.holds_tied_plain_at .later [] [.data, .pinned] true (true, "50f5d5cb4bc5052f4f26ae8484b227f54a55b0e9b696572ae74e8983a058c91d") false fnExactAddPlace_holds (fun _ h => by cases h) (by kernel_rfl) (fun _ h => by cases h) fnExactAddPlace_row_tie rfl ⟨rfl, rfl⟩ (by kernel_rfl) rfl
    (fun f fn hf hfn => by
      obtain rfl : f = 4 := Option.some.inj ((show Tryz.prog.funcNamed Rows.fnExactAddPlaceRow.func = some 4 by kernel_rfl).symm.trans hf) |>.symm
      obtain rfl : fn = Tryz.f4 := (Option.some.inj (Tryz.func4.symm.trans hfn)).symm
      exact ⟨by kernel_rfl, fun j t ht => by
        rw [Tryz.params4] at ht
        have hm : t ∈ [22, 35] := by simpa using Array.mem_of_getElem? ht
        have hall : ([22, 35].all fun u => !Tryz.prog.wantsStandIn u) = true := by kernel_rfl
        exact (show Tryz.prog.wantsStandIn t = false by simpa using List.all_eq_true.1 hall t hm)⟩)
    (by kernel_rfl)
end Go.Proofs.YtpohkmbkohjahaaGreatDoor
