/- FnExactIsDesk returns true and leaves its arguments as they were, for every input of its parameter types; no condition. -/
import Derived.Test.YtdfkbjnbllmllaaDoorR1
import Derived.Test.YtdfkbjnbllmllaaDoorYA
import Derived.Test.YtdfkbjnbllmllaaDoorDS2
import Derived.Test.YtdfkbjnbllmllaaDoorCards
import Derived.Test.YtdfkbjnbllmllaaDoorTie
import Derived.ChangeMaps5
import Derived.OpenVars
import Derived.SevenTiedAt
import Derived.Lay
namespace Go.Proofs.YtdfkbjnbllmllaaDoor
open Go.RowKit Go.ChangeShapes Go.WideShapes Go.ChangeAt Go.Deep Go.ChangeMaps
namespace Sh
theorem openT_Span_45 : OpenT Tryd.prog 45 eSpan okSpan := by
  intro H enc w fuel cs x h
  obtain ⟨xs, m, _, _, hl, hxl, hf⟩ := DataW.trod_struct Tryd.underlying45 h
  have hc : Tryd.prog.cellsOf 45 = 2 := by kernel_rfl
  rw [hc] at hl
  have q0 : Tryd.prog.cellsOf 2 = 1 := by kernel_rfl
  have f0 : DataW.trod enc Tryd.prog w 0 (fun _ => true) true m 2 ((cs.drop 0).take (Tryd.prog.cellsOf 2)) = xs[0]? := hf 0 _ rfl
  rw [q0] at f0
  obtain ⟨a0, k0, _, r0⟩ := (openT_i64 Tryd.underlying2) H enc w m _ _ (f0.trans (List.getElem?_eq_getElem (by rw [hxl]; decide)))
  have q1 : Tryd.prog.cellsOf 2 = 1 := by kernel_rfl
  have f1 : DataW.trod enc Tryd.prog w 0 (fun _ => true) true m 2 ((cs.drop 1).take (Tryd.prog.cellsOf 2)) = xs[1]? := hf 1 _ rfl
  rw [q1] at f1
  obtain ⟨a1, k1, _, r1⟩ := (openT_i64 Tryd.underlying2) H enc w m _ _ (f1.trans (List.getElem?_eq_getElem (by rw [hxl]; decide)))
  exact ⟨⟨a0, a1⟩, ⟨k0, k1⟩, by rw [hl]; rfl, (fields_cons (off := 0) 1 rfl r0 (fields_cons 1 rfl r1 fields_nil))⟩
theorem openT_Claim_47 : OpenT Tryd.prog 47 eClaim okClaim := by
  intro H enc w fuel cs x h
  obtain ⟨xs, m, _, _, hl, hxl, hf⟩ := DataW.trod_struct Tryd.underlying47 h
  have hc : Tryd.prog.cellsOf 47 = 7 := by kernel_rfl
  rw [hc] at hl
  have q0 : Tryd.prog.cellsOf 9 = 1 := by kernel_rfl
  have f0 : DataW.trod enc Tryd.prog w 0 (fun _ => true) true m 9 ((cs.drop 0).take (Tryd.prog.cellsOf 9)) = xs[0]? := hf 0 _ rfl
  rw [q0] at f0
  obtain ⟨a0, k0, _, r0⟩ := (openT_str Tryd.underlying9) H enc w m _ _ (f0.trans (List.getElem?_eq_getElem (by rw [hxl]; decide)))
  have q1 : Tryd.prog.cellsOf 2 = 1 := by kernel_rfl
  have f1 : DataW.trod enc Tryd.prog w 0 (fun _ => true) true m 2 ((cs.drop 1).take (Tryd.prog.cellsOf 2)) = xs[1]? := hf 1 _ rfl
  rw [q1] at f1
  obtain ⟨a1, k1, _, r1⟩ := (openT_i64 Tryd.underlying2) H enc w m _ _ (f1.trans (List.getElem?_eq_getElem (by rw [hxl]; decide)))
  have q2 : Tryd.prog.cellsOf 9 = 1 := by kernel_rfl
  have f2 : DataW.trod enc Tryd.prog w 0 (fun _ => true) true m 9 ((cs.drop 2).take (Tryd.prog.cellsOf 9)) = xs[2]? := hf 2 _ rfl
  rw [q2] at f2
  obtain ⟨a2, k2, _, r2⟩ := (openT_str Tryd.underlying9) H enc w m _ _ (f2.trans (List.getElem?_eq_getElem (by rw [hxl]; decide)))
  have q3 : Tryd.prog.cellsOf 9 = 1 := by kernel_rfl
  have f3 : DataW.trod enc Tryd.prog w 0 (fun _ => true) true m 9 ((cs.drop 3).take (Tryd.prog.cellsOf 9)) = xs[3]? := hf 3 _ rfl
  rw [q3] at f3
  obtain ⟨a3, k3, _, r3⟩ := (openT_str Tryd.underlying9) H enc w m _ _ (f3.trans (List.getElem?_eq_getElem (by rw [hxl]; decide)))
  have q4 : Tryd.prog.cellsOf 45 = 2 := by kernel_rfl
  have f4 : DataW.trod enc Tryd.prog w 0 (fun _ => true) true m 45 ((cs.drop 4).take (Tryd.prog.cellsOf 45)) = xs[4]? := hf 4 _ rfl
  rw [q4] at f4
  obtain ⟨a4, k4, _, r4⟩ := openT_Span_45 H enc w m _ _ (f4.trans (List.getElem?_eq_getElem (by rw [hxl]; decide)))
  have q5 : Tryd.prog.cellsOf 2 = 1 := by kernel_rfl
  have f5 : DataW.trod enc Tryd.prog w 0 (fun _ => true) true m 2 ((cs.drop 6).take (Tryd.prog.cellsOf 2)) = xs[5]? := hf 5 _ rfl
  rw [q5] at f5
  obtain ⟨a5, k5, _, r5⟩ := (openT_i64 Tryd.underlying2) H enc w m _ _ (f5.trans (List.getElem?_eq_getElem (by rw [hxl]; decide)))
  exact ⟨⟨a0, a1, a2, a3, a4, a5⟩, ⟨k0, k1, k2, k3, k4, k5⟩, by rw [hl]; rfl, (fields_cons (off := 0) 1 rfl r0 (fields_cons 1 rfl r1 (fields_cons 1 rfl r2 (fields_cons 1 rfl r3 (fields_cons 2 rfl r4 (fields_cons 1 rfl r5 fields_nil))))))⟩
theorem openT_Point_50 : OpenT Tryd.prog 50 ePoint okPoint := by
  intro H enc w fuel cs x h
  obtain ⟨xs, m, _, _, hl, hxl, hf⟩ := DataW.trod_struct Tryd.underlying50 h
  have hc : Tryd.prog.cellsOf 50 = 2 := by kernel_rfl
  rw [hc] at hl
  have q0 : Tryd.prog.cellsOf 2 = 1 := by kernel_rfl
  have f0 : DataW.trod enc Tryd.prog w 0 (fun _ => true) true m 2 ((cs.drop 0).take (Tryd.prog.cellsOf 2)) = xs[0]? := hf 0 _ rfl
  rw [q0] at f0
  obtain ⟨a0, k0, _, r0⟩ := (openT_i64 Tryd.underlying2) H enc w m _ _ (f0.trans (List.getElem?_eq_getElem (by rw [hxl]; decide)))
  have q1 : Tryd.prog.cellsOf 2 = 1 := by kernel_rfl
  have f1 : DataW.trod enc Tryd.prog w 0 (fun _ => true) true m 2 ((cs.drop 1).take (Tryd.prog.cellsOf 2)) = xs[1]? := hf 1 _ rfl
  rw [q1] at f1
  obtain ⟨a1, k1, _, r1⟩ := (openT_i64 Tryd.underlying2) H enc w m _ _ (f1.trans (List.getElem?_eq_getElem (by rw [hxl]; decide)))
  exact ⟨⟨a0, a1⟩, ⟨k0, k1⟩, by rw [hl]; rfl, (fields_cons (off := 0) 1 rfl r0 (fields_cons 1 rfl r1 fields_nil))⟩
theorem openT_Site_52 : OpenT Tryd.prog 52 eSite okSite := by
  intro H enc w fuel cs x h
  obtain ⟨xs, m, _, _, hl, hxl, hf⟩ := DataW.trod_struct Tryd.underlying52 h
  have hc : Tryd.prog.cellsOf 52 = 3 := by kernel_rfl
  rw [hc] at hl
  have q0 : Tryd.prog.cellsOf 9 = 1 := by kernel_rfl
  have f0 : DataW.trod enc Tryd.prog w 0 (fun _ => true) true m 9 ((cs.drop 0).take (Tryd.prog.cellsOf 9)) = xs[0]? := hf 0 _ rfl
  rw [q0] at f0
  obtain ⟨a0, k0, _, r0⟩ := (openT_str Tryd.underlying9) H enc w m _ _ (f0.trans (List.getElem?_eq_getElem (by rw [hxl]; decide)))
  have q1 : Tryd.prog.cellsOf 50 = 2 := by kernel_rfl
  have f1 : DataW.trod enc Tryd.prog w 0 (fun _ => true) true m 50 ((cs.drop 1).take (Tryd.prog.cellsOf 50)) = xs[1]? := hf 1 _ rfl
  rw [q1] at f1
  obtain ⟨a1, k1, _, r1⟩ := openT_Point_50 H enc w m _ _ (f1.trans (List.getElem?_eq_getElem (by rw [hxl]; decide)))
  exact ⟨⟨a0, a1⟩, ⟨k0, k1⟩, by rw [hl]; rfl, (fields_cons (off := 0) 1 rfl r0 (fields_cons 2 rfl r1 fields_nil))⟩
theorem openT_Desk_25 : OpenT Tryd.prog 25 eDesk okDesk := by
  intro H enc w fuel cs x h
  obtain ⟨xs, m, _, _, hl, hxl, hf⟩ := DataW.trod_struct Tryd.underlying25 h
  have hc : Tryd.prog.cellsOf 25 = 2 := by kernel_rfl
  rw [hc] at hl
  have q0 : Tryd.prog.cellsOf 22 = 1 := by kernel_rfl
  have f0 : DataW.trod enc Tryd.prog w 0 (fun _ => true) true m 22 ((cs.drop 0).take (Tryd.prog.cellsOf 22)) = xs[0]? := hf 0 _ rfl
  rw [q0] at f0
  obtain ⟨a0, k0, _, r0⟩ := (openT_slice (m := 7) Tryd.underlying22 (by kernel_rfl) (by decide) (fun _ => rfl) openT_Claim_47) H enc w m _ _ (f0.trans (List.getElem?_eq_getElem (by rw [hxl]; decide)))
  have q1 : Tryd.prog.cellsOf 23 = 1 := by kernel_rfl
  have f1 : DataW.trod enc Tryd.prog w 0 (fun _ => true) true m 23 ((cs.drop 1).take (Tryd.prog.cellsOf 23)) = xs[1]? := hf 1 _ rfl
  rw [q1] at f1
  obtain ⟨a1, k1, _, r1⟩ := (openT_slice (m := 3) Tryd.underlying23 (by kernel_rfl) (by decide) (fun _ => rfl) openT_Site_52) H enc w m _ _ (f1.trans (List.getElem?_eq_getElem (by rw [hxl]; decide)))
  exact ⟨⟨a0, a1⟩, ⟨k0, k1⟩, by rw [hl]; rfl, (fields_cons (off := 0) 1 rfl r0 (fields_cons 1 rfl r1 fields_nil))⟩
set_option maxRecDepth 100000 in
theorem fnExactIsDesk_lifted (os : Os) (started : os.Started) (H : Type) (enc : TypeId × Value → H) :
    ReturnsInHanded {} Tryd.checked os 3 .any (fun w args => (Rows.fnExactIsDeskSpec.pre enc Tryd.prog Tryd.f3 [] false w args ∧ laidMetH Tryd.prog Rows.fnExactIsDeskRow.laid w) ∧ sizedMet enc Tryd.prog Tryd.f3 (OpenSpec.ofChange Rows.fnExactIsDeskSpec) false w args) (Rows.fnExactIsDeskSpec.post enc Tryd.prog Tryd.f3 false true false false) := by
  refine returnsInHanded_of_change_and (C := Tryd.checked) (X := fun w _ => laidMetH Tryd.prog Rows.fnExactIsDeskRow.laid w) (fun _ _ _ hh h => h.of_heap hh) own started (by kernel_rfl) Tryd.func3
    (ChangeSpec.witness_shaped (enc := enc) (C := Tryd.checked) (os := os) (X := fun w _ => laidMetH Tryd.prog Rows.fnExactIsDeskRow.laid w) false (World.laidAll Tryd.prog os Rows.fnExactIsDeskRow.laid) #[.agg #[.slice none 0 0, .slice none 0 0]] 8 (World.laidAll_os _ _ _)
      (World.shaped_of_ZipB (by kernel_rfl) (by kernel_rfl)) (by kernel_rfl) (by kernel_rfl) (by kernel_rfl)
      (by rw [MakeChecks.laidMetH_plain _ _ _ (by kernel_rfl)]; exact laidMet_laidAll _ (by kernel_rfl) (by kernel_rfl))) ?_
  intro W base args ds gs before hval0 hW x1 x2 x3 x4
  have hval : ∀ (j : Nat) t v, Tryd.f3.params[j]? = some t → args[j]? = some v → Value.okWide Tryd.prog W .any base t v := hval0
  have hW' := hW
  obtain ⟨p, q, hA0, hV, hbef, hfz, hnd⟩ := hW
  have hA : DataW.TrodAll enc Tryd.prog W 0 (fun _ => true) true Tryd.f3.params.toList args.toList ds p := hA0
  have hA1 := hA
  rw [Tryd.params3] at hA1 hval
  clear hA0 hval0
  have hts : ∀ t ∈ Tryd.f3.params.toList, Tryd.prog.readableRec t = true ∧ t < Tryd.prog.types.size := by
    rw [Tryd.params3]
    intro t ht
    have h : (#[25] : Array TypeId).toList.all (fun t => Tryd.prog.readableRec t && decide (t < Tryd.prog.types.size)) = true := by kernel_rfl
    have h2 := List.all_eq_true.1 h t ht
    simpa using h2
  obtain ⟨v0, vs0, d0, ds0, p0, q0, hargs, rfl, rfl, h0, r0⟩ := trodAll_cons hA1
  obtain ⟨rfl, rfl, rfl⟩ := trodAll_nil r0
  obtain rfl : args = #[v0] := by cases args; simp_all
  obtain ⟨g1, rfl⟩ : ∃ g1, gs = [g1] := by
    cases gs with
    | nil => exact hV.elim
    | cons g r =>
      cases r with
      | nil => exact ⟨g, rfl⟩
      | cons g2 r2 =>
        obtain ⟨_, _, _, _, _, _, _, _, _, _, hs, _⟩ := hV
        exact hs.elim
  obtain ⟨b0, rfl, _⟩ := okWide_struct Tryd.underlying25 (hval 0 25 v0 rfl rfl)
  obtain ⟨fuel0, g0⟩ := h0
  obtain ⟨a0, k0, l0, s0⟩ := openT_Desk_25 H enc W fuel0 _ _ g0
  refine (row_calls (ins := [.agg ((eDesk a0).map .tr)]) (vs := [.agg b0]) (laws_FnExactIsDesk_run a0 true (FnExactIsDesk_true a0 k0)) rfl (rows_cons (svr_agg l0 s0) rows_nil) (words_glob x3)).mono fun e W' ⟨he, hb⟩ => ?_
  subst he
  exact ⟨_, rfl, law_postV hW' laidOut hts hA hbef hb rfl Tryd.underlying4 rfl rfl rfl rfl (Go.RowKit.Below.trodVars laidOut hb (by kernel_rfl) hV)⟩
end Sh
/-- The claimed theorem. -/
theorem fnExactIsDesk_holds : Rows.FnExactIsDeskSaid :=
  OpenClaim.holds_of_wide 3 Tryd.f3 rfl rfl rfl rfl rfl rfl rfl ⟨rfl, rfl, rfl, rfl, rfl⟩ rfl rfl rfl rfl rfl (by kernel_rfl) Tryd.func3 (by kernel_rfl)
    (of_decide_eq_true (by kernel_rfl)) (by unfold Func.isWrapper; rw [if_neg (of_decide_eq_false (by kernel_rfl))]; exact ⟨rfl, rfl⟩)
    (fun os started H enc _ => Sh.fnExactIsDesk_lifted os started H enc)
/-- The card that is claimed. -/
theorem fnExactIsDesk_card : Rows.FnExactIsDeskCardSaid :=
  Claim7.holds_tied_plain_at .later [] [.data, .widerDeep, .pinned] true (true, "5805b229e623c20e4db67c4e2f1d5c6e69ce4f1016364e5dfcff4a20e3abd9fc") false fnExactIsDesk_holds (fun _ h => by cases h) (by kernel_rfl) (fun _ h => by cases h) fnExactIsDesk_row_tie rfl ⟨rfl, rfl⟩ (by kernel_rfl) rfl
    (fun f fn hf hfn => by
      obtain rfl : f = 3 := Option.some.inj ((show Tryd.prog.funcNamed Rows.fnExactIsDeskRow.func = some 3 by kernel_rfl).symm.trans hf) |>.symm
      obtain rfl : fn = Tryd.f3 := (Option.some.inj (Tryd.func3.symm.trans hfn)).symm
      exact ⟨by kernel_rfl, fun j t ht => by
        rw [Tryd.params3] at ht
        have hm : t ∈ [25] := by simpa using Array.mem_of_getElem? ht
        have hall : ([25].all fun u => !Tryd.prog.wantsStandIn u) = true := by kernel_rfl
        exact (show Tryd.prog.wantsStandIn t = false by simpa using List.all_eq_true.1 hall t hm)⟩)
    (by kernel_rfl)
end Go.Proofs.YtdfkbjnbllmllaaDoor
