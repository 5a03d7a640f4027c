/- FnExactExactAnswers returns true and leaves its arguments as they were, for every input of its parameter types; no condition. -/
import Derived.Test.YtodgenjlhiiieaaGreatDoorR1
import Derived.Test.YtodgenjlhiiieaaGreatDoorYB
import Derived.Test.YtodgenjlhiiieaaGreatDoorCards
import Derived.Test.YtodgenjlhiiieaaGreatDoorTie
import Derived.ChangeMaps5
import Derived.SevenTiedAt
import Derived.Lay
import Derived.OpenVars
namespace Go.Proofs.YtodgenjlhiiieaaGreatDoor
open Go.RowKit Go.ChangeShapes Go.WideShapes Go.ChangeAt Go.Deep Go.ChangeMaps
namespace Sh
theorem openT_Point_73 : OpenT Tryz.prog 73 ePoint okPoint := by
  intro H enc w fuel cs x h
  obtain ⟨xs, m, _, _, hl, hxl, hf⟩ := DataW.trod_struct Tryz.underlying73 h
  have hc : Tryz.prog.cellsOf 73 = 2 := by kernel_rfl
  rw [hc] at hl
  have q0 : Tryz.prog.cellsOf 2 = 1 := by kernel_rfl
  have f0 : DataW.trod enc Tryz.prog w 0 (fun _ => true) true m 2 ((cs.drop 0).take (Tryz.prog.cellsOf 2)) = xs[0]? := hf 0 _ rfl
  rw [q0] at f0
  obtain ⟨a0, k0, _, r0⟩ := (openT_i64 Tryz.underlying2) H enc w m _ _ (f0.trans (List.getElem?_eq_getElem (by rw [hxl]; decide)))
  have q1 : Tryz.prog.cellsOf 2 = 1 := by kernel_rfl
  have f1 : DataW.trod enc Tryz.prog w 0 (fun _ => true) true m 2 ((cs.drop 1).take (Tryz.prog.cellsOf 2)) = xs[1]? := hf 1 _ rfl
  rw [q1] at f1
  obtain ⟨a1, k1, _, r1⟩ := (openT_i64 Tryz.underlying2) H enc w m _ _ (f1.trans (List.getElem?_eq_getElem (by rw [hxl]; decide)))
  exact ⟨⟨a0, a1⟩, ⟨k0, k1⟩, by rw [hl]; rfl, (fields_cons (off := 0) 1 rfl r0 (fields_cons 1 rfl r1 fields_nil))⟩
theorem openT_Candidate_75 : OpenT Tryz.prog 75 eCandidate okCandidate := by
  intro H enc w fuel cs x h
  obtain ⟨xs, m, _, _, hl, hxl, hf⟩ := DataW.trod_struct Tryz.underlying75 h
  have hc : Tryz.prog.cellsOf 75 = 4 := by kernel_rfl
  rw [hc] at hl
  have q0 : Tryz.prog.cellsOf 9 = 1 := by kernel_rfl
  have f0 : DataW.trod enc Tryz.prog w 0 (fun _ => true) true m 9 ((cs.drop 0).take (Tryz.prog.cellsOf 9)) = xs[0]? := hf 0 _ rfl
  rw [q0] at f0
  obtain ⟨a0, k0, _, r0⟩ := (openT_str Tryz.underlying9) H enc w m _ _ (f0.trans (List.getElem?_eq_getElem (by rw [hxl]; decide)))
  have q1 : Tryz.prog.cellsOf 9 = 1 := by kernel_rfl
  have f1 : DataW.trod enc Tryz.prog w 0 (fun _ => true) true m 9 ((cs.drop 1).take (Tryz.prog.cellsOf 9)) = xs[1]? := hf 1 _ rfl
  rw [q1] at f1
  obtain ⟨a1, k1, _, r1⟩ := (openT_str Tryz.underlying9) H enc w m _ _ (f1.trans (List.getElem?_eq_getElem (by rw [hxl]; decide)))
  have q2 : Tryz.prog.cellsOf 73 = 2 := by kernel_rfl
  have f2 : DataW.trod enc Tryz.prog w 0 (fun _ => true) true m 73 ((cs.drop 2).take (Tryz.prog.cellsOf 73)) = xs[2]? := hf 2 _ rfl
  rw [q2] at f2
  obtain ⟨a2, k2, _, r2⟩ := openT_Point_73 H enc w m _ _ (f2.trans (List.getElem?_eq_getElem (by rw [hxl]; decide)))
  exact ⟨⟨a0, a1, a2⟩, ⟨k0, k1, k2⟩, by rw [hl]; rfl, (fields_cons (off := 0) 1 rfl r0 (fields_cons 1 rfl r1 (fields_cons 2 rfl r2 fields_nil)))⟩
theorem openT_Site_78 : OpenT Tryz.prog 78 eSite okSite := by
  intro H enc w fuel cs x h
  obtain ⟨xs, m, _, _, hl, hxl, hf⟩ := DataW.trod_struct Tryz.underlying78 h
  have hc : Tryz.prog.cellsOf 78 = 3 := by kernel_rfl
  rw [hc] at hl
  have q0 : Tryz.prog.cellsOf 9 = 1 := by kernel_rfl
  have f0 : DataW.trod enc Tryz.prog w 0 (fun _ => true) true m 9 ((cs.drop 0).take (Tryz.prog.cellsOf 9)) = xs[0]? := hf 0 _ rfl
  rw [q0] at f0
  obtain ⟨a0, k0, _, r0⟩ := (openT_str Tryz.underlying9) H enc w m _ _ (f0.trans (List.getElem?_eq_getElem (by rw [hxl]; decide)))
  have q1 : Tryz.prog.cellsOf 73 = 2 := by kernel_rfl
  have f1 : DataW.trod enc Tryz.prog w 0 (fun _ => true) true m 73 ((cs.drop 1).take (Tryz.prog.cellsOf 73)) = xs[1]? := hf 1 _ rfl
  rw [q1] at f1
  obtain ⟨a1, k1, _, r1⟩ := openT_Point_73 H enc w m _ _ (f1.trans (List.getElem?_eq_getElem (by rw [hxl]; decide)))
  exact ⟨⟨a0, a1⟩, ⟨k0, k1⟩, by rw [hl]; rfl, (fields_cons (off := 0) 1 rfl r0 (fields_cons 2 rfl r1 fields_nil))⟩
theorem openT_Description_81 : OpenT Tryz.prog 81 eDescription okDescription := by
  intro H enc w fuel cs x h
  obtain ⟨xs, m, _, _, hl, hxl, hf⟩ := DataW.trod_struct Tryz.underlying81 h
  have hc : Tryz.prog.cellsOf 81 = 6 := by kernel_rfl
  rw [hc] at hl
  have q0 : Tryz.prog.cellsOf 2 = 1 := by kernel_rfl
  have f0 : DataW.trod enc Tryz.prog w 0 (fun _ => true) true m 2 ((cs.drop 0).take (Tryz.prog.cellsOf 2)) = xs[0]? := hf 0 _ rfl
  rw [q0] at f0
  obtain ⟨a0, k0, _, r0⟩ := (openT_i64 Tryz.underlying2) H enc w m _ _ (f0.trans (List.getElem?_eq_getElem (by rw [hxl]; decide)))
  have q1 : Tryz.prog.cellsOf 2 = 1 := by kernel_rfl
  have f1 : DataW.trod enc Tryz.prog w 0 (fun _ => true) true m 2 ((cs.drop 1).take (Tryz.prog.cellsOf 2)) = xs[1]? := hf 1 _ rfl
  rw [q1] at f1
  obtain ⟨a1, k1, _, r1⟩ := (openT_i64 Tryz.underlying2) H enc w m _ _ (f1.trans (List.getElem?_eq_getElem (by rw [hxl]; decide)))
  have q2 : Tryz.prog.cellsOf 9 = 1 := by kernel_rfl
  have f2 : DataW.trod enc Tryz.prog w 0 (fun _ => true) true m 9 ((cs.drop 2).take (Tryz.prog.cellsOf 9)) = xs[2]? := hf 2 _ rfl
  rw [q2] at f2
  obtain ⟨a2, k2, _, r2⟩ := (openT_str Tryz.underlying9) H enc w m _ _ (f2.trans (List.getElem?_eq_getElem (by rw [hxl]; decide)))
  have q3 : Tryz.prog.cellsOf 2 = 1 := by kernel_rfl
  have f3 : DataW.trod enc Tryz.prog w 0 (fun _ => true) true m 2 ((cs.drop 3).take (Tryz.prog.cellsOf 2)) = xs[3]? := hf 3 _ rfl
  rw [q3] at f3
  obtain ⟨a3, k3, _, r3⟩ := (openT_i64 Tryz.underlying2) H enc w m _ _ (f3.trans (List.getElem?_eq_getElem (by rw [hxl]; decide)))
  have q4 : Tryz.prog.cellsOf 9 = 1 := by kernel_rfl
  have f4 : DataW.trod enc Tryz.prog w 0 (fun _ => true) true m 9 ((cs.drop 4).take (Tryz.prog.cellsOf 9)) = xs[4]? := hf 4 _ rfl
  rw [q4] at f4
  obtain ⟨a4, k4, _, r4⟩ := (openT_str Tryz.underlying9) H enc w m _ _ (f4.trans (List.getElem?_eq_getElem (by rw [hxl]; decide)))
  have q5 : Tryz.prog.cellsOf 9 = 1 := by kernel_rfl
  have f5 : DataW.trod enc Tryz.prog w 0 (fun _ => true) true m 9 ((cs.drop 5).take (Tryz.prog.cellsOf 9)) = xs[5]? := hf 5 _ rfl
  rw [q5] at f5
  obtain ⟨a5, k5, _, r5⟩ := (openT_str Tryz.underlying9) H enc w m _ _ (f5.trans (List.getElem?_eq_getElem (by rw [hxl]; decide)))
  exact ⟨⟨a0, a1, a2, a3, a4, a5⟩, ⟨k0, k1, k2, k3, k4, k5⟩, by rw [hl]; rfl, (fields_cons (off := 0) 1 rfl r0 (fields_cons 1 rfl r1 (fields_cons 1 rfl r2 (fields_cons 1 rfl r3 (fields_cons 1 rfl r4 (fields_cons 1 rfl r5 fields_nil))))))⟩
theorem word_cell {W : World} (h : laidMetH Tryz.prog Rows.fnExactExactAnswersRow.laid W) (r : Nat) (hr : r < 8) : W.cell? ⟨0, r, none⟩ = some (.string (glob0.getD r ⟨#[]⟩)) := by
  rw [MakeChecks.laidMetH_plain _ _ _ (by kernel_rfl)] at h
  obtain ⟨ps, ⟨_, _, _, _, _, _, _, _, _, _, ⟨g, t, cs, fuel, p, q, hg, ht, hv, hd, _, _⟩, _⟩, _, _⟩ := h
  obtain rfl := Option.some.inj ((show Tryz.prog.globalNamed "loop.example/g01030/impl.directionWords" = some 0 by kernel_rfl).symm.trans hg)
  obtain rfl := Option.some.inj ((show (Tryz.prog.globals[0]?).map (·.type) = some 138 by kernel_rfl).symm.trans ht)
  obtain ⟨xs, m, _, ex, _, hl, hel⟩ := DataW.trod_array Tryz.underlying138 hd
  have c5 : Tryz.prog.cellsOf 9 = 1 := by kernel_rfl
  have hE := hel r hr
  rw [c5, Nat.mul_one, List.getElem?_eq_getElem (by omega)] at hE
  obtain ⟨z, e1, e2, _⟩ := DataW.trod_string Tryz.underlying9 hE
  have hlen : glob0.length = 8 := by kernel_rfl
  have e3 : (xs.map (·.1)) = glob0.map fun s => (DataW.lit (.string s.data.toList) : DataW Unit) := (DataW.agg.inj (Prod.mk.inj ex).1).symm
  have e4 : (xs.map (·.1))[r]? = (glob0.map fun s => (DataW.lit (.string s.data.toList) : DataW Unit))[r]? := by rw [e3]
  rw [List.getElem?_map, List.getElem?_map, List.getElem?_eq_getElem (by omega : r < xs.length), List.getElem?_eq_getElem (by omega : r < glob0.length), e2] at e4
  have hz : z = glob0.getD r ⟨#[]⟩ := by
    simp only [Option.map_some, Option.some.injEq, DataW.lit.injEq, Lit.string.injEq] at e4
    rw [List.getD, List.getElem?_eq_getElem (by omega : r < glob0.length)]
    obtain ⟨z⟩ := z
    generalize hy : glob0[r] = y at e4
    obtain ⟨y⟩ := y
    have e5 : z.toList = y.toList := e4
    rw [Option.getD_some, Array.toList_inj.1 e5]
  rw [World.var?_cell hg hv r, ← hz]
  have : cs.toList[r]? = some (.string z) := by
    have h0 : ((cs.toList.drop r).take 1)[0]? = some (.string z) := by rw [e1]; rfl
    simpa using h0
  simpa using this
theorem words_glob {W : World} (h : laidMetH Tryz.prog Rows.fnExactExactAnswersRow.laid W) : GlobOk (allB W) W := by
  have h0 := word_cell h 0 (by omega)
  have hs : 0 < W.heap.size := by
    rcases Nat.lt_or_ge 0 W.heap.size with hz | hz
    · exact hz
    · exfalso
      have hn : W.heap[0]? = none := Array.getElem?_eq_none (by omega)
      unfold World.cell? at h0
      simp only [hn] at h0
      cases h0
  intro p hp
  have hp' : p = (0, glob0.map Value.string) := by
    unfold pins at hp
    simpa using hp
  subst hp'
  refine ⟨hs, hs, fun j v hj => ?_⟩
  have hj8 : j < 8 := by
    have := (List.getElem?_eq_some_iff.1 hj).1
    have hl : glob0.length = 8 := rfl
    rw [List.length_map] at this
    omega
  rw [List.getElem?_map, Option.map_eq_some_iff] at hj
  obtain ⟨y, hy, rfl⟩ := hj
  have := word_cell h j hj8
  rw [List.getD, hy] at this
  exact this
theorem law_postV {H : Type} {enc : TypeId × Value → H} {P : Program} {f : Func} {s : ChangeSpec} {W W' : World} {args : Array Value} {v : Value} {ds gs : List (DataW H)} {before p q : List MemPlace} {tb : TypeId}
    (hW : DataW.Whole enc P f.params.toList s.vars false W args.toList ds gs before) (hl : laidOutB P = true) (hts : ∀ t ∈ f.params.toList, P.readableRec t = true ∧ t < P.types.size)
    (hA : DataW.TrodAll enc P W 0 (fun _ => true) true f.params.toList args.toList ds p) (hbef : before = p ++ q) (hb : Below W.heap.size W W')
    (hr : f.resultTypes = #[tb]) (ht : P.underlying tb = some .bool) (hv : v = .bool true) (h1 : (s.fn H (ds ++ gs)).results = [.lit (.bool true)]) (h2 : (s.fn H (ds ++ gs)).args = ds) (h3 : (s.fn H (ds ++ gs)).vars = gs)
    (hvars : DataW.TrodVars enc P W' (fun b => decide (b < W.heap.size)) s.vars gs q) :
    s.post enc P f false true false false W args v W' := by
  have hlt : ∀ x ∈ before, x.block < W.heap.size := fun x hx => hW.lt x hx
  subst hv
  have hsp : ∀ x ∈ before, (fun b => decide (b < W.heap.size)) x.block = true := fun x hx => by simpa using hlt x hx
  refine ⟨ds, gs, before, [], p, q, hW, ?_, ?_, by rw [h3]; exact hvars, hb.frame _, fun h => by cases h⟩
  · rw [h1, hr]
    exact trodAll_mk1 (shut_bool ht _)
  · rw [h2]
    exact trodAll_stays hl hb hts hA (fun x hx => hlt x (by rw [hbef]; simp [hx])) (fun x hx => hsp x (by rw [hbef]; simp [hx]))
set_option maxRecDepth 100000 in
theorem fnExactExactAnswers_lifted (os : Os) (started : os.Started) (H : Type) (enc : TypeId × Value → H) :
    ReturnsInHanded {} Tryz.checked os 4 .any (fun w args => (Rows.fnExactExactAnswersSpec.pre enc Tryz.prog Tryz.f4 [] false w args ∧ laidMetH Tryz.prog Rows.fnExactExactAnswersRow.laid w) ∧ sizedMet enc Tryz.prog Tryz.f4 (OpenSpec.ofChange Rows.fnExactExactAnswersSpec) false w args) (Rows.fnExactExactAnswersSpec.post enc Tryz.prog Tryz.f4 false true false false) := by
  refine returnsInHanded_of_change_and (C := Tryz.checked) (X := fun w _ => laidMetH Tryz.prog Rows.fnExactExactAnswersRow.laid w) (fun _ _ _ hh h => h.of_heap hh) own started (by kernel_rfl) Tryz.func4
    (ChangeSpec.witness_shaped (enc := enc) (C := Tryz.checked) (os := os) (X := fun w _ => laidMetH Tryz.prog Rows.fnExactExactAnswersRow.laid w) false (World.laidAll Tryz.prog os Rows.fnExactExactAnswersRow.laid) #[.slice none 0 0, .string ⟨#[]⟩, .slice none 0 0, .slice none 0 0] 8 (World.laidAll_os _ _ _)
      (World.shaped_of_ZipB (by kernel_rfl) (by kernel_rfl)) (by kernel_rfl) (by kernel_rfl) (by kernel_rfl)
      (by rw [MakeChecks.laidMetH_plain _ _ _ (by kernel_rfl)]; exact laidMet_laidAll _ (by kernel_rfl) (by kernel_rfl))) ?_
  intro W base args ds gs before hval0 hW x1 x2 x3 x4
  have hval : ∀ (j : Nat) t v, Tryz.f4.params[j]? = some t → args[j]? = some v → Value.okWide Tryz.prog W .any base t v := hval0
  have hW' := hW
  obtain ⟨p, q, hA0, hV, hbef, hfz, hnd⟩ := hW
  have hA : DataW.TrodAll enc Tryz.prog W 0 (fun _ => true) true Tryz.f4.params.toList args.toList ds p := hA0
  have hA1 := hA
  rw [Tryz.params4] at hA1 hval
  clear hA0 hval0
  have hts : ∀ t ∈ Tryz.f4.params.toList, Tryz.prog.readableRec t = true ∧ t < Tryz.prog.types.size := by
    rw [Tryz.params4]
    intro t ht
    have h : (#[22, 9, 23, 24] : Array TypeId).toList.all (fun t => Tryz.prog.readableRec t && decide (t < Tryz.prog.types.size)) = true := by kernel_rfl
    have h2 := List.all_eq_true.1 h t ht
    simpa using h2
  obtain ⟨v0, vs0, d0, ds0, p0, q0, hargs, rfl, rfl, h0, r0⟩ := trodAll_cons hA1
  obtain ⟨v1, vs1, d1, ds1, p1, q1, rfl, rfl, rfl, h1, r1⟩ := trodAll_cons r0
  obtain ⟨v2, vs2, d2, ds2, p2, q2, rfl, rfl, rfl, h2, r2⟩ := trodAll_cons r1
  obtain ⟨v3, vs3, d3, ds3, p3, q3, rfl, rfl, rfl, h3, r3⟩ := trodAll_cons r2
  obtain ⟨rfl, rfl, rfl⟩ := trodAll_nil r3
  obtain rfl : args = #[v0, v1, v2, v3] := by cases args; simp_all
  obtain ⟨g1, rfl⟩ : ∃ g1, gs = [g1] := by
    cases gs with
    | nil => exact hV.elim
    | cons g r =>
      cases r with
      | nil => exact ⟨g, rfl⟩
      | cons g2 r2 =>
        obtain ⟨_, _, _, _, _, _, _, _, _, _, hs, _⟩ := hV
        exact hs.elim
  obtain ⟨A0, n0, c0, rfl⟩ := okWide_slice Tryz.underlying22 (hval 0 22 v0 rfl rfl)
  obtain ⟨fuel0, g0⟩ := h0
  obtain ⟨a0, k0, _, s0⟩ := (openT_slice (m := 4) Tryz.underlying22 (by kernel_rfl) (by decide) (fun _ => rfl) openT_Candidate_75) H enc W fuel0 _ _ g0
  replace s0 := s0 0 _ _ rfl rfl
  obtain ⟨a1, rfl, rfl, rfl, k1⟩ := open_string Tryz.underlying9 (hval 1 9 v1 rfl rfl) h1
  obtain ⟨A2, n2, c2, rfl⟩ := okWide_slice Tryz.underlying23 (hval 2 23 v2 rfl rfl)
  obtain ⟨fuel2, g2⟩ := h2
  obtain ⟨a2, k2, _, s2⟩ := (openT_slice (m := 3) Tryz.underlying23 (by kernel_rfl) (by decide) (fun _ => rfl) openT_Site_78) H enc W fuel2 _ _ g2
  replace s2 := s2 0 _ _ rfl rfl
  obtain ⟨A3, n3, c3, rfl⟩ := okWide_slice Tryz.underlying24 (hval 3 24 v3 rfl rfl)
  obtain ⟨fuel3, g3⟩ := h3
  obtain ⟨a3, k3, _, s3⟩ := (openT_slice (m := 6) Tryz.underlying24 (by kernel_rfl) (by decide) (fun _ => rfl) openT_Description_81) H enc W fuel3 _ _ g3
  replace s3 := s3 0 _ _ rfl rfl
  refine (row_calls (ins := [.tr (.sl a0.length (a0.map eCandidate)), .tr (.str a1), .tr (.sl a2.length (a2.map eSite)), .tr (.sl a3.length (a3.map eDescription))]) (vs := [.slice A0 n0 c0, .string a1, .slice A2 n2 c2, .slice A3 n3 c3]) (laws_FnExactExactAnswers_run a0 a1 a2 a3 true (FnExactExactAnswers_true a0 a1 a2 a3 k0 k1 k2 k3)) rfl (rows_cons (.tr _ _ s0) (rows_cons (.tr _ _ (.str a1 k1)) (rows_cons (.tr _ _ s2) (rows_cons (.tr _ _ s3) rows_nil)))) (words_glob x3)).mono fun e W' ⟨he, hb⟩ => ?_
  subst he
  exact ⟨_, rfl, law_postV hW' laidOut hts hA hbef hb rfl Tryz.underlying4 rfl rfl rfl rfl (Go.RowKit.Below.trodVars laidOut hb (by kernel_rfl) hV)⟩
end Sh
/-- The claimed theorem. -/
theorem fnExactExactAnswers_holds : Rows.FnExactExactAnswersSaid :=
  OpenClaim.holds_of_wide 4 Tryz.f4 rfl rfl rfl rfl rfl rfl rfl ⟨rfl, rfl, rfl, rfl, rfl⟩ rfl rfl rfl rfl rfl (by kernel_rfl) Tryz.func4 (by kernel_rfl)
    (of_decide_eq_true (by kernel_rfl)) (by unfold Func.isWrapper; rw [if_neg (of_decide_eq_false (by kernel_rfl))]; exact ⟨rfl, rfl⟩)
    (fun os started H enc _ => Sh.fnExactExactAnswers_lifted os started H enc)
/-- The card that is claimed. -/
theorem fnExactExactAnswers_card : Rows.FnExactExactAnswersCardSaid :=
  Claim7.holds_tied_plain_at .later [] [.data, .widerDeep, .pinned] true (true, "e553a1acbc67004ab8924770a9cf2ad8a972452af4dc0237e906c488983aa30a") false fnExactExactAnswers_holds (fun _ h => by cases h) (by kernel_rfl) (fun _ h => by cases h) fnExactExactAnswers_row_tie rfl ⟨rfl, rfl⟩ (by kernel_rfl) rfl
    (fun f fn hf hfn => by
      obtain rfl : f = 4 := Option.some.inj ((show Tryz.prog.funcNamed Rows.fnExactExactAnswersRow.func = some 4 by kernel_rfl).symm.trans hf) |>.symm
      obtain rfl : fn = Tryz.f4 := (Option.some.inj (Tryz.func4.symm.trans hfn)).symm
      exact ⟨by kernel_rfl, fun j t ht => by
        rw [Tryz.params4] at ht
        have hm : t ∈ [22, 9, 23, 24] := by simpa using Array.mem_of_getElem? ht
        have hall : ([22, 9, 23, 24].all fun u => !Tryz.prog.wantsStandIn u) = true := by kernel_rfl
        exact (show Tryz.prog.wantsStandIn t = false by simpa using List.all_eq_true.1 hall t hm)⟩)
    (by kernel_rfl)
end Go.Proofs.YtodgenjlhiiieaaGreatDoor
