/- FnAnswers returns true and leaves its arguments as they were, for every input of its parameter types; no condition. -/
import Derived.Test.YtodgenjlhiiieaaGreatDoorR1
import Derived.Test.YtodgenjlhiiieaaGreatDoorBLD2
import Derived.Test.YtodgenjlhiiieaaGreatDoorCards
import Derived.Test.YtodgenjlhiiieaaGreatDoorTie
import Derived.ChangeMaps5
import Derived.SevenTiedAt
import Derived.Lay
import Derived.OpenVars
namespace Go.Proofs.YtodgenjlhiiieaaGreatDoor
open Go.RowKit Go.ChangeShapes Go.WideShapes Go.ChangeAt Go.Deep Go.ChangeMaps
namespace Sh
theorem word_cell {W : World} (h : laidMetH Tryz.prog Rows.fnAnswersRow.laid W) (r : Nat) (hr : r < 8) : W.cell? ⟨0, r, none⟩ = some (.string (glob0.getD r ⟨#[]⟩)) := by
  rw [MakeChecks.laidMetH_plain _ _ _ (by kernel_rfl)] at h
  obtain ⟨ps, ⟨_, _, _, _, _, _, _, _, _, _, ⟨g, t, cs, fuel, p, q, hg, ht, hv, hd, _, _⟩, _⟩, _, _⟩ := h
  obtain rfl := Option.some.inj ((show Tryz.prog.globalNamed "loop.example/g01030/impl.directionWords" = some 0 by kernel_rfl).symm.trans hg)
  obtain rfl := Option.some.inj ((show (Tryz.prog.globals[0]?).map (·.type) = some 138 by kernel_rfl).symm.trans ht)
  obtain ⟨xs, m, _, ex, _, hl, hel⟩ := DataW.trod_array Tryz.underlying138 hd
  have c5 : Tryz.prog.cellsOf 9 = 1 := by kernel_rfl
  have hE := hel r hr
  rw [c5, Nat.mul_one, List.getElem?_eq_getElem (by omega)] at hE
  obtain ⟨z, e1, e2, _⟩ := DataW.trod_string Tryz.underlying9 hE
  have hlen : glob0.length = 8 := by kernel_rfl
  have e3 : (xs.map (·.1)) = glob0.map fun s => (DataW.lit (.string s.data.toList) : DataW Unit) := (DataW.agg.inj (Prod.mk.inj ex).1).symm
  have e4 : (xs.map (·.1))[r]? = (glob0.map fun s => (DataW.lit (.string s.data.toList) : DataW Unit))[r]? := by rw [e3]
  rw [List.getElem?_map, List.getElem?_map, List.getElem?_eq_getElem (by omega : r < xs.length), List.getElem?_eq_getElem (by omega : r < glob0.length), e2] at e4
  have hz : z = glob0.getD r ⟨#[]⟩ := by
    simp only [Option.map_some, Option.some.injEq, DataW.lit.injEq, Lit.string.injEq] at e4
    rw [List.getD, List.getElem?_eq_getElem (by omega : r < glob0.length)]
    obtain ⟨z⟩ := z
    generalize hy : glob0[r] = y at e4
    obtain ⟨y⟩ := y
    have e5 : z.toList = y.toList := e4
    rw [Option.getD_some, Array.toList_inj.1 e5]
  rw [World.var?_cell hg hv r, ← hz]
  have : cs.toList[r]? = some (.string z) := by
    have h0 : ((cs.toList.drop r).take 1)[0]? = some (.string z) := by rw [e1]; rfl
    simpa using h0
  simpa using this
theorem words_glob {W : World} (h : laidMetH Tryz.prog Rows.fnAnswersRow.laid W) : GlobOk (allB W) W := by
  have h0 := word_cell h 0 (by omega)
  have hs : 0 < W.heap.size := by
    rcases Nat.lt_or_ge 0 W.heap.size with hz | hz
    · exact hz
    · exfalso
      have hn : W.heap[0]? = none := Array.getElem?_eq_none (by omega)
      unfold World.cell? at h0
      simp only [hn] at h0
      cases h0
  intro p hp
  have hp' : p = (0, glob0.map Value.string) := by
    unfold pins at hp
    simpa using hp
  subst hp'
  refine ⟨hs, hs, fun j v hj => ?_⟩
  have hj8 : j < 8 := by
    have := (List.getElem?_eq_some_iff.1 hj).1
    have hl : glob0.length = 8 := rfl
    rw [List.length_map] at this
    omega
  rw [List.getElem?_map, Option.map_eq_some_iff] at hj
  obtain ⟨y, hy, rfl⟩ := hj
  have := word_cell h j hj8
  rw [List.getD, hy] at this
  exact this
theorem law_postV {H : Type} {enc : TypeId × Value → H} {P : Program} {f : Func} {s : ChangeSpec} {W W' : World} {args : Array Value} {v : Value} {ds gs : List (DataW H)} {before p q : List MemPlace} {tb : TypeId}
    (hW : DataW.Whole enc P f.params.toList s.vars false W args.toList ds gs before) (hl : laidOutB P = true) (hts : ∀ t ∈ f.params.toList, P.readableRec t = true ∧ t < P.types.size)
    (hA : DataW.TrodAll enc P W 0 (fun _ => true) true f.params.toList args.toList ds p) (hbef : before = p ++ q) (hb : Below W.heap.size W W')
    (hr : f.resultTypes = #[tb]) (ht : P.underlying tb = some .bool) (hv : v = .bool true) (h1 : (s.fn H (ds ++ gs)).results = [.lit (.bool true)]) (h2 : (s.fn H (ds ++ gs)).args = ds) (h3 : (s.fn H (ds ++ gs)).vars = gs)
    (hvars : DataW.TrodVars enc P W' (fun b => decide (b < W.heap.size)) s.vars gs q) :
    s.post enc P f false true false false W args v W' := by
  have hlt : ∀ x ∈ before, x.block < W.heap.size := fun x hx => hW.lt x hx
  subst hv
  have hsp : ∀ x ∈ before, (fun b => decide (b < W.heap.size)) x.block = true := fun x hx => by simpa using hlt x hx
  refine ⟨ds, gs, before, [], p, q, hW, ?_, ?_, by rw [h3]; exact hvars, hb.frame _, fun h => by cases h⟩
  · rw [h1, hr]
    exact trodAll_mk1 (shut_bool ht _)
  · rw [h2]
    exact trodAll_stays hl hb hts hA (fun x hx => hlt x (by rw [hbef]; simp [hx])) (fun x hx => hsp x (by rw [hbef]; simp [hx]))
set_option maxRecDepth 100000 in
theorem fnAnswers_lifted (os : Os) (started : os.Started) (H : Type) (enc : TypeId × Value → H) :
    ReturnsInHanded {} Tryz.checked os 6 .any (fun w args => (Rows.fnAnswersSpec.pre enc Tryz.prog Tryz.f6 [] false w args ∧ laidMetH Tryz.prog Rows.fnAnswersRow.laid w) ∧ sizedMet enc Tryz.prog Tryz.f6 (OpenSpec.ofChange Rows.fnAnswersSpec) false w args) (Rows.fnAnswersSpec.post enc Tryz.prog Tryz.f6 false true false false) := by
  refine returnsInHanded_of_change_and (C := Tryz.checked) (X := fun w _ => laidMetH Tryz.prog Rows.fnAnswersRow.laid w) (fun _ _ _ hh h => h.of_heap hh) own started (by kernel_rfl) Tryz.func6
    (ChangeSpec.witness_shaped (enc := enc) (C := Tryz.checked) (os := os) (X := fun w _ => laidMetH Tryz.prog Rows.fnAnswersRow.laid w) false (World.laidAll Tryz.prog os Rows.fnAnswersRow.laid) #[.slice none 0 0] 8 (World.laidAll_os _ _ _)
      (World.shaped_of_ZipB (by kernel_rfl) (by kernel_rfl)) (by kernel_rfl) (by kernel_rfl) (by kernel_rfl)
      (by rw [MakeChecks.laidMetH_plain _ _ _ (by kernel_rfl)]; exact laidMet_laidAll _ (by kernel_rfl) (by kernel_rfl))) ?_
  intro W base args ds gs before hval0 hW x1 x2 x3 x4
  have hval : ∀ (j : Nat) t v, Tryz.f6.params[j]? = some t → args[j]? = some v → Value.okWide Tryz.prog W .any base t v := hval0
  have hW' := hW
  obtain ⟨p, q, hA0, hV, hbef, hfz, hnd⟩ := hW
  have hA : DataW.TrodAll enc Tryz.prog W 0 (fun _ => true) true Tryz.f6.params.toList args.toList ds p := hA0
  have hA1 := hA
  rw [Tryz.params6] at hA1 hval
  clear hA0 hval0
  have hts : ∀ t ∈ Tryz.f6.params.toList, Tryz.prog.readableRec t = true ∧ t < Tryz.prog.types.size := by
    rw [Tryz.params6]
    intro t ht
    have h : (#[46] : Array TypeId).toList.all (fun t => Tryz.prog.readableRec t && decide (t < Tryz.prog.types.size)) = true := by kernel_rfl
    have h2 := List.all_eq_true.1 h t ht
    simpa using h2
  obtain ⟨v0, vs0, d0, ds0, p0, q0, hargs, rfl, rfl, h0, r0⟩ := trodAll_cons hA1
  obtain ⟨rfl, rfl, rfl⟩ := trodAll_nil r0
  obtain rfl : args = #[v0] := by cases args; simp_all
  obtain ⟨g1, rfl⟩ : ∃ g1, gs = [g1] := by
    cases gs with
    | nil => exact hV.elim
    | cons g r =>
      cases r with
      | nil => exact ⟨g, rfl⟩
      | cons g2 r2 =>
        obtain ⟨_, _, _, _, _, _, _, _, _, _, hs, _⟩ := hV
        exact hs.elim
  obtain ⟨A0, n0, c0, rfl⟩ := okWide_slice Tryz.underlying46 (hval 0 46 v0 rfl rfl)
  obtain ⟨fuel0, g0⟩ := h0
  obtain ⟨a0, k0, _, s0⟩ := (openT_slice (m := 1) Tryz.underlying46 (by kernel_rfl) (by decide) (fun _ => rfl) (openT_u8 Tryz.underlying5)) H enc W fuel0 _ _ g0
  replace s0 := s0 0 _ _ rfl rfl
  refine (row_calls (ins := [.tr (.sl a0.length (a0.map (eI .u8)))]) (vs := [.slice A0 n0 c0]) (laws_FnAnswers_run a0 true (FnAnswers_true a0 k0)) rfl (rows_cons (.tr _ _ s0) rows_nil) (words_glob x3)).mono fun e W' ⟨he, hb⟩ => ?_
  subst he
  exact ⟨_, rfl, law_postV hW' laidOut hts hA hbef hb rfl Tryz.underlying4 rfl rfl rfl rfl (Go.RowKit.Below.trodVars laidOut hb (by kernel_rfl) hV)⟩
end Sh
/-- The claimed theorem. -/
theorem fnAnswers_holds : Rows.FnAnswersSaid :=
  OpenClaim.holds_of_wide 6 Tryz.f6 rfl rfl rfl rfl rfl rfl rfl ⟨rfl, rfl, rfl, rfl, rfl⟩ rfl rfl rfl rfl rfl (by kernel_rfl) Tryz.func6 (by kernel_rfl)
    (of_decide_eq_true (by kernel_rfl)) (by unfold Func.isWrapper; rw [if_neg (of_decide_eq_false (by kernel_rfl))]; exact ⟨rfl, rfl⟩)
    (fun os started H enc _ => Sh.fnAnswers_lifted os started H enc)
/-- The card that is claimed. -/
theorem fnAnswers_card : Rows.FnAnswersCardSaid :=
  Claim7.holds_tied_plain_at .later [] [.data, .widerDeep, .pinned] true (true, "e553a1acbc67004ab8924770a9cf2ad8a972452af4dc0237e906c488983aa30a") false fnAnswers_holds (fun _ h => by cases h) (by kernel_rfl) (fun _ h => by cases h) fnAnswers_row_tie rfl ⟨rfl, rfl⟩ (by kernel_rfl) rfl
    (fun f fn hf hfn => by
      obtain rfl : f = 6 := Option.some.inj ((show Tryz.prog.funcNamed Rows.fnAnswersRow.func = some 6 by kernel_rfl).symm.trans hf) |>.symm
      obtain rfl : fn = Tryz.f6 := (Option.some.inj (Tryz.func6.symm.trans hfn)).symm
      exact ⟨by kernel_rfl, fun j t ht => by
        rw [Tryz.params6] at ht
        have hm : t ∈ [46] := by simpa using Array.mem_of_getElem? ht
        have hall : ([46].all fun u => !Tryz.prog.wantsStandIn u) = true := by kernel_rfl
        exact (show Tryz.prog.wantsStandIn t = false by simpa using List.all_eq_true.1 hall t hm)⟩)
    (by kernel_rfl)
end Go.Proofs.YtodgenjlhiiieaaGreatDoor
