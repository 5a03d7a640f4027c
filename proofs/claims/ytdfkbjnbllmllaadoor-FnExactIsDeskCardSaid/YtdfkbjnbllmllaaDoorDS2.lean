/- What the package variable directionWords holds when the call begins, out of the statement's own premise; no other condition. -/
import Derived.Test.YtdfkbjnbllmllaaDoorR1
import Derived.Test.YtdfkbjnbllmllaaDoorCards
import Derived.ChangeMaps5
import Derived.SevenTiedAt
import Derived.Lay
namespace Go.Proofs.YtdfkbjnbllmllaaDoor.Sh
open Go.RowKit Go.ChangeShapes Go.WideShapes Go.ChangeAt
theorem word_cell {W : World} (h : laidMetH Tryd.prog Rows.fnExactIsDeskRow.laid W) (r : Nat) (hr : r < 8) : W.cell? ⟨0, r, none⟩ = some (.string (glob0.getD r ⟨#[]⟩)) := by
  rw [MakeChecks.laidMetH_plain _ _ _ (by kernel_rfl)] at h
  obtain ⟨ps, ⟨_, _, _, _, _, _, _, _, _, _, ⟨g, t, cs, fuel, p, q, hg, ht, hv, hd, _, _⟩, _⟩, _, _⟩ := h
  obtain rfl := Option.some.inj ((show Tryd.prog.globalNamed "loop.example/g01030/impl.directionWords" = some 0 by kernel_rfl).symm.trans hg)
  obtain rfl := Option.some.inj ((show (Tryd.prog.globals[0]?).map (·.type) = some 83 by kernel_rfl).symm.trans ht)
  obtain ⟨xs, m, _, ex, _, hl, hel⟩ := DataW.trod_array Tryd.underlying83 hd
  have c5 : Tryd.prog.cellsOf 9 = 1 := by kernel_rfl
  have hE := hel r hr
  rw [c5, Nat.mul_one, List.getElem?_eq_getElem (by omega)] at hE
  obtain ⟨z, e1, e2, _⟩ := DataW.trod_string Tryd.underlying9 hE
  have hlen : glob0.length = 8 := by kernel_rfl
  have e3 : (xs.map (·.1)) = glob0.map fun s => (DataW.lit (.string s.data.toList) : DataW Unit) := (DataW.agg.inj (Prod.mk.inj ex).1).symm
  have e4 : (xs.map (·.1))[r]? = (glob0.map fun s => (DataW.lit (.string s.data.toList) : DataW Unit))[r]? := by rw [e3]
  rw [List.getElem?_map, List.getElem?_map, List.getElem?_eq_getElem (by omega : r < xs.length), List.getElem?_eq_getElem (by omega : r < glob0.length), e2] at e4
  have hz : z = glob0.getD r ⟨#[]⟩ := by
    simp only [Option.map_some, Option.some.injEq, DataW.lit.injEq, Lit.string.injEq] at e4
    rw [List.getD, List.getElem?_eq_getElem (by omega : r < glob0.length)]
    obtain ⟨z⟩ := z
    generalize hy : glob0[r] = y at e4
    obtain ⟨y⟩ := y
    have e5 : z.toList = y.toList := e4
    rw [Option.getD_some, Array.toList_inj.1 e5]
  rw [World.var?_cell hg hv r, ← hz]
  have : cs.toList[r]? = some (.string z) := by
    have h0 : ((cs.toList.drop r).take 1)[0]? = some (.string z) := by rw [e1]; rfl
    simpa using h0
  simpa using this
theorem words_glob {W : World} (h : laidMetH Tryd.prog Rows.fnExactIsDeskRow.laid W) : GlobOk (allB W) W := by
  have h0 := word_cell h 0 (by omega)
  have hs : 0 < W.heap.size := by
    rcases Nat.eq_zero_or_pos W.heap.size with hz | hz
    · exfalso
      have hn : W.heap[0]? = none := Array.getElem?_eq_none (by omega)
      unfold World.cell? at h0
      simp only [hn] at h0
      cases h0
    · exact hz
  intro p hp
  have hp' : p = (0, glob0.map Value.string) := by
    unfold pins at hp
    simpa using hp
  subst hp'
  refine ⟨hs, hs, fun j v hj => ?_⟩
  have hj8 : j < 8 := by
    have := (List.getElem?_eq_some_iff.1 hj).1
    have hl : glob0.length = 8 := rfl
    rw [List.length_map] at this
    omega
  rw [List.getElem?_map, Option.map_eq_some_iff] at hj
  obtain ⟨y, hy, rfl⟩ := hj
  have := word_cell h j hj8
  rw [List.getD, hy] at this
  exact this
theorem law_postV {H : Type} {enc : TypeId × Value → H} {P : Program} {f : Func} {s : ChangeSpec} {W W' : World} {args : Array Value} {v : Value} {ds gs : List (DataW H)} {before p q : List MemPlace} {tb : TypeId}
    (hW : DataW.Whole enc P f.params.toList s.vars false W args.toList ds gs before) (hl : laidOutB P = true) (hts : ∀ t ∈ f.params.toList, P.readableRec t = true ∧ t < P.types.size)
    (hA : DataW.TrodAll enc P W 0 (fun _ => true) true f.params.toList args.toList ds p) (hbef : before = p ++ q) (hb : Below W.heap.size W W')
    (hr : f.resultTypes = #[tb]) (ht : P.underlying tb = some .bool) (hv : v = .bool true) (h1 : (s.fn H (ds ++ gs)).results = [.lit (.bool true)]) (h2 : (s.fn H (ds ++ gs)).args = ds) (h3 : (s.fn H (ds ++ gs)).vars = gs)
    (hvars : DataW.TrodVars enc P W' (fun b => decide (b < W.heap.size)) s.vars gs q) :
    s.post enc P f false true false false W args v W' := by
  have hlt : ∀ x ∈ before, x.block < W.heap.size := fun x hx => hW.lt x hx
  subst hv
  have hsp : ∀ x ∈ before, (fun b => decide (b < W.heap.size)) x.block = true := fun x hx => by simpa using hlt x hx
  refine ⟨ds, gs, before, [], p, q, hW, ?_, ?_, by rw [h3]; exact hvars, hb.frame _, fun h => by cases h⟩
  · rw [h1, hr]
    exact trodAll_mk1 (shut_bool ht _)
  · rw [h2]
    exact trodAll_stays hl hb hts hA (fun x hx => hlt x (by rw [hbef]; simp [hx])) (fun x hx => hsp x (by rw [hbef]; simp [hx]))
end Go.Proofs.YtdfkbjnbllmllaaDoor.Sh
