/- What the library's variables hold when the call begins, out of the statement's own premise; no other condition. -/
import Derived.Test.YtlbfeieehmpldaaDoorR1
import Derived.Test.YtlbfeieehmpldaaDoorCards
import Derived.Lib.LaidTab
import Derived.Lib.ItoaNum
import Derived.Stop.LaidErr
import Derived.ChangeMaps5
import Derived.SevenTiedAt
import Derived.Lay
namespace Go.Proofs.YtlbfeieehmpldaaDoor.Sh
open Go.RowKit Go.ChangeShapes Go.WideShapes Go.ChangeAt
theorem err_cell {W : World} {name : String} {g0 : Nat} {tn : String} {d : DataW Unit} {r : List (String × DataW Unit)} (h : laidMet Tryd.prog ((name, .iface tn d) :: r) W) (hg : Tryd.prog.globalNamed name = some g0) (ht : (Tryd.prog.globals[g0]?).map (·.type) = some 43) : g0 < W.heap.size ∧ ∃ t u, W.cell? ⟨g0, 0, none⟩ = some (.iface t u) := by
  obtain ⟨ps, ⟨g, t, cs, fuel, p, q, hg', ht', hv, hd, _, _⟩, _⟩ := h
  obtain rfl := Option.some.inj (hg.symm.trans hg')
  obtain rfl := Option.some.inj (ht.symm.trans ht')
  obtain ⟨f', u, v, hcs, _, _⟩ := iface_of_trod Tryd.underlying43 hd
  have h1 := World.var?_cell hg hv 0
  have h2 : cs[0]? = some (.iface u v) := by
    rw [← Array.getElem?_toList, hcs]
    rfl
  rw [h2] at h1
  refine ⟨?_, u, v, h1⟩
  rcases Nat.lt_or_ge g0 W.heap.size with h3 | h3
  · exact h3
  · exfalso
    have hn : W.heap[g0]? = none := Array.getElem?_eq_none h3
    unfold World.cell? at h1
    simp only [hn] at h1
    cases h1
theorem words_glob {W : World} (h : laidMetH Tryd.prog Rows.fnExactIsConsoleLineRow.laid W) : GlobOk (allB W) W := by
  rw [MakeChecks.laidMetH_plain _ _ _ (by kernel_rfl)] at h
  have h2 := laidMet.tail (laidMet.tail h)
  have h4 := laidMet.tail (laidMet.tail h2)
  have h5 := laidMet.tail h4
  have e1 := err_cell h4 (g0 := 4) (by kernel_rfl) (by kernel_rfl)
  have e2 := err_cell h5 (g0 := 3) (by kernel_rfl) (by kernel_rfl)
  have ht : Lib.TabIs Tryd.prog W "internal/strconv.uint64pow10" .u64 Lib.pow10Tab := Lib.tabIs_of_head (g := 5) (t := 81) (e := 59) (n := 20) (by kernel_rfl) (by kernel_rfl) Tryd.underlying81 Tryd.underlying59 (by kernel_rfl) (by kernel_rfl) h2
  refine ⟨fun p hp => (by cases hp), fun g hg => ?_, fun p hp => ?_⟩
  · have : g = 3 ∨ g = 4 := by
      unfold sents at hg
      simpa using hg
    rcases this with rfl | rfl
    · exact ⟨e2.1, e2.1, e2.2⟩
    · exact ⟨e1.1, e1.1, e1.2⟩
  · have hp : p = _ := List.mem_singleton.1 hp
    subst hp
    unfold Lib.TabIs World.var? at ht
    rw [show Tryd.prog.globalNamed "internal/strconv.uint64pow10" = some 5 by kernel_rfl, Option.bind_some] at ht
    have h3 : ∃ t x, W.heap[5]? = some (.cells (Lib.pow10Tab.map fun z => Value.int .u64 z).toArray t x) := by
      cases hb : W.heap[5]? with
      | none => rw [hb] at ht; cases ht
      | some o =>
        rw [hb] at ht
        cases o with
        | cells cs t x =>
          injection ht with ht
          subst ht
          exact ⟨t, x, rfl⟩
        | _ => cases ht
    obtain ⟨t, x, h3⟩ := h3
    have hlt : 5 < W.heap.size := (Array.getElem?_eq_some_iff.1 h3).1
    exact ⟨hlt, hlt, t, x, h3⟩
end Go.Proofs.YtlbfeieehmpldaaDoor.Sh
