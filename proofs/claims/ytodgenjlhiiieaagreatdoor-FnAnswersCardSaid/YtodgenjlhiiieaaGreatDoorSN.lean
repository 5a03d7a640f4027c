/- A literal of a struct with an empty slice of its own; no condition. -/
import Derived.Test.YtodgenjlhiiieaaGreatDoorSD
namespace Go.Proofs.YtodgenjlhiiieaaGreatDoor.Sh
open Go.RowKit
section
variable {P : Program} {tb : Tb} {c : Cx} {S : Nat → Prop} {β : Nat → Value} {σ : SS} {a : Act} {w : World} {ops : Array Oper} {o : Oper}
def pickI (l : List Int) (i : Nat) : Int := l.getD i 0
def arr' (n : Nat) (i : Int) : Option Unit := if 0 ≤ i ∧ i < n then some () else none
/-- A variable's cell with an own slice: what it holds is forgotten. -/
theorem Le.anyCell {d j k : Nat} {cs : List SV} (hf : find d σ.o = some (.box cs)) (hj : cs[j]? = some (.own k)) : Le σ { σ with o := (d, .box (cs.set j .any)) :: σ.o.filter (fun p => p.1 != d) } := by
  intro c a w ⟨S, β, hr⟩
  have hm := mem_of_find hf
  have ho := hr.obj d _ hm
  generalize hb : β d = b at ho
  cases ho with
  | box cs g vs T hg hl h =>
    have hnew : ObjR w S β (.box (cs.set j .any)) (.pointer (some ⟨g, 0, none⟩)) := .box _ g vs T hg (by rw [List.length_set]; exact hl) fun i x v hx hv => by
      by_cases hij : j = i
      · subst hij
        rw [List.getElem?_set_self (List.getElem?_eq_some_iff.1 hj).1] at hx
        injection hx with hx
        subst hx
        have := h j _ v hj hv
        cases this with
        | own k => exact .any _ (hr.one k)
      · rw [List.getElem?_set_ne hij] at hx
        exact h i x v hx hv
    exact hr.view hm (by rw [hb]; exact hnew) fun g' hg' => hg'
/-- A slice of all of a package variable's array of texts. -/
theorem lstep_slice_glob (hP : TbOk P tb) {t g : Nat} (ho : o.op = .slice t (.global g) none none none) {ν : SS} (hgd : gd ops ν o = some true) (hok : okd ν o = true) {L : List ByteArray} (hp : (g, L.map Value.string) ∈ pins) {n e : Nat} {ti tj : TI}
    (ht : find t tb = some ti) (hd : ti.d = .array n e) (hj : find e tb = some tj) (hn : L.length = n) (hs0 : L.all (fun s => decide (s.size ≤ maxLen)) = true) (hm0 : Nat.ble n maxLen = true) : LStep P ops o ν (some (.tr (.sl n (L.map eS)), none)) := by
  have hs : ∀ s ∈ L, s.size ≤ maxLen := fun s h => of_decide_eq_true (List.all_eq_true.1 hs0 s h)
  have hm : n ≤ maxLen := Nat.le_of_ble_eq_true hm0
  refine lstep_of_vok hgd hok fun c S β a w hr => ?_
  obtain ⟨h1, h2, h3⟩ := hr.globOk _ hp
  have hu := (find_ti hP ht).array hd
  have hrun : (Instr.sliceAt t (.pointer (some ⟨g, 0, none⟩)) none none none).run P w = .ok (.slice (some ⟨g, 0, none⟩) n n) w := by
    have hb := run_bounds (P := P) hr false (n := n) (cap := n) (lo := none) (hi := none) (l := 0) (h := n) rfl rfl (by omega) (by omega) (Int.le_refl _) (Nat.le_refl _)
    simp only [Option.map_none] at hb
    simp only [Instr.sliceAt, Sem.run_bind, run_underlying hu, Result.andThen_ok, Instr.sureAddr, Sem.run_pure, hb, (find_ti hP hj).size]
    simp [Addr.add]
  refine .mk (s := Instr.sliceAt t (.pointer (some ⟨g, 0, none⟩)) none none none) (by simp only [execOp, ho]; rfl) hrun (.tr _ _ ?_)
  refine .sl (L.map eS) _ n n 1 (fun i _ => .string (L.getD i ⟨#[]⟩)) (by simpa using hn) (Nat.le_refl _) hm (fun x hx => ?_) (fun i x j u hi hj => ?_) fun _ => ⟨g, 0, rfl, h1, fun i x j u hi hj => ?_⟩
  · obtain ⟨y, _, rfl⟩ := List.mem_map.1 hx
    rfl
  · rw [List.getElem?_map, Option.map_eq_some_iff] at hi
    obtain ⟨y, hy, rfl⟩ := hi
    cases j with
    | zero =>
      injection hj with hj
      subst hj
      rw [List.getD_eq_getElem?_getD, hy]
      exact .str y (hs y (List.mem_of_getElem? hy))
    | succ j => cases hj
  · rw [List.getElem?_map, Option.map_eq_some_iff] at hi
    obtain ⟨y, hy, rfl⟩ := hi
    cases j with
    | zero =>
      have := h3 i (.string y) (by rw [List.getElem?_map, hy]; rfl)
      rw [List.getD_eq_getElem?_getD, hy, show 0 + i * 1 + 0 = i by omega]
      exact this
    | succ j => cases hj
/-- The address of an element of a variable's array by a variable, and what is there. -/
theorem lstep_indexA (hP : TbOk P tb) {t : Nat} {x y : Operand} {i : Int} {u : Unit} (ho : o.op = .indexAddr t x y) {ν : SS} {d q n e m : Nat} {k : IntKind} {ti tj : TI} (h : arr' n i = some u) (hgd : gd ops ν o = some true := by kernel_rfl) (hok : okd ν o = true := by kernel_rfl) (ht : find t tb = some ti := by kernel_rfl) (hd : ti.d = .array n e := by kernel_rfl) (he : find e tb = some tj := by kernel_rfl) (hm : tj.size = m := by kernel_rfl) (hx : ev ν x = some (.ref d q) := by kernel_rfl) (hy : ev ν y = some (.tr (.int k i)) := by kernel_rfl) : LStep P ops o ν (some (.ref d (q + i.toNat * m), none)) := by
  unfold arr' at h
  split at h
  · rename_i hh
    refine lstep_of_vok hgd hok fun c S β a w hr => vop_indexAddr hP hr ho ?_
    simp only [vop, ht, hx, hy, hd, he, if_pos hh, hm, shiftA]
  · cases h
def arrN (n q : Nat) : Option Unit := if q < n then some () else none
theorem lstep_load_sym (hP : TbOk P tb) {t : Nat} {x : Operand} (ho : o.op = .load t x) {ν : SS} {d q : Nat} (L : List Int) {k : IntKind} {ti : TI} {u : Unit} (h : arrN L.length q = some u) (hl : ∀ (cs : List SV) (q : Nat), ldc ti cs q = cs[q]?) (hgd : gd ops ν o = some true := by kernel_rfl) (hok : okd ν o = true := by kernel_rfl) (ht : find t tb = some ti := by kernel_rfl) (hx : ev ν x = some (.ref d q) := by kernel_rfl) (hob : find d ν.o = some (.box (L.map fun n => .tr (.int k n))) := by kernel_rfl) : LStep P ops o ν (some (.tr (.int k (pickI L q)), none)) := by
  unfold arrN at h
  split at h
  · rename_i hh
    refine lstep_of_vok hgd hok fun c S β a w hr => vop_load hP hr ho ?_
    simp only [vop, ht, hx, hob, hl, List.getElem?_map, List.getElem?_eq_getElem hh, Option.map_some, pickI, List.getD_eq_getElem?_getD, Option.getD_some]
  · cases h
end
end Go.Proofs.YtodgenjlhiiieaaGreatDoor.Sh
