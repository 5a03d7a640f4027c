/- Shadow operations that make new blocks, and the step from state to state. -/
import Derived.Test.YtnnpmbcamnnfgaaS4
namespace Go.Proofs.Ytnnpmbcamnnfgaa.Sh
open Go.RowKit
def SV.cells : SV → Option (List SV)
  | .agg cs => some cs
  | .tup _ => none
  | v => some [v]
theorem SV.cells_ok {w : World} {S : Nat → Prop} {β : Nat → Value} (hβ : ∀ d, (β d).cells = #[β d]) {v : SV} {cs : List SV} (h : v.cells = some cs) {u : Value} (hu : SVr w S β v u) :
    cs.length = u.cells.size ∧ ∀ (j : Nat) x y, cs[j]? = some x → u.cells[j]? = some y → SVr w S β x y := by
  have one : ∀ {v : SV} {u : Value}, u.cells = #[u] → SVr w S β v u → [v].length = u.cells.size ∧ ∀ (j : Nat) x y, [v][j]? = some x → u.cells[j]? = some y → SVr w S β x y := by
    intro v u h1 h2
    rw [h1]
    refine ⟨rfl, fun j x y hx hy => ?_⟩
    cases j with
    | zero => simp at hx hy; subst hx hy; exact h2
    | succ j => simp at hx
  cases v <;> simp only [SV.cells, Option.some.injEq, reduceCtorEq] at h <;> subst h
  case tr t => cases hu with | tr _ _ hv => exact one (by cases hv <;> rfl) (.tr _ _ hv)
  case agg cs => cases hu with | agg _ _ hl hh => exact ⟨hl, hh⟩
  case ptr cs o => exact one (by cases hu; rfl) hu
  case ref d o => exact one (by cases hu; rfl) hu
  case eref d m i j => exact one (by cases hu; rfl) hu
  case own d => exact one (by cases hu; exact hβ d) hu
  case clo f cs => exact one (by cases hu; rfl) hu
def trs : List SV → Option (List Tr)
  | [] => some []
  | .tr t :: r => match trs r with
    | some ts => some (t :: ts)
    | none => none
  | _ => none
theorem trs_ok : ∀ {l : List SV} {ts : List Tr}, trs l = some ts → l = ts.map .tr
  | [], ts, h => by injection h with h; subst h; rfl
  | x :: r, ts, h => by
    cases x <;> simp only [trs, reduceCtorEq] at h
    split at h
    · rename_i ts' h1
      injection h with h
      subst h
      rw [List.map_cons, ← trs_ok h1]
    · cases h
/-- The parts of a literal of a slice: all of them, in order; their cells. -/
def partsS (σ : SS) (m : Nat) : Nat → List (Nat × Operand) → Option (List (List Tr))
  | _, [] => some []
  | k, (i, x) :: r => if i == k then
      match ev σ x with
      | some v => match v.cells with
        | some cs => match trs cs, partsS σ m (k + 1) r with
          | some ts, some es => if ts.length == m then some (ts :: es) else none
          | _, _ => none
        | none => none
      | none => none
    else none
def aop (tb : Tb) (σ : SS) (d : Nat) (ty : Nat) : Op → Option (SV × SO)
  | .box _ x => match ev σ x with
    | some v => match v.cells with
      | some cs => some (.ref d 0, .box cs)
      | none => none
    | none => none
  | .alloc e => match find e tb with
    | some i => match zvals i.zero with
      | some _ => some (.ref d 0, .box (i.zero.map .tr))
      | none => none
    | none => none
  | .assign (.const (.slice none 0 0)) => match find ty tb with
    | some i => match i.d with
      | .slice e => match find e tb with
        | some j => some (.own d, .arr e j.size 0 [])
        | none => none
      | _ => none
    | none => none
  | .buildSlice t len ps => match find t tb with
    | some i => match i.d with
      | .slice e => match find e tb with
        | some j => match partsS σ j.size 0 ps.toList, zvals j.zero with
          | some es, some zs => if es.length = len ∧ len * j.size ≤ 16777216 ∧ 0 < j.size ∧ zs.length = j.size then some (.own d, .arr e j.size len es) else none
          | _, _ => none
        | none => none
      | _ => none
    | none => none
  | _ => none
def SS.put (σ : SS) (d : Nat) (v : SV) : SS := { σ with t := (d, v) :: σ.t.filter (fun p => p.1 != d) }
def SS.puts (σ : SS) (d : Option Nat) (v : SV) : SS := match d with
  | some d => σ.put d v
  | none => σ
def SS.drop (σ : SS) (d : Option Nat) : SS := match d with
  | some d => { σ with t := σ.t.filter (fun p => p.1 != d) }
  | none => σ
def SS.names (σ : SS) : List Nat := (σ.t.flatMap fun p => p.2.names) ++ (σ.o.flatMap fun p => p.1 :: p.2.names)
section
variable {P : Program} {tb : Tb} {c : Cx} {S : Nat → Prop} {β : Nat → Value} {σ : SS} {a : Act} {w : World}
theorem put_get (a : Act) {d : Nat} (u : Value) (h : d < a.tmps.size) : (a.put (some d) u).tmps.getD d undef = u := by
  simp [Act.put, Array.getD, h]
theorem put_other (a : Act) {d i : Nat} (u : Value) (h : i ≠ d) : (a.put (some d) u).tmps.getD i undef = a.tmps.getD i undef := by
  simp only [Act.put, Array.getD_eq_getD_getElem?]
  rw [Array.getElem?_setIfInBounds_ne (Ne.symm h)]
theorem put_size (a : Act) (d : Option Nat) (u : Value) : (a.put d u).tmps.size = a.tmps.size := by cases d <;> simp [Act.put]
theorem put_defers (a : Act) (d : Option Nat) (u : Value) : (a.put d u).defers = a.defers := by cases d <;> rfl
/-- The slot d takes a value. -/
theorem Rel.put (hr : Rel c S β σ a w) {d : Nat} (hd : d < σ.n) {v : SV} {u : Value} (hv : SVr w S β v u) : Rel c S β (σ.put d v) (a.put (some d) u) w where
  defers := (put_defers ..).trans hr.defers
  size := (put_size ..).trans hr.size
  one := hr.one
  grew := hr.grew
  s0 := hr.s0
  s1 := hr.s1
  lt := hr.lt
  tmp i x hi := by
    have hd' : d < a.tmps.size := by rw [hr.size]; exact hd
    rcases List.mem_cons.1 hi with h | h
    · injection h with h1 h2
      subst h1 h2
      exact ⟨by rw [put_size]; exact hd', by rw [put_get a u hd']; exact hv⟩
    · have h2 := List.mem_filter.1 h
      have hne : i ≠ d := by simpa using h2.2
      obtain ⟨h3, h4⟩ := hr.tmp i x h2.1
      exact ⟨by rw [put_size]; exact h3, by rw [put_other a u hne]; exact h4⟩
  obj := hr.obj
  pin := hr.pin
  priv := hr.priv
  apart := hr.apart
theorem Rel.drop (hr : Rel c S β σ a w) (d : Option Nat) (u : Value) : Rel c S β (σ.drop d) (a.put d u) w where
  defers := (put_defers ..).trans hr.defers
  size := by rw [put_size, hr.size]; cases d <;> rfl
  one := hr.one
  grew := hr.grew
  s0 := hr.s0
  s1 := hr.s1
  lt := hr.lt
  tmp i x hi := by
    cases d with
    | none => exact hr.tmp i x hi
    | some d =>
      have h2 := List.mem_filter.1 hi
      have hne : i ≠ d := by simpa using h2.2
      obtain ⟨h3, h4⟩ := hr.tmp i x h2.1
      exact ⟨by rw [put_size]; exact h3, by rw [put_other a u hne]; exact h4⟩
  obj := by cases d <;> exact hr.obj
  pin := by cases d <;> exact hr.pin
  priv := by cases d <;> exact hr.priv
  apart := by cases d <;> exact hr.apart
/-- Blocks that S does not hold and that are no own objects' may change. -/
theorem Rel.world (hr : Rel c S β σ a w) {w' : World} (hg : Grew (fun _ => False) w w') : Rel c S β σ a w' where
  defers := hr.defers
  size := hr.size
  one := hr.one
  grew := hr.grew.trans ⟨hg.os, hg.tape, hg.output, hg.size, fun k hk _ => hg.block k hk id⟩
  s0 := hr.s0
  s1 := hr.s1
  lt b hb := Nat.lt_of_lt_of_le (hr.lt b hb) hg.size
  tmp i x hi := ⟨(hr.tmp i x hi).1, (hr.tmp i x hi).2.keep (fun b hb => hg.block b (hr.lt b hb) id) fun _ h => h⟩
  obj d x hd := (hr.obj d x hd).keep (fun b hb => hg.block b (hb.elim (hr.lt b) fun h => (hr.obj d x hd).lt h) id) fun _ h => h
  pin := hr.pin
  priv := hr.priv
  apart := hr.apart
def upd (β : Nat → Value) (d : Nat) (v : Value) : Nat → Value := fun k => if k = d then v else β k
theorem upd_same (β : Nat → Value) (d : Nat) (v : Value) : upd β d v d = v := by simp [upd]
theorem upd_other (β : Nat → Value) {d k : Nat} (v : Value) (h : k ≠ d) : upd β d v k = β k := by simp [upd, h]
theorem upd_names (β : Nat → Value) {d : Nat} (v : Value) {l : List Nat} (h : d ∉ l) : ∀ k ∈ l, upd β d v k = β k := fun k hk => upd_other β v fun e => h (e ▸ hk)
/-- A new object of the frame's own, in a block that was not there. -/
theorem Rel.new (hr : Rel c S β σ a w) {d : Nat} (hd : d ∉ σ.names) (hn : d < σ.n) {x : SO} {v : Value} (h1 : v.cells = #[v]) (hx : ObjR w S (upd β d v) x v)
    (hb : ∀ g, blkOf v = some g → ¬ S g ∧ c.w0.heap.size ≤ g ∧ ∀ d' x', (d', x') ∈ σ.o → blkOf (β d') ≠ some g) : Rel c S (upd β d v) { σ with o := (d, x) :: σ.o } a w where
  defers := hr.defers
  size := hr.size
  one k := by
    unfold upd
    split
    · exact h1
    · exact hr.one k
  grew := hr.grew
  s0 := hr.s0
  s1 := hr.s1
  lt := hr.lt
  tmp i y hi := ⟨(hr.tmp i y hi).1, (hr.tmp i y hi).2.agree (upd_names β v fun h => hd (by
    unfold SS.names
    exact List.mem_append_left _ (List.mem_flatMap.2 ⟨(i, y), hi, h⟩)))⟩
  obj k y hk := by
    rcases List.mem_cons.1 hk with h | h
    · injection h with h1 h2
      subst h1 h2
      rw [upd_same]
      exact hx
    · have hne : k ≠ d := fun e => hd (by
        subst e
        unfold SS.names
        exact List.mem_append_right _ (List.mem_flatMap.2 ⟨(k, y), h, List.mem_cons_self⟩))
      rw [upd_other β v hne]
      exact (hr.obj k y h).agree (upd_names β v fun h' => hd (by
        unfold SS.names
        exact List.mem_append_right _ (List.mem_flatMap.2 ⟨(k, y), h, List.mem_cons_of_mem _ h'⟩)))
  pin j u hj := ⟨(hr.pin j u hj).1, fun y hy => by
    have hlt := (hr.pin j u hj).1
    rw [upd_other β v (by omega)]
    rcases List.mem_cons.1 hy with h | h
    · injection h with h1 h2
      omega
    · exact (hr.pin j u hj).2 y h⟩
  priv k y g hk hg := by
    rcases List.mem_cons.1 hk with h | h
    · injection h with h1 h2
      subst h1 h2
      rw [upd_same] at hg
      exact ⟨(hb g hg).1, .inl (hb g hg).2.1⟩
    · have hne : k ≠ d := fun e => hd (by
        subst e
        unfold SS.names
        exact List.mem_append_right _ (List.mem_flatMap.2 ⟨(k, y), h, List.mem_cons_self⟩))
      rw [upd_other β v hne] at hg
      exact hr.priv k y g h hg
  apart k y k' y' g hk hk' hg hg' := by
    have ne : ∀ {k y}, (k, y) ∈ σ.o → k ≠ d := fun {k y} h e => hd (by
      subst e
      unfold SS.names
      exact List.mem_append_right _ (List.mem_flatMap.2 ⟨(k, y), h, List.mem_cons_self⟩))
    rcases List.mem_cons.1 hk with h | h <;> rcases List.mem_cons.1 hk' with h' | h'
    · injection h with h1 h2
      injection h' with h3 h4
      rw [h1, h3]
    · injection h with h1 h2
      subst h1 h2
      rw [upd_same] at hg
      rw [upd_other β v (ne h')] at hg'
      exact ((hb g hg).2.2 k' y' h' hg').elim
    · injection h' with h1 h2
      subst h1 h2
      rw [upd_same] at hg'
      rw [upd_other β v (ne h)] at hg
      exact ((hb g hg').2.2 k y h hg).elim
    · rw [upd_other β v (ne h)] at hg
      rw [upd_other β v (ne h')] at hg'
      exact hr.apart k y k' y' g h h' hg hg'
/-- A block made now is none of the frame's. -/
theorem Rel.fresh (hr : Rel c S β σ a w) : ¬ S w.heap.size ∧ c.w0.heap.size ≤ w.heap.size ∧ ∀ d' x', (d', x') ∈ σ.o → blkOf (β d') ≠ some w.heap.size :=
  ⟨fun h => absurd (hr.lt _ h) (Nat.lt_irrefl _), hr.grew.size, fun d' x' h e => absurd ((hr.obj d' x' h).lt e) (Nat.lt_irrefl _)⟩
end
end Go.Proofs.Ytnnpmbcamnnfgaa.Sh
