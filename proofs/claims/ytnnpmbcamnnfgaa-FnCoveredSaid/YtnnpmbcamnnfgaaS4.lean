/- Every shadow operation that leaves the world alone is what the operation does. -/
import Derived.Test.YtnnpmbcamnnfgaaS3
namespace Go.Proofs.Ytnnpmbcamnnfgaa.Sh
open Go.RowKit
section
variable {P : Program} {tb : Tb} {c : Cx} {S : Nat → Prop} {β : Nat → Value} {σ : SS} {a : Act} {w : World}
def VOk (P : Program) (S : Nat → Prop) (β : Nat → Value) (a : Act) (w : World) (o : Oper) (v : SV) : Prop := ∃ u, (execOp a.eval o).run P w = .ok (.value u) w ∧ SVr w S β v u
theorem find_ti (hP : TbOk P tb) {t : Nat} {i : TI} (h : find t tb = some i) : TIok P t i := hP t i (mem_of_find h)
theorem VOk.mk {o : Oper} {v : SV} {s : Sem Value} {u : Value} (he : (execOp a.eval o) = (do pure (.value (← s)))) (hs : s.run P w = .ok u w) (hv : SVr w S β v u) : VOk P S β a w o v := by
  refine ⟨u, ?_, hv⟩
  rw [he]
  simp [hs]
theorem vop_load (hP : TbOk P tb) (hr : Rel c S β σ a w) {o : Oper} {t : Nat} {x : Operand} (ho : o.op = .load t x) {v : SV} (h : vop tb σ (.load t x) = some v) : VOk P S β a w o v := by
  simp only [vop] at h
  split at h
  · rename_i i cs k hi hx
    have hv := ev_ok hr hx
    generalize hy : a.eval x = y at hv
    cases hv with
    | ptr cs k g b u hs hh hc =>
      obtain ⟨r, h1, h2⟩ := ldc_ok (find_ti hP hi) hh hc h
      exact .mk (s := Instr.loadAt t (a.eval x)) (by simp only [execOp, ho]) (by rw [hy]; simp [Instr.loadAt, Instr.sureAddr, h1]) h2
  · rename_i i d k hi hx
    have hv := ev_ok hr hx
    generalize hy : a.eval x = y at hv
    cases hv with
    | ref d k g hg =>
      split at h
      · rename_i cs hd
        have ho2 := hr.obj d _ (mem_of_find hd)
        rw [hg] at ho2
        cases ho2 with
        | box cs g vs T hgg hl hh =>
          obtain ⟨r, h1, h2⟩ := ldc_ok (S := S) (β := β) (w := w) (g := g) (b := 0) (u := fun j => vs.getD j undef) (find_ti hP hi) (cs := cs) (fun j z hz => hh j z _ hz (by
              have := (List.getElem?_eq_some_iff.1 hz).1
              simp [Array.getD, show j < vs.size by omega])) (fun j z hz => by
              have := (List.getElem?_eq_some_iff.1 hz).1
              rw [Nat.zero_add, cell_of_row w g j vs T (0, 0) hgg]
              simp [Array.getD, show j < vs.size by omega]) h
          rw [Nat.zero_add] at h1
          exact .mk (s := Instr.loadAt t (a.eval x)) (by simp only [execOp, ho]) (by rw [hy]; simp [Instr.loadAt, Instr.sureAddr, h1]) h2
      · cases h
  · cases h
theorem vop_fieldAddr (hP : TbOk P tb) (hr : Rel c S β σ a w) {o : Oper} {t k : Nat} {x : Operand} (ho : o.op = .fieldAddr t x k) {v : SV} (h : vop tb σ (.fieldAddr t x k) = some v) : VOk P S β a w o v := by
  simp only [vop] at h
  split at h
  · rename_i i y hi hx
    split at h
    · rename_i fs hd
      split at h
      · rename_i off ft hf
        split at h
        · rename_i j hj
          split at h
          · cases h
          · rename_i hz
            obtain ⟨f, hu, hm⟩ := (find_ti hP hi).struct hd
            obtain ⟨y', h1, h2, h3⟩ := fieldOf hm hf
            subst h2 h3
            obtain ⟨g, o', h4, h5⟩ := shiftA_ok h (ev_ok hr hx)
            refine .mk (s := Instr.fieldAt t (a.eval x) k) (by simp only [execOp, ho]) ?_ h5
            rw [h4]
            simp [Instr.fieldAt, run_underlying hu, h1, Instr.sureAddr, fieldPlace, (find_ti hP hj).size, hz, Addr.add_lit]
        · cases h
      · cases h
    · cases h
  · cases h
theorem vop_field (hP : TbOk P tb) (hr : Rel c S β σ a w) {o : Oper} {t k : Nat} {x : Operand} (ho : o.op = .field t x k) {v : SV} (h : vop tb σ (.field t x k) = some v) : VOk P S β a w o v := by
  simp only [vop] at h
  split at h
  · rename_i i cs hi hx
    split at h
    · rename_i fs hd
      split at h
      · rename_i off ft hf
        split at h
        · rename_i j hj
          obtain ⟨f, hu, hm⟩ := (find_ti hP hi).struct hd
          obtain ⟨y', h1, h2, h3⟩ := fieldOf hm hf
          subst h2 h3
          have hv := ev_ok hr hx
          generalize hy : a.eval x = y at hv
          cases hv with
          | agg cs vs hl hh =>
            obtain ⟨r, h4, h5⟩ := ldcA_ok (find_ti hP hj) hl hh h
            refine .mk (s := Instr.field t (a.eval x) k) (by simp only [execOp, ho]) ?_ h5
            rw [hy]
            simp [Instr.field, run_underlying hu, h1, asAgg, h4]
        · cases h
      · cases h
    · cases h
  · cases h
theorem TIok.array {t : Nat} {i : TI} (h : TIok P t i) {n e : Nat} (hd : i.d = .array n e) : P.underlying t = some (.array n e) := by
  have := h.d; rw [hd] at this; exact this
theorem vop_index (hP : TbOk P tb) (hr : Rel c S β σ a w) {o : Oper} {t : Nat} {x y : Operand} (ho : o.op = .index t x y) {v : SV} (h : vop tb σ (.index t x y) = some v) : VOk P S β a w o v := by
  simp only [vop] at h
  split at h
  · rename_i i cs k n hi hx hy
    split at h
    · rename_i len e hd
      split at h
      · rename_i j hj
        split at h
        · rename_i hn
          have hv := ev_ok hr hx
          have hw := ev_ok hr hy
          generalize hy1 : a.eval x = y1 at hv
          generalize hy2 : a.eval y = y2 at hw
          cases hw with
          | tr _ _ hw => cases hw with
            | int k n =>
              cases hv with
              | agg cs vs hl hh =>
                obtain ⟨r, h4, h5⟩ := ldcA_ok (find_ti hP hj) hl hh h
                refine .mk (s := Instr.index t (a.eval x) (a.eval y)) (by simp only [execOp, ho]) ?_ h5
                rw [hy1, hy2]
                simp [Instr.index, asIntOf, run_underlying ((find_ti hP hi).array hd), hn.1, hn.2, (find_ti hP hj).size, h4]
        · cases h
      · cases h
    · cases h
  · cases h
theorem vop_indexAddr (hP : TbOk P tb) (hr : Rel c S β σ a w) {o : Oper} {t : Nat} {x y : Operand} (ho : o.op = .indexAddr t x y) {v : SV} (h : vop tb σ (.indexAddr t x y) = some v) : VOk P S β a w o v := by
  simp only [vop] at h
  split at h
  · rename_i i v1 k n hi hx hy
    split at h
    · rename_i len e hd
      split at h
      · rename_i j hj
        split at h
        · rename_i hn
          have hw := ev_ok hr hy
          generalize hy2 : a.eval y = y2 at hw
          cases hw with
          | tr _ _ hw => cases hw with
            | int k n =>
              obtain ⟨g, o', h4, h5⟩ := shiftA_ok h (ev_ok hr hx)
              refine .mk (s := Instr.indexAt t (a.eval x) (a.eval y)) (by simp only [execOp, ho]) ?_ h5
              rw [h4, hy2]
              simp [Instr.indexAt, Instr.sureAddr, asIntOf, run_underlying ((find_ti hP hi).array hd), hn.1, hn.2, (find_ti hP hj).size, Addr.add_lit]
        · cases h
      · cases h
    · cases h
  · cases h
theorem vop_binOp (hr : Rel c S β σ a w) {o : Oper} {op : BinOp} {t t' : Nat} {x y : Operand} (ho : o.op = .binOp op t x y t') {v : SV} (h : vop tb σ (.binOp op t x y t') = some v) : VOk P S β a w o v := by
  simp only [vop] at h
  split at h
  · rename_i p q hx hy
    have hv := ev_ok hr hx
    have hw := ev_ok hr hy
    have he : execOp a.eval o = (do pure (.value (← (do eqGuard op t x y (a.eval x) (a.eval y); binOp op t (a.eval x) (a.eval y) : Sem Value)))) := by simp only [execOp, ho]
    cases hv with
    | tr _ _ hv =>
    cases hw with
    | tr _ _ hw =>
    split at h
    · rename_i r hb
      injection h with h
      subst h
      obtain ⟨z, h1, h2⟩ := bop_ok (P := P) hb hv hw t x y
      exact .mk he h1 (.tr _ _ h2)
    · split at h
      · rename_i hb cc
        rw [Option.map_eq_some_iff] at h
        obtain ⟨r, hr', rfl⟩ := h
        obtain ⟨z, h1, h2⟩ := bopc_ok (P := P) hr' hv t x (.const cc)
        exact .mk he h1 (.tr _ _ h2)
      · cases h
  · cases h
theorem vop_unOp (hr : Rel c S β σ a w) {o : Oper} {op : UnOp} {t : Nat} {x : Operand} (ho : o.op = .unOp op t x) {v : SV} (h : vop tb σ (.unOp op t x) = some v) : VOk P S β a w o v := by
  simp only [vop] at h
  split at h
  · rename_i b hx
    injection h with h
    subst h
    have hv := ev_ok hr hx
    generalize hy : a.eval x = y at hv
    cases hv with
    | tr _ _ hv => cases hv with
      | bool b => exact .mk (s := Op.unary .not (a.eval x)) (by simp only [execOp, ho]) (by rw [hy]; simp [Op.unary]) (.tr _ _ (.bool _))
  · rename_i k n hx
    injection h with h
    subst h
    have hv := ev_ok hr hx
    generalize hy : a.eval x = y at hv
    cases hv with
    | tr _ _ hv => cases hv with
      | int k n => exact .mk (s := Op.unary .neg (a.eval x)) (by simp only [execOp, ho]) (by rw [hy]; simp only [Op.unary, Op.intArith]; rfl) (.tr _ _ (.int _ _))
  · cases h
theorem TIok.int {t : Nat} {i : TI} (h : TIok P t i) {k : IntKind} (hd : i.d = .int k) : P.underlying t = some (.int k) := by
  have := h.d; rw [hd] at this; exact this
theorem TIok.und {t : Nat} {i : TI} (h : TIok P t i) : (P.underlying t).isSome = true := by
  have := h.d
  cases hi : i.d <;> rw [hi] at this <;> unfold TDok at this
  case other => exact this.elim
  case struct fs =>
    unfold structOf at this
    cases hu : P.underlying t with
    | none => rw [hu] at this; simp at this
    | some d => rfl
  all_goals simp [this]
theorem vop_convert (hP : TbOk P tb) (hr : Rel c S β σ a w) {o : Oper} {s d : Nat} {x : Operand} (ho : o.op = .convert s d x) {v : SV} (h : vop tb σ (.convert s d x) = some v) : VOk P S β a w o v := by
  simp only [vop] at h
  split at h
  · rename_i i j k n hi hj hx
    split at h
    · rename_i k' hd
      injection h with h
      subst h
      have hv := ev_ok hr hx
      generalize hy : a.eval x = y at hv
      cases hv with
      | tr _ _ hv => cases hv with
        | int k n =>
          refine .mk (s := convert s d (a.eval x)) (by simp only [execOp, ho]) ?_ (.tr _ _ (.int _ _))
          rw [hy]
          have h1 := (find_ti hP hj).int hd
          obtain ⟨u, hu⟩ := Option.isSome_iff_exists.1 (find_ti hP hi).und
          simp only [convert, Sem.run_bind, run_underlying hu, run_underlying h1, Result.andThen_ok]
          cases u <;> simp [Conv.intToInt]
    · cases h
  · cases h
theorem vop_extract (hr : Rel c S β σ a w) {o : Oper} {x : Operand} {k : Nat} (ho : o.op = .extract x k) {v : SV} (h : vop tb σ (.extract x k) = some v) : VOk P S β a w o v := by
  simp only [vop] at h
  split at h
  · rename_i cs hx
    have hv := ev_ok hr hx
    generalize hy : a.eval x = y at hv
    cases hv with
    | tup cs vs hl hh =>
      have := (List.getElem?_eq_some_iff.1 h).1
      have h1 : vs[k]? = some vs[k] := Array.getElem?_eq_getElem (by omega)
      exact .mk (s := Instr.extract (a.eval x) k) (by simp only [execOp, ho]) (by rw [hy]; simp [Instr.extract, h1]) (hh k v _ h h1)
  · cases h
theorem vop_nilCheck (hr : Rel c S β σ a w) {o : Oper} {x : Operand} (ho : o.op = .nilCheck x) {v : SV} (h : vop tb σ (.nilCheck x) = some v) : VOk P S β a w o v := by
  simp only [vop] at h
  have key : ∀ z, ev σ x = some z → some z = some v → (∀ y, SVr w S β z y → (∃ p, y = .pointer (some p)) ∨ ∃ f cs, y = .func (.func f) #[] cs) → VOk P S β a w o v := by
    intro z hz he hy
    injection he with he
    subst he
    have hv := ev_ok hr hz
    refine ⟨a.eval x, ?_, hv⟩
    rcases hy _ hv with ⟨p, hp⟩ | ⟨f, cs, hp⟩ <;> simp only [execOp, ho, hp] <;> rfl
  split at h
  · exact key _ (by assumption) h fun y hy => by cases hy; exact .inl ⟨_, rfl⟩
  · exact key _ (by assumption) h fun y hy => by cases hy; exact .inl ⟨_, rfl⟩
  · exact key _ (by assumption) h fun y hy => by cases hy; exact .inl ⟨_, rfl⟩
  · exact key _ (by assumption) h fun y hy => by cases hy; exact .inr ⟨_, _, rfl⟩
  · cases h
theorem vop_makeFunc (hr : Rel c S β σ a w) {o : Oper} {f : FuncId} {fs cs : Array Operand} (ho : o.op = .makeFunc (.func f) fs cs) {v : SV} (h : vop tb σ (.makeFunc (.func f) fs cs) = some v) : VOk P S β a w o v := by
  simp only [vop] at h
  split at h
  · rename_i hf
    rw [Option.map_eq_some_iff] at h
    obtain ⟨xs, h1, rfl⟩ := h
    obtain ⟨h2, h3⟩ := evL_ok hr h1
    have hf' : fs = #[] := Array.eq_empty_of_size_eq_zero hf
    subst hf'
    refine .mk (s := Instr.makeFunc (.func f) ((#[] : Array Operand).map a.eval) (cs.map a.eval)) (by simp only [execOp, ho]) (by simp [Instr.makeFunc]; rfl) (.clo f xs _ (by simpa using h2) fun j x y hx hy => ?_)
    rw [Array.getElem?_map, Option.map_eq_some_iff] at hy
    obtain ⟨z, hz, rfl⟩ := hy
    exact h3 j z x (by simpa using hz) hx
  · cases h
theorem evalL (args : Array Operand) {xs : List Operand} (h : args.toList = xs) (f : Operand → Value) : args.map f = (xs.map f).toArray := by
  subst h; cases args; simp
theorem vop_call (hP : TbOk P tb) (hr : Rel c S β σ a w) {o : Oper} {b : Builtin} {args : Array Operand} {ts : Array TypeId} (ho : o.op = .call { callee := .builtin b, args := args, argTypes := ts }) {v : SV}
    (h : vop tb σ (.call { callee := .builtin b, args := args, argTypes := ts }) = some v) : VOk P S β a w o v := by
  simp only [vop] at h
  split at h
  · rename_i x hargs
    have ha := evalL args hargs a.eval
    split at h
    · rename_i t d hts hx
      split at h
      · rename_i i e m n es hi hd
        split at h
        · rename_i e' hdi
          injection h with h
          subst h
          have hv := ev_ok hr hx
          have hu : P.underlying t = some (.slice e') := by have := (find_ti hP hi).d; rw [hdi] at this; exact this
          have hob := hr.obj d _ (mem_of_find hd)
          generalize hy : a.eval x = y at hv
          cases hv with
          | own d =>
            cases hob with
            | arr e m n es v xs hn hown he hh =>
              obtain ⟨A, cp, hA⟩ : ∃ A cp, β d = .slice A n cp := by
                rcases hown.2 with ⟨h1, h2⟩ | ⟨g, cap, cur, h1, _⟩
                · exact ⟨none, 0, by rw [h1, h2]⟩
                · exact ⟨_, _, h1⟩
              refine ⟨.int .i64 n, ?_, .tr _ _ (.int _ _)⟩
              have ht : ts[0]? = some t := by rw [← Array.getElem?_toList, hts]; rfl
              simp [execOp, ho, resolve, invoke, builtin, ha, hy, hA, Builtin.len_, ht, run_underlying hu, goInt]
        · cases h
      · cases h
    · rename_i t z hz hts hx
      split at h
      · rename_i i hi
        rw [Option.map_eq_some_iff] at h
        obtain ⟨r, h1, rfl⟩ := h
        have hv := ev_ok hr hx
        have hdi := (find_ti hP hi).d
        have ht : ts[0]? = some t := by rw [← Array.getElem?_toList, hts]; rfl
        generalize hy : a.eval x = y at hv
        unfold lenT at h1
        split at h1
        · rename_i e' n es hd'
          injection h1 with h1
          subst h1
          rw [hd'] at hdi
          have hu : P.underlying t = some (.slice e') := hdi
          cases hv with
          | tr _ _ hv => cases hv with
            | sl es A n cp m u hl hc hm he hu' ha' =>
              exact ⟨.int .i64 n, by simp [execOp, ho, resolve, invoke, builtin, ha, hy, Builtin.len_, ht, run_underlying hu, goInt], .tr _ _ (.int _ _)⟩
        · rename_i s hd'
          injection h1 with h1
          subst h1
          rw [hd'] at hdi
          have hu : P.underlying t = some .string := hdi
          cases hv with
          | tr _ _ hv => cases hv with
            | str s hs => exact ⟨.int .i64 s.size, by simp [execOp, ho, resolve, invoke, builtin, ha, hy, Builtin.len_, ht, run_underlying hu, goInt], .tr _ _ (.int _ _)⟩
        · rename_i n e' hd'
          injection h1 with h1
          subst h1
          rw [hd'] at hdi
          have hu : P.underlying t = some (.array n e') := hdi
          exact ⟨.int .i64 n, by simp [execOp, ho, resolve, invoke, builtin, ha, hy, Builtin.len_, ht, run_underlying hu, goInt], .tr _ _ (.int _ _)⟩
        · cases h1
      · cases h
    · cases h
  · rename_i x y hargs
    have ha := evalL args hargs a.eval
    split at h
    · rename_i p q hx hy
      rw [Option.map_eq_some_iff] at h
      obtain ⟨r, h1, rfl⟩ := h
      have hv := ev_ok hr hx
      have hw := ev_ok hr hy
      generalize hz1 : a.eval x = z1 at hv
      generalize hz2 : a.eval y = z2 at hw
      unfold minT at h1
      split at h1
      · split at h1
        · injection h1 with h1
          subst h1
          cases hv with
          | tr _ _ hv => cases hv with
            | int k n => cases hw with
              | tr _ _ hw => cases hw with
                | int k' n' => exact ⟨.int _ _, by simp [execOp, ho, resolve, invoke, builtin, ha, hz1, hz2, Builtin.min_, Builtin.min2], .tr _ _ (.int _ _)⟩
        · cases h1
      · cases h1
    · cases h
  · rename_i x y hargs
    have ha := evalL args hargs a.eval
    split at h
    · rename_i p q hx hy
      rw [Option.map_eq_some_iff] at h
      obtain ⟨r, h1, rfl⟩ := h
      have hv := ev_ok hr hx
      have hw := ev_ok hr hy
      generalize hz1 : a.eval x = z1 at hv
      generalize hz2 : a.eval y = z2 at hw
      unfold maxT at h1
      split at h1
      · split at h1
        · injection h1 with h1
          subst h1
          cases hv with
          | tr _ _ hv => cases hv with
            | int k n => cases hw with
              | tr _ _ hw => cases hw with
                | int k' n' => exact ⟨.int _ _, by simp [execOp, ho, resolve, invoke, builtin, ha, hz1, hz2, Builtin.max_, Builtin.max2], .tr _ _ (.int _ _)⟩
        · cases h1
      · cases h1
    · cases h
  · cases h
theorem vop_move (hr : Rel c S β σ a w) {o : Oper} {x : Operand} (ho : o.op = .move x ∨ o.op = .assign x) {v : SV} (h : ev σ x = some v) : VOk P S β a w o v := by
  rcases ho with ho | ho <;> exact ⟨a.eval x, by simp only [execOp, ho]; rfl, ev_ok hr h⟩
theorem vop_pick (hr : Rel c S β σ a w) {o : Oper} {x y z : Operand} (ho : o.op = .pick x y z) {v : SV} (h : vop tb σ (.pick x y z) = some v) : VOk P S β a w o v := by
  simp only [vop] at h
  split at h
  · rename_i hx
    have hv := ev_ok hr hx
    generalize hy : a.eval x = y1 at hv
    cases hv with
    | tr _ _ hv => cases hv with
      | bool b => exact ⟨a.eval y, by simp [execOp, ho, hy, asBool], ev_ok hr h⟩
  · rename_i hx
    have hv := ev_ok hr hx
    generalize hy : a.eval x = y1 at hv
    cases hv with
    | tr _ _ hv => cases hv with
      | bool b => exact ⟨a.eval z, by simp [execOp, ho, hy, asBool], ev_ok hr h⟩
  · cases h
theorem vop_ok (hP : TbOk P tb) (hr : Rel c S β σ a w) {o : Oper} {v : SV} (h : vop tb σ o.op = some v) : VOk P S β a w o v := by
  cases ho : o.op
  case move x => rw [ho] at h; exact vop_move hr (.inl ho) h
  case assign x => rw [ho] at h; exact vop_move hr (.inr ho) h
  case pick => rw [ho] at h; exact vop_pick hr ho h
  case load => rw [ho] at h; exact vop_load hP hr ho h
  case fieldAddr => rw [ho] at h; exact vop_fieldAddr hP hr ho h
  case field => rw [ho] at h; exact vop_field hP hr ho h
  case index => rw [ho] at h; exact vop_index hP hr ho h
  case indexAddr => rw [ho] at h; exact vop_indexAddr hP hr ho h
  case binOp => rw [ho] at h; exact vop_binOp hr ho h
  case unOp => rw [ho] at h; exact vop_unOp hr ho h
  case convert => rw [ho] at h; exact vop_convert hP hr ho h
  case extract => rw [ho] at h; exact vop_extract hr ho h
  case nilCheck => rw [ho] at h; exact vop_nilCheck hr ho h
  case makeFunc fn fs cs =>
    cases fn
    case func f => rw [ho] at h; exact vop_makeFunc hr ho h
    all_goals (rw [ho] at h; simp only [vop, reduceCtorEq] at h)
  case call k =>
    obtain ⟨cal, args, ts⟩ := k
    cases cal
    case builtin b => rw [ho] at h; exact vop_call hP hr ho h
    all_goals (rw [ho] at h; simp only [vop, reduceCtorEq] at h)
  all_goals (rw [ho] at h; simp only [vop, reduceCtorEq] at h)
end
end Go.Proofs.Ytnnpmbcamnnfgaa.Sh
