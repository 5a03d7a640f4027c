/- What makes a new block does what its shadow says. -/
import Derived.Test.YtnnpmbcamnnfgaaS5
import Derived.Great.BuildSlice
namespace Go.Proofs.Ytnnpmbcamnnfgaa.Sh
open Go.RowKit
section
variable {P : Program} {tb : Tb} {c : Cx} {S : Nat → Prop} {β : Nat → Value} {σ : SS} {a : Act} {w : World}
theorem zval_ok {t : Tr} {v : Value} (h : t.zval = some v) : TV w S t v := by
  unfold Tr.zval at h
  split at h
  · injection h with h; subst h; exact .int _ _
  · injection h with h; subst h; exact .bool _
  · split at h
    · injection h with h; subst h; exact .str _ (by simp [*])
    · cases h
  · injection h with h; subst h; exact .sl [] none 0 0 0 (fun _ _ => default) rfl (Nat.le_refl _) (by simp [maxLen]) (by simp) (by simp) (by simp)
  · cases h
theorem zvals_ok : ∀ {ts : List Tr} {vs : List Value}, zvals ts = some vs → ts.length = vs.length ∧ ∀ (j : Nat) t v, ts[j]? = some t → vs[j]? = some v → TV w S t v
  | [], vs, h => by injection h with h; subst h; simp
  | t :: ts, vs, h => by
    unfold zvals at h
    split at h
    · rename_i y ys hy hys
      injection h with h
      subst h
      obtain ⟨h1, h2⟩ := zvals_ok hys
      refine ⟨by simp [h1], fun j x v hx hv => ?_⟩
      cases j with
      | zero => simp at hx hv; subst hx hv; exact zval_ok hy
      | succ j => exact h2 j x v (by simpa using hx) (by simpa using hv)
    · cases h
theorem constSV_names {v : Value} {x : SV} (h : constSV v = some x) : x.names = [] := by
  unfold constSV at h
  split at h
  · injection h with h; subst h; rfl
  · injection h with h; subst h; rfl
  · split at h
    · injection h with h; subst h; rfl
    · cases h
  · injection h with h; subst h; rfl
  · cases h
theorem constL_names : ∀ {vs : List Value} {xs : List SV}, constL vs = some xs → SV.names.namesL xs = []
  | [], xs, h => by injection h with h; subst h; rfl
  | v :: vs, xs, h => by
    unfold constL at h
    split at h
    · rename_i y ys hy hys
      injection h with h
      subst h
      unfold SV.names.namesL
      rw [constSV_names hy, constL_names hys]
      rfl
    · cases h
theorem ev_names {x : Operand} {v : SV} (h : ev σ x = some v) : ∀ d ∈ v.names, d ∈ σ.names := by
  cases x with
  | tmp t => exact fun d hd => List.mem_append_left _ (List.mem_flatMap.2 ⟨(t, v), mem_of_find h, hd⟩)
  | const u =>
    unfold ev at h
    cases u with
    | agg cs =>
      simp only [Option.map_eq_some_iff] at h
      obtain ⟨xs, h1, rfl⟩ := h
      intro d hd
      rw [SV.names, constL_names h1] at hd
      cases hd
    | _ =>
      intro d hd
      rw [constSV_names h] at hd
      cases hd
  | global g => cases h
  | func f => injection h with h; subst h; intro d hd; simp [SV.names, SV.names.namesL] at hd
theorem namesL_mem {cs : List SV} {d : Nat} (h : d ∈ SV.names.namesL cs) : ∃ c ∈ cs, d ∈ c.names := by
  induction cs with
  | nil => cases h
  | cons x xs ih =>
    unfold SV.names.namesL at h
    rcases List.mem_append.1 h with h | h
    · exact ⟨x, List.mem_cons_self, h⟩
    · obtain ⟨c, h1, h2⟩ := ih h
      exact ⟨c, List.mem_cons_of_mem _ h1, h2⟩
theorem cells_names {v : SV} {cs : List SV} (h : v.cells = some cs) : ∀ d ∈ SV.names.namesL cs, d ∈ v.names := by
  intro d hd
  cases v <;> simp only [SV.cells, Option.some.injEq, reduceCtorEq] at h <;> subst h
  case agg cs => exact hd
  all_goals
    obtain ⟨c, h1, h2⟩ := namesL_mem hd
    simp only [List.mem_singleton] at h1
    subst h1
    exact h2
/-- The slot d and a new object of that name. -/
def SS.add (σ : SS) (d : Nat) (v : SV) (x : SO) : SS := ({ σ with o := (d, x) :: σ.o } : SS).put d v
def AOk (P : Program) (c : Cx) (a : Act) (w : World) (o : Oper) (σ' : SS) : Prop := ∃ u w', (execOp a.eval o).run P w = .ok (.value u) w' ∧ RelE c σ' (a.put o.dst u) w' ∧ Grew (fun _ => False) w w'
/-- One new block of cells. -/
theorem AOk.block (hr : Rel c S β σ a w) {o : Oper} {d : Nat} (hd : o.dst = some d) (hn : d < σ.n) (hf : d ∉ σ.names) {v : SV} {x : SO} {cs : Array Value} {T : TypeId} {u : Value} (h1 : u.cells = #[u]) (hb : blkOf u = some w.heap.size)
    (hrun : (execOp a.eval o).run P w = .ok (.value u) (w.alloc (.cells cs T))) (hx : ∀ w', w'.heap[w.heap.size]? = some (.cells cs T (0, 0)) → (∀ b, S b → w'.heap[b]? = w.heap[b]?) → ObjR w' S (upd β d u) x u)
    (hv : ∀ w', SVr w' S (upd β d u) v u) : AOk P c a w o (σ.add d v x) := by
  have hg : Grew (fun _ => False) w (w.alloc (.cells cs T)) := Grew.alloc _ _ _
  have hr' := hr.world hg
  refine ⟨u, _, hrun, ⟨S, upd β d u, ?_⟩, hg⟩
  rw [hd]
  refine Rel.put (Rel.new hr' hf hn h1 (hx _ (heap_alloc_new _ _) fun b hb => hg.block b (hr.lt b hb) id) fun g hgg => ?_) hn (hv _)
  rw [hb] at hgg
  injection hgg with hgg
  subst hgg
  exact hr.fresh
theorem aop_box (hr : Rel c S β σ a w) {ν : SS} (hν : Rel c S β ν a w) (hsub : ∀ d ∈ ν.names, d ∈ σ.names) {o : Oper} {d e : Nat} {x : Operand} (hd : o.dst = some d) (hn : d < σ.n) (hf : d ∉ σ.names) (ho : o.op = .box e x) {v : SV} {y : SO} (h : aop tb ν d o.type (.box e x) = some (v, y)) : AOk P c a w o (σ.add d v y) := by
  simp only [aop] at h
  split at h
  · rename_i z hz
    split at h
    · rename_i cs hcs
      injection h with h
      injection h with h1 h2
      subst h1 h2
      obtain ⟨h3, h4⟩ := SV.cells_ok hr.one hcs (ev_ok hν hz)
      refine AOk.block hr hd hn hf (u := .pointer (some ⟨w.heap.size, 0, none⟩)) (cs := (a.eval x).cells) (T := e) rfl rfl (by simp [execOp, ho, Instr.box, newVar, newRow]) (fun w' hw hs => ?_) fun w' => .ref d 0 _ (upd_same ..)
      refine .box _ _ _ _ hw h3 fun j p q hp hq => ((h4 j p q hp hq).keep hs fun _ h => h).agree (upd_names β _ fun hm => hf ?_)
      exact hsub d (ev_names hz d (cells_names hcs d (SV.mem_namesL (List.mem_of_getElem? hp) hm)))
    · cases h
  · cases h
theorem aop_alloc (hP : TbOk P tb) (hr : Rel c S β σ a w) {ν : SS} {o : Oper} {d e : Nat} (hd : o.dst = some d) (hn : d < σ.n) (hf : d ∉ σ.names) (ho : o.op = .alloc e) {v : SV} {y : SO} (h : aop tb ν d o.type (.alloc e) = some (v, y)) : AOk P c a w o (σ.add d v y) := by
  simp only [aop] at h
  split at h
  · rename_i i hi
    split at h
    · rename_i zs hzs
      injection h with h
      injection h with h1 h2
      subst h1 h2
      obtain ⟨j, h3, _, _, h4⟩ := (find_ti hP hi).info'
      obtain ⟨z, h5, h6⟩ := h4 zs hzs
      obtain ⟨h7, h8⟩ := zvals_ok (w := w) (S := S) hzs
      have hsz : z.cells.size = zs.length := by rw [← h6]; simp
      refine AOk.block hr hd hn hf (u := .pointer (some ⟨w.heap.size, 0, none⟩)) (cs := z.cells) (T := e) rfl rfl ?_ (fun w' hw hs => ?_) fun w' => .ref d 0 _ (upd_same ..)
      · have hzr : (zeroValue e).run P w = .ok z w := by simp [zeroValue, typeInfo, h3, h5]
        simp only [execOp, ho, Instr.alloc, Sem.run_bind, hzr, Result.andThen_ok, newVar, newRow, run_newObj_alloc, Sem.run_pure]
      · refine .box _ _ _ _ hw (by simp [h7, hsz]) fun j p q hp hq => ?_
        rw [List.getElem?_map, Option.map_eq_some_iff] at hp
        obtain ⟨t, ht, rfl⟩ := hp
        exact .tr _ _ ((h8 j t q ht (by rw [← h6]; simpa using hq)).keep hs fun _ h => h)
    · cases h
  · cases h
theorem aop_nil (hP : TbOk P tb) (hr : Rel c S β σ a w) {ν : SS} {o : Oper} {d : Nat} (hd : o.dst = some d) (hn : d < σ.n) (hf : d ∉ σ.names) (ho : o.op = .assign (.const (.slice none 0 0))) {v : SV} {y : SO} (h : aop tb ν d o.type (.assign (.const (.slice none 0 0))) = some (v, y)) : AOk P c a w o (σ.add d v y) := by
  simp only [aop] at h
  split at h
  · split at h
    · split at h
      · injection h with h
        injection h with h1 h2
        subst h1 h2
        refine ⟨.slice none 0 0, w, by simp only [execOp, ho]; rfl, ⟨S, upd β d (.slice none 0 0), ?_⟩, Grew.refl _ _⟩
        rw [hd]
        refine Rel.put (Rel.new hr hf hn rfl (.arr _ _ 0 [] _ [] rfl (World.ownsRow_nil _ _ _ _) (by simp) (by simp)) fun g hg => by simp [blkOf] at hg) hn ?_
        have : SVr w S (upd β d (.slice none 0 0)) (.own d) (upd β d (.slice none 0 0) d) := .own d
        rwa [upd_same] at this
      · cases h
    · cases h
  · cases h
theorem partsS_ok (hr : Rel c S β σ a w) {m : Nat} : ∀ {k : Nat} {ps : List (Nat × Operand)} {es : List (List Tr)}, partsS σ m k ps = some es →
    ∃ vs : List Value, (ps.map fun (i, x) => (i, a.eval x)) = ((vs.zipIdx k).map fun x => (x.2, x.1)) ∧ vs.length = es.length ∧ (∀ v ∈ vs, v.cells.size = m) ∧ (∀ e ∈ es, e.length = m) ∧
      ∀ (i : Nat) e v, es[i]? = some e → vs[i]? = some v → ∀ (j : Nat) t u, e[j]? = some t → v.cells[j]? = some u → TV w S t u
  | k, [], es, h => by injection h with h; subst h; exact ⟨[], by simp, rfl, by simp, by simp, by simp⟩
  | k, (i, x) :: r, es, h => by
    simp only [partsS] at h
    split at h
    · rename_i hik
      have hik : i = k := by simpa using hik
      subst hik
      split at h
      · rename_i v hv
        split at h
        · rename_i cs hcs
          split at h
          · rename_i ts es' hts hes
            split at h
            · rename_i hm
              injection h with h
              subst h
              obtain ⟨vs, h1, h2, h3, h4, h5⟩ := partsS_ok hr hes
              obtain ⟨h6, h7⟩ := SV.cells_ok hr.one hcs (ev_ok hr hv)
              have hcs' := trs_ok hts
              have hm : ts.length = m := by simpa using hm
              subst hcs'
              simp only [List.length_map] at h6
              refine ⟨a.eval x :: vs, by simp [h1], by simp [h2], ?_, ?_, ?_⟩
              · intro y hy
                rcases List.mem_cons.1 hy with rfl | hy
                · omega
                · exact h3 y hy
              · intro y hy
                rcases List.mem_cons.1 hy with rfl | hy
                · exact hm
                · exact h4 y hy
              · intro p e y he hy j t u ht hu
                cases p with
                | zero =>
                  simp at he hy
                  subst he hy
                  have := h7 j (.tr t) u (by simp [ht]) hu
                  cases this with | tr _ _ q => exact q
                | succ p => exact h5 p e y (by simpa using he) (by simpa using hy) j t u ht hu
            · cases h
          · cases h
        · cases h
      · cases h
    · cases h
theorem flatlen {m : Nat} : ∀ {vs : List Value}, (∀ v ∈ vs, v.cells.size = m) → (vs.flatMap fun v => v.cells.toList).length = vs.length * m
  | [], _ => by simp
  | v :: vs, h => by
    rw [List.flatMap_cons, List.length_append, flatlen fun u hu => h u (List.mem_cons_of_mem _ hu), Array.length_toList, h v List.mem_cons_self, List.length_cons, Nat.add_mul]
    omega
theorem aop_buildSlice (hP : TbOk P tb) (hr : Rel c S β σ a w) {ν : SS} (hν : Rel c S β ν a w) (hsub : ∀ d ∈ ν.names, d ∈ σ.names) {o : Oper} {d t len : Nat} {ps : Array (Nat × Operand)} (hd : o.dst = some d) (hn : d < σ.n) (hf : d ∉ σ.names) (ho : o.op = .buildSlice t len ps) {v : SV} {y : SO} (h : aop tb ν d o.type (.buildSlice t len ps) = some (v, y)) : AOk P c a w o (σ.add d v y) := by
  simp only [aop] at h
  split at h
  · rename_i i hi
    split at h
    · rename_i e hdi
      split at h
      · rename_i j hj
        split at h
        · rename_i es zs hes hzs
          split at h
          · rename_i hh
            obtain ⟨hlen, hsm, hpos, hzl⟩ := hh
            injection h with h
            injection h with h1 h2
            subst h1 h2
            subst hlen
            obtain ⟨vs, g1, g2, g3, g4, g5⟩ := partsS_ok hν hes
            obtain ⟨q, h3, hsz, _, h4⟩ := (find_ti hP hj).info'
            obtain ⟨z, h5, h6⟩ := h4 zs hzs
            have hu : P.underlying t = some (.slice e) := by have := (find_ti hP hi).d; rw [hdi] at this; exact this
            have hzz : z.cells.size = j.size := by rw [← hzl, ← h6]; simp
            have hrow : ∀ g cur, w.heap.size = g → ∀ w' : World, w'.heap[g]? = some (.cells cur e (0, 0)) → cur.size = es.length * j.size → cur.toList = vs.flatMap (fun v => v.cells.toList) → es.length ≤ maxLen → (∀ b, S b → w'.heap[b]? = w.heap[b]?) → ObjR w' S (upd β d (.slice (some ⟨g, 0, none⟩) es.length es.length)) (.arr e j.size es.length es) (.slice (some ⟨g, 0, none⟩) es.length es.length) := by
              intro g cur _ w' hw hcs hcl hml hs
              refine .arr _ _ _ es _ cur.toList rfl ⟨by rw [Array.length_toList, hcs], .inr ⟨g, _, cur, rfl, Nat.zero_le _, hw, Nat.le_refl _, hml, hcs, by rw [← hcs, ← Array.length_toList, List.take_length]⟩⟩ g4 fun i x k t u hi hk hu => ?_
              rw [hcl, Go.Great.flat_get hpos vs g3] at hu
              have hkl : k < j.size := by rw [← g4 x (List.mem_of_getElem? hi)]; exact (List.getElem?_eq_some_iff.1 hk).1
              rw [show (i * j.size + k) / j.size = i from by rw [Nat.mul_comm, Nat.mul_add_div hpos, Nat.div_eq_of_lt hkl, Nat.add_zero], show (i * j.size + k) % j.size = k from by rw [Nat.mul_comm, Nat.mul_add_mod, Nat.mod_eq_of_lt hkl]] at hu
              rw [Option.bind_eq_some_iff] at hu
              obtain ⟨v', hv', hu⟩ := hu
              exact (g5 i x v' hi hv' k t u hk hu).keep hs fun _ h => h
            have hml : es.length ≤ maxLen := by
              have : es.length ≤ es.length * j.size := Nat.le_mul_of_pos_right _ hpos
              simp only [maxLen]
              omega
            by_cases h0 : es.length * j.size = 0
            · have hes0 : es.length = 0 := by rcases Nat.mul_eq_zero.1 h0 with h | h <;> omega
              have hvs0 : vs = [] := List.eq_nil_of_length_eq_zero (by omega)
              have hps0 : ps = #[] := by
                subst hvs0
                have : ps.toList = [] := by simpa using g1
                simpa using this
              subst hvs0
              subst hps0
              refine AOk.block hr hd hn hf (u := .slice (some ⟨w.heap.size, 0, none⟩) es.length es.length) (cs := #[]) (T := e) rfl rfl ?_ (fun w' hw hs => hrow _ _ rfl w' hw (by simp [h0]) (by simp) hml hs) fun w' => ?_
              · rw [execOp, ho]
                simp only [Instr.buildSlice, Sem.run_bind, run_underlying hu, Result.andThen_ok, (find_ti hP hj).size, h0, newRow, run_newObj_alloc, Sem.run_pure]
                simp [Instr.fill, newRow, hes0]
                rw [show (Array.range 0) = #[] from rfl, Array.map_empty]
              · have : SVr w' S (upd β d (.slice (some ⟨w.heap.size, 0, none⟩) es.length es.length)) (.own d) (upd β d (.slice (some ⟨w.heap.size, 0, none⟩) es.length es.length) d) := .own d
                rwa [upd_same] at this
            · have hps : (ps.map fun (i, x) => (i, a.eval x)).toList = (vs.zipIdx 0).map fun x => (x.2, x.1) := by rw [Array.toList_map]; exact g1
              have hwh := Go.Great.fill_whole hpos vs ((Array.range (es.length * q.size)).map (z.cells[· % z.cells.size]!)) g3 (by simp [g2, hsz])
              have hb := run_buildSlice (P := P) w t e es.length (ps.map fun (i, x) => (i, a.eval x)) _ q z hu h3 h5 (by rw [hsz]; omega) (by rw [hsz]; exact h0) (by rw [hps, hsz]; rw [hsz] at hwh; exact hwh)
              refine AOk.block hr hd hn hf (u := .slice (some ⟨w.heap.size, 0, none⟩) es.length es.length) (cs := (vs.flatMap fun v => v.cells.toList).toArray) (T := e) rfl rfl ?_ (fun w' hw hs => hrow _ _ rfl w' hw ?_ rfl hml hs) fun w' => ?_
              · rw [execOp, ho]
                simp only [Sem.run_bind, hb, Result.andThen_ok, Sem.run_pure]
              · rw [List.size_toArray, flatlen g3, g2]
              · have : SVr w' S (upd β d (.slice (some ⟨w.heap.size, 0, none⟩) es.length es.length)) (.own d) (upd β d (.slice (some ⟨w.heap.size, 0, none⟩) es.length es.length) d) := .own d
                rwa [upd_same] at this
          · cases h
        · cases h
      · cases h
    · cases h
  · cases h
theorem aop_ok (hP : TbOk P tb) (hr : Rel c S β σ a w) {ν : SS} (hν : Rel c S β ν a w) (hsub : ∀ d ∈ ν.names, d ∈ σ.names) {o : Oper} {d : Nat} (hd : o.dst = some d) (hn : d < σ.n) (hf : d ∉ σ.names) {v : SV} {y : SO} (h : aop tb ν d o.type o.op = some (v, y)) : AOk P c a w o (σ.add d v y) := by
  cases ho : o.op
  case box => rw [ho] at h; exact aop_box hr hν hsub hd hn hf ho h
  case alloc => rw [ho] at h; exact aop_alloc hP hr hd hn hf ho h
  case buildSlice => rw [ho] at h; exact aop_buildSlice hP hr hν hsub hd hn hf ho h
  case assign x =>
    have hx : x = .const (.slice none 0 0) := by
      rw [ho] at h
      unfold aop at h
      split at h <;> simp_all
    subst hx
    rw [ho] at h
    exact aop_nil hP hr hd hn hf ho h
  all_goals (rw [ho] at h; simp only [aop, reduceCtorEq] at h)
end
end Go.Proofs.Ytnnpmbcamnnfgaa.Sh
