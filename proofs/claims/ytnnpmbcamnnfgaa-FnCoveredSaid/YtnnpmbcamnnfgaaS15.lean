/- Steps that write: a store, an append; what may be handed over for good; new names. -/
import Derived.Test.YtnnpmbcamnnfgaaS14
namespace Go.Proofs.Ytnnpmbcamnnfgaa.Sh
open Go.RowKit
/-- An operation of its own, in the text's order. -/
def EStep (P : Program) (ops : Array Oper) (o : Oper) (σ σ' : SS) : Prop := ∀ c a w, RelE c σ a w → OpDo P ops o a w fun a' w' => RelE c σ' a' w'
section
variable {P : Program} {tb : Tb} {ops : Array Oper} {o : Oper} {c : Cx} {S : Nat → Prop} {β : Nat → Value} {σ : SS} {a : Act} {w : World}
theorem SRun.estep {rest : List Oper} {Q : SS → Prop} {σ σ' : SS} (h : EStep P ops o σ σ') (k : SRun P ops rest Q σ') : SRun P ops (o :: rest) Q σ := fun c a w hr => (h c a w hr).list fun a' w' hr' => k c a' w' hr'
theorem SRun.lstep {rest : List Oper} {Q : SS → Prop} {σ : SS} {r : RV} (h : LStep P ops o σ r) (hf : freshB r o.dst σ = true) (k : SRun P ops rest Q (σ.app o.dst r)) : SRun P ops (o :: rest) Q σ := SRun.step h (freshB_ok hf) k
/-- One own object has changed, in its place. -/
theorem Rel.touch (hr : Rel c S β σ a w) {d g : Nat} {x x' : SO} (hd : (d, x) ∈ σ.o) (hg : blkOf (β d) = some g) {w' : World} (hos : w'.os = w.os) (htp : w'.tape = w.tape) (hou : w'.output = w.output) (hsz : w.heap.size ≤ w'.heap.size) (hoth : ∀ k, k < w.heap.size → k ≠ g → w'.heap[k]? = w.heap[k]?)
    (hx : ObjR w' S β x' (β d)) : Rel c S β { σ with o := (d, x') :: σ.o.filter (fun p => p.1 != d) } a w' := by
  have hpr := hr.priv d x g hd hg
  have hS : ∀ b, S b → w'.heap[b]? = w.heap[b]? := fun b hb => hoth b (hr.lt b hb) fun e => hpr.1 (e ▸ hb)
  have hmem : ∀ {k y}, (k, y) ∈ (d, x') :: σ.o.filter (fun p => p.1 != d) → (k = d ∧ y = x') ∨ ((k, y) ∈ σ.o ∧ k ≠ d) := by
    intro k y h
    rcases List.mem_cons.1 h with h | h
    · injection h with h1 h2
      exact .inl ⟨h1, h2⟩
    · have h2 := List.mem_filter.1 h
      exact .inr ⟨h2.1, by simpa using h2.2⟩
  refine ⟨hr.defers, hr.size, hr.one, hr.grew.of (Y := fun k => k = g) ⟨hos, htp, hou, hsz, fun k hk hne => hoth k hk hne⟩ (fun k hk hlt => ?_), hr.s0, hr.s1, fun b hb => Nat.lt_of_lt_of_le (hr.lt b hb) hsz, fun i y hi => ⟨(hr.tmp i y hi).1, (hr.tmp i y hi).2.keep hS fun _ h => h⟩, fun k y hk => ?_, fun j v hj => ⟨(hr.pin j v hj).1, fun y hy => ?_⟩, fun k y g' hk hg' => ?_, fun k y k' y' g' hk hk' hg' hg2 => ?_⟩
  · subst hk
    rcases hpr.2 with h | ⟨_, h⟩
    · omega
    · exact h
  · rcases hmem hk with ⟨rfl, rfl⟩ | ⟨h1, h2⟩
    · exact hx
    · refine (hr.obj k y h1).keep (fun b hb => ?_) fun _ h => h
      rcases hb with hb | hb
      · exact hS b hb
      · refine hoth b ((hr.obj k y h1).lt hb) fun e => h2 (hr.apart k y d x g h1 hd (e ▸ hb) hg)
  · rcases hmem hy with ⟨rfl, rfl⟩ | ⟨h1, h2⟩
    · exact (hr.pin j v hj).2 x hd
    · exact (hr.pin j v hj).2 y h1
  · rcases hmem hk with ⟨rfl, rfl⟩ | ⟨h1, h2⟩
    · exact hr.priv k x g' hd hg'
    · exact hr.priv k y g' h1 hg'
  · rcases hmem hk with ⟨rfl, rfl⟩ | ⟨h1, h2⟩ <;> rcases hmem hk' with ⟨rfl, rfl⟩ | ⟨h3, h4⟩
    · rfl
    · exact hr.apart k x k' y' g' hd h3 hg' hg2
    · exact hr.apart k y k' x g' h1 hd hg' hg2
    · exact hr.apart k y k' y' g' h1 h3 hg' hg2
/-- Values of one cell. -/
def cellOk (σ : SS) : SV → Bool
  | .tr _ | .ref _ _ | .eref _ _ _ _ | .ptr _ _ | .clo _ _ => true
  | .own d => match find d σ.o with
    | some (.arr ..) => true
    | _ => false
  | _ => false
theorem cellOk_ok (hr : Rel c S β σ a w) {x : SV} (h : cellOk σ x = true) {v : Value} (hv : SVr w S β x v) : v.oneCell' = true := by
  cases hv with
  | tr t v h => cases h <;> rfl
  | own d =>
    simp only [cellOk] at h
    split at h
    · rename_i e m n es hd
      have := hr.obj d _ (mem_of_find hd)
      cases this with
      | arr e m n es v xs hn hown he hh => rcases hown.2 with ⟨h1, _⟩ | ⟨g, cap, cur, h1, _⟩ <;> rw [h1] <;> rfl
    · cases h
  | agg => cases h
  | tup => cases h
  | _ => rfl
theorem estep_of {σ' : SS} (hgd : gd ops σ o = some true) (h : ∀ c S β a w, Rel c S β σ a w → o.wp P a w (fun a' w' => RelE c σ' a' w') NoQ) : EStep P ops o σ σ' := by
  intro c a w ⟨S, β, hr⟩
  unfold OpDo
  rw [gd_ok hr hgd, if_pos rfl]
  exact h c S β a w hr
theorem wp_skip' {w' : World} {K : Act → World → Prop} (h : (execOp a.eval o).run P w = .ok .skip w') (hk : K (a.put o.dst undef) w') : o.wp P a w K NoQ := by
  unfold Oper.wp
  rw [h]
  exact hk
/-- A store into a variable. -/
theorem estep_store (hP : TbOk P tb) {t : Nat} {x y : Operand} (ho : o.op = .store t x y) (hdst : o.dst = none) (hgd : gd ops σ o = some true) {ti : TI} {d k : Nat} {cs vs : List SV} {v : SV} (ht : find t tb = some ti) (hx : ev σ x = some (.ref d k)) (hob : find d σ.o = some (.box cs))
    (hy : ev σ y = some v) (hc : v.cells = some vs) (hone : vs.all (cellOk σ) = true) (hl : vs.length = ti.size) (hk : k + vs.length ≤ cs.length) :
    EStep P ops o σ { σ with o := (d, .box (cs.take k ++ vs ++ cs.drop (k + vs.length))) :: σ.o.filter (fun p => p.1 != d) } := by
  refine estep_of hgd fun c S β a w hr => ?_
  have hv := ev_ok hr hx
  have hw := ev_ok hr hy
  have hm := mem_of_find hob
  have hobj := hr.obj d _ hm
  generalize hy1 : a.eval x = y1 at hv
  generalize hbd : β d = bd at hobj
  cases hv with
  | ref d k g hg =>
    have : bd = .pointer (some ⟨g, 0, none⟩) := hbd.symm.trans hg
    subst this
    cases hobj with
    | box cs g us T hgg hln hh =>
      obtain ⟨h1, h2⟩ := SV.cells_ok hr.one hc hw
      have hfit : k + 0 + (a.eval y).cells.toList.length ≤ us.size := by rw [Array.length_toList, ← h1]; omega
      have h1c : ∀ u ∈ (a.eval y).cells.toList, u.oneCell' = true := by
        intro u hu
        obtain ⟨j, hj⟩ := List.mem_iff_getElem?.1 hu
        have hjl : j < vs.length := by rw [h1, ← Array.length_toList]; exact (List.getElem?_eq_some_iff.1 hj).1
        have hvj : vs[j]? = some vs[j] := List.getElem?_eq_getElem _
        exact cellOk_ok hr (List.all_eq_true.1 hone _ (List.mem_of_getElem? hvj)) (h2 j _ u hvj (by simpa using hj))
      have hst := run_storeCells_at P g k T (a.eval y).cells.toList 0 us w hgg hfit h1c
      rw [Nat.add_zero] at hst
      refine wp_skip' (w' := w.setRow g (us.toList.take k ++ (a.eval y).cells.toList ++ us.toList.drop (k + (a.eval y).cells.toList.length)).toArray) ?_ ?_
      · simp only [execOp, ho, Instr.storeAt, Instr.sureAddr, hy1, Sem.run_bind, Sem.run_pure, Result.andThen_ok, storeVar, (find_ti hP ht).size]
        rw [if_neg (by rw [← h1, hl]; simp)]
        simp only [hst, Result.andThen_ok, Sem.run_pure]
      · rw [hdst]
        refine ⟨S, β, Rel.touch (g := g) hr hm (by rw [hbd]; rfl) rfl rfl rfl (by simp) (fun q _ hq => setRow_other w g q _ hq) ?_⟩
        rw [hbd]
        refine .box _ g _ T (setRow_heap w g us _ T (0, 0) hgg) ?_ fun j p u hp hu => ?_
        · simp only [List.length_append, List.length_take, List.length_drop, List.size_toArray, Array.length_toList, ← h1]
          omega
        · have hkeep : ∀ {p u}, SVr w S β p u → SVr (w.setRow g (us.toList.take k ++ (a.eval y).cells.toList ++ us.toList.drop (k + (a.eval y).cells.toList.length)).toArray) S β p u := fun h => h.keep (fun b hb => setRow_other w g b _ fun e => (hr.priv d _ g hm (by rw [hbd]; rfl)).1 (e ▸ hb)) fun _ h => h
          rw [List.getElem?_toArray] at hu
          have hlk : (cs.take k).length = k := by rw [List.length_take]; omega
          have hlu : (us.toList.take k).length = k := by rw [List.length_take, Array.length_toList]; omega
          have hcl : (a.eval y).cells.toList.length = vs.length := by rw [Array.length_toList, ← h1]
          by_cases hj : j < k
          · rw [List.append_assoc, List.getElem?_append_left (by omega), List.getElem?_take_of_lt hj] at hp hu
            exact hkeep (hh j p u hp (by simpa using hu))
          · by_cases hj2 : j < k + vs.length
            · rw [List.append_assoc, List.getElem?_append_right (by omega), List.getElem?_append_left (by omega)] at hp hu
              rw [hlk] at hp
              rw [hlu] at hu
              exact hkeep (h2 (j - k) p u hp (by simpa using hu))
            · rw [List.getElem?_append_right (by rw [List.length_append]; omega), List.getElem?_drop, List.length_append] at hp hu
              rw [hlk, show k + vs.length + (j - (k + vs.length)) = j from by omega] at hp
              rw [hlu, hcl, show k + vs.length + (j - (k + vs.length)) = j from by omega] at hu
              exact hkeep (hh j p u hp (by simpa using hu))
/-- A store into an element of a slice of the frame's own. -/
theorem estep_store_own (hP : TbOk P tb) {t : Nat} {x y : Operand} (ho : o.op = .store t x y) (hdst : o.dst = none) (hgd : gd ops σ o = some true) {ti : TI} {d e m n i j : Nat} {es : List (List Tr)} {cs ts : List Tr} {v : SV} {vs : List SV} (ht : find t tb = some ti) (hx : ev σ x = some (.eref d m i j)) (hob : find d σ.o = some (.arr e m n es))
    (hy : ev σ y = some v) (hc : v.cells = some vs) (hts : trs vs = some ts) (hl : ts.length = ti.size) (hi : es[i]? = some cs) (hk : j + ts.length ≤ cs.length) {es' : List (List Tr)} (hes : es.set i (cs.take j ++ ts ++ cs.drop (j + ts.length)) = es') :
    EStep P ops o σ { σ with o := (d, .arr e m n es') :: σ.o.filter (fun p => p.1 != d) } := by
  refine estep_of hgd fun c S β a w hr => ?_
  have hv := ev_ok hr hx
  have hw := ev_ok hr hy
  have hm := mem_of_find hob
  have hobj := hr.obj d _ hm
  generalize hy1 : a.eval x = y1 at hv
  generalize hbd : β d = bd at hobj
  have hvt := trs_ok hts
  subst hvt
  subst hes
  cases hv with
  | eref d m i j g n' cp hg =>
    have : bd = .slice (some ⟨g, 0, none⟩) n' cp := hbd.symm.trans hg
    subst this
    cases hobj with
    | arr e m n es v xs hn hown hes hh =>
      obtain ⟨h1, h2⟩ := SV.cells_ok hr.one hc hw
      simp only [List.length_map] at h1
      rcases hown.2 with ⟨h3, _⟩ | ⟨g', cap, cur, h3, _, hgg, hnc, hcm, hcs, htk⟩
      · cases h3
      · injection h3 with h3 h4 h5
        injection h3 with h3
        injection h3 with h3
        subst h3 h4 h5
        have hlt := (List.getElem?_eq_some_iff.1 hi).1
        have hcsl := hes cs (List.mem_of_getElem? hi)
        have hcl : (a.eval y).cells.toList.length = ts.length := by rw [Array.length_toList, ← h1]
        have hin : (i + 1) * m ≤ n' * m := Nat.mul_le_mul_right _ (by omega)
        have hnc' : n' * m ≤ cp * m := Nat.mul_le_mul_right _ hnc
        rw [Nat.add_mul] at hin
        have hfit : i * m + j + 0 + (a.eval y).cells.toList.length ≤ cur.size := by rw [hcl, hcs]; omega
        have h1c : ∀ u ∈ (a.eval y).cells.toList, u.oneCell' = true := by
          intro u hu
          obtain ⟨q, hq⟩ := List.mem_iff_getElem?.1 hu
          have hql : q < ts.length := by rw [← hcl]; exact (List.getElem?_eq_some_iff.1 hq).1
          have := h2 q (.tr ts[q]) u (by simp [hql]) (by simpa using hq)
          generalize ts[q] = tq at this
          cases this with | tr _ _ h => cases h <;> rfl
        have hst := run_storeCells_at P g (i * m + j) e (a.eval y).cells.toList 0 cur w hgg hfit h1c
        rw [Nat.add_zero, hcl] at hst
        refine wp_skip' (w' := w.setRow g (cur.toList.take (i * m + j) ++ (a.eval y).cells.toList ++ cur.toList.drop (i * m + j + ts.length)).toArray) ?_ ?_
        · simp only [execOp, ho, Instr.storeAt, Instr.sureAddr, hy1, Sem.run_bind, Sem.run_pure, Result.andThen_ok, storeVar, (find_ti hP ht).size]
          rw [if_neg (by rw [← h1, hl]; simp)]
          simp only [hst, Result.andThen_ok, Sem.run_pure]
        · rw [hdst]
          refine ⟨S, β, Rel.touch (g := g) hr hm (by rw [hbd]; rfl) rfl rfl rfl (by simp) (fun q _ hq => setRow_other w g q _ hq) ?_⟩
          rw [hbd]
          have hxl : xs.length = n' * m := hown.1
          have hlen : (cur.toList.take (i * m + j) ++ (a.eval y).cells.toList ++ cur.toList.drop (i * m + j + ts.length)).length = cur.size := by
            simp only [List.length_append, List.length_take, List.length_drop, Array.length_toList, ← h1]
            omega
          have hnew : ∀ q, (cur.toList.take (i * m + j) ++ (a.eval y).cells.toList ++ cur.toList.drop (i * m + j + ts.length))[q]? = if i * m + j ≤ q ∧ q < i * m + j + ts.length then (a.eval y).cells.toList[q - (i * m + j)]? else cur.toList[q]? := by
            intro q
            have hlu : (cur.toList.take (i * m + j)).length = i * m + j := by rw [List.length_take, Array.length_toList]; omega
            by_cases hq : q < i * m + j
            · rw [if_neg (by omega), List.append_assoc, List.getElem?_append_left (by omega), List.getElem?_take_of_lt hq]
            · by_cases hq2 : q < i * m + j + ts.length
              · rw [if_pos ⟨by omega, hq2⟩, List.append_assoc, List.getElem?_append_right (by omega), List.getElem?_append_left (by omega), hlu]
              · rw [if_neg (by omega), List.getElem?_append_right (by rw [List.length_append]; omega), List.getElem?_drop, List.length_append, hlu, hcl, show i * m + j + ts.length + (q - (i * m + j + ts.length)) = q from by omega]
          refine .arr e m n' _ _ ((cur.toList.take (i * m + j) ++ (a.eval y).cells.toList ++ cur.toList.drop (i * m + j + ts.length)).take (n' * m)) (by simp [hn]) ⟨by rw [List.length_take, hlen]; omega, .inr ⟨g, cp, _, rfl, Nat.zero_le _, setRow_heap w g cur _ e (0, 0) hgg, hnc, hcm, by rw [List.size_toArray, hlen, hcs], rfl⟩⟩ (fun x hx => ?_) fun i' x j' t u hi' hj' hu => ?_
          · rcases List.mem_or_eq_of_mem_set hx with hx | rfl
            · exact hes x hx
            · simp only [List.length_append, List.length_take, List.length_drop]
              omega
          · have hkeep : ∀ {p u}, TV w S p u → TV (w.setRow g (cur.toList.take (i * m + j) ++ (a.eval y).cells.toList ++ cur.toList.drop (i * m + j + ts.length)).toArray) S p u := fun h => h.keep (fun b hb => setRow_other w g b _ fun e => (hr.priv d _ g hm (by rw [hbd]; rfl)).1 (e ▸ hb)) fun _ h => h
            rw [List.getElem?_take] at hu
            split at hu
            · rename_i hq
              rw [hnew] at hu
              have hxs : ∀ q u, q < n' * m → cur.toList[q]? = some u → xs[q]? = some u := by
                intro q u hq hu
                rw [← htk, List.getElem?_take_of_lt hq]
                exact hu
              by_cases hii : i' = i
              · subst hii
                rw [List.getElem?_set_self (by omega)] at hi'
                injection hi' with hi'
                subst hi'
                have hlk : (cs.take j).length = j := by rw [List.length_take]; omega
                by_cases hj1 : j' < j
                · rw [if_neg (by omega)] at hu
                  rw [List.append_assoc, List.getElem?_append_left (by omega), List.getElem?_take_of_lt hj1] at hj'
                  exact hkeep (hh i' cs j' t u hi hj' (hxs _ _ hq hu))
                · by_cases hj2 : j' < j + ts.length
                  · rw [if_pos ⟨by omega, by omega⟩] at hu
                    rw [List.append_assoc, List.getElem?_append_right (by omega), List.getElem?_append_left (by omega), hlk] at hj'
                    have := h2 (j' - j) (.tr t) u (by simp [hj']) (by rw [← Array.getElem?_toList, ← hu]; congr 1; omega)
                    cases this with | tr _ _ h => exact hkeep h
                  · rw [if_neg (by omega)] at hu
                    rw [List.getElem?_append_right (by rw [List.length_append]; omega), List.getElem?_drop, List.length_append, hlk, show j + ts.length + (j' - (j + ts.length)) = j' from by omega] at hj'
                    exact hkeep (hh i' cs j' t u hi hj' (hxs _ _ hq hu))
              · rw [List.getElem?_set_ne (Ne.symm hii)] at hi'
                have hj'l : j' < m := by rw [← hes x (List.mem_of_getElem? hi')]; exact (List.getElem?_eq_some_iff.1 hj').1
                have hno : ¬ (i * m + j ≤ i' * m + j' ∧ i' * m + j' < i * m + j + ts.length) := by
                  rintro ⟨q1, q2⟩
                  rcases Nat.lt_or_gt_of_ne hii with h | h
                  · have : (i' + 1) * m ≤ i * m := Nat.mul_le_mul_right _ h
                    rw [Nat.add_mul] at this
                    omega
                  · have : (i + 1) * m ≤ i' * m := Nat.mul_le_mul_right _ h
                    rw [Nat.add_mul] at this
                    omega
                rw [if_neg hno] at hu
                exact hkeep (hh i' x j' t u hi' hj' (hxs _ _ hq hu))
            · cases hu
end
end Go.Proofs.Ytnnpmbcamnnfgaa.Sh
