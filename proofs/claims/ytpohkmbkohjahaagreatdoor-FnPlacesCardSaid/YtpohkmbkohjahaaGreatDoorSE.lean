/- Deep objects: inner slices taken out, elements stored, zeros made; no condition. -/
import Derived.Test.YtpohkmbkohjahaaGreatDoorSD
namespace Go.Proofs.YtpohkmbkohjahaaGreatDoor.Sh
open Go.RowKit
section
variable {P : Program} {tb : Tb} {ops : Array Oper} {o : Oper} {c : Cx} {S : Nat → Prop} {β : Nat → Value} {ν σ : SS} {a : Act} {w : World}
theorem lstep_index_deep (hP : TbOk P tb) {t : Nat} {x y : Operand} (ho : o.op = .indexAddr t x y) (hgd : gd ops ν o = some true) (hok : okd ν o = true) {n e e' d m : Nat} {ss : List Sh} {es : List (List Tr)} {k : IntKind} {i : Int} {ti tj : TI}
    (ht : find t tb = some ti) (hd : ti.d = .slice e) (he : find e tb = some tj) (hx : ev ν x = some (.own d)) (hob : find d ν.o = some (.deep e' m n ss es)) (hy : ev ν y = some (.tr (.int k i))) (h0 : 0 ≤ i) (hi : i < n) (hl : m = tj.size) :
    LStep P ops o ν (some (.eref d m i.toNat 0, none)) := by
  refine lstep_of_vok hgd hok fun c S β a w hr => ?_
  have hv := ev_ok hr hx
  have hw := ev_ok hr hy
  generalize hy1 : a.eval x = y1 at hv
  generalize hy2 : a.eval y = y2 at hw
  have hobj := hr.obj d _ (mem_of_find hob)
  cases hw with
  | tr _ _ hw => cases hw with
    | int k i =>
      cases hv with
      | own d =>
        cases hobj with
        | deep _ _ _ _ _ _ h =>
          obtain ⟨xs, hrow⟩ := h.row
          rcases hrow.hown.2 with ⟨h1, h2⟩ | ⟨g, cap, cur, h1, _⟩
          · omega
          · have hu' := (find_ti hP ht).slice hd
            refine .mk (s := Instr.indexAt t (a.eval x) (a.eval y)) (by simp only [execOp, ho]) (u := .pointer (some ⟨g, i.toNat * m + 0, none⟩)) ?_ (.eref d m i.toNat 0 g n cap h1)
            rw [hy1, hy2, h1]
            simp [Instr.indexAt, asIntOf, run_underlying hu', h0, hi, (find_ti hP he).size, Addr.add_lit, hl]
/-- One own object has changed in its place, and has taken up others' blocks. -/
theorem Rel.touch3 (hr : Rel c S β σ a w) {d g : Nat} {x x' : SO} (hd : (d, x) ∈ σ.o) (hg : x.foot w (β d) g) {w' : World} (hos : w'.os = w.os) (htp : w'.tape = w.tape) (hou : w'.output = w.output) (hsz : w.heap.size ≤ w'.heap.size) (hoth : ∀ k, k < w.heap.size → k ≠ g → w'.heap[k]? = w.heap[k]?)
    (hx : ObjR w' S β x' (β d)) {τ : SS} (hτ : Sub τ σ) (hft : ∀ g', x'.foot w' (β d) g' → x.foot w (β d) g' ∨ (¬ S g' ∧ d < σ.n ∧ c.w0.heap.size ≤ g' ∧ ∀ l z, (l, z) ∈ τ.o → l ≠ d → ¬ z.foot w (β l) g')) : Rel c S β { τ with o := (d, x') :: τ.o.filter (fun p => p.1 != d) } a w' := by
  have hpr := hr.priv d x g hd hg
  have hS : ∀ b, S b → w'.heap[b]? = w.heap[b]? := fun b hb => hoth b (hr.lt b hb) fun e => hpr.1 (e ▸ hb)
  have hmem : ∀ {k y}, (k, y) ∈ (d, x') :: τ.o.filter (fun p => p.1 != d) → (k = d ∧ y = x') ∨ ((k, y) ∈ σ.o ∧ k ≠ d ∧ (k, y) ∈ τ.o) := by
    intro k y h
    rcases List.mem_cons.1 h with h | h
    · injection h with h1 h2
      exact .inl ⟨h1, h2⟩
    · have h2 := List.mem_filter.1 h
      exact .inr ⟨hτ.o _ h2.1, by simpa using h2.2, h2.1⟩
  have hfo : ∀ {k y}, (k, y) ∈ σ.o → k ≠ d → ∀ b, y.foot w (β k) b → w'.heap[b]? = w.heap[b]? := fun {k y} h1 h2 b hb => hoth b ((hr.obj k y h1).lt hb) fun e => h2 (hr.apart k y d x g h1 hd (e ▸ hb) hg)
  have hff : ∀ {k y}, (k, y) ∈ σ.o → k ≠ d → ∀ {b}, y.foot w' (β k) b → y.foot w (β k) b := fun {k y} h1 h2 {b} hb => ((hr.obj k y h1).foot (hfo h1 h2)).1 hb
  refine ⟨hr.defers, hr.size.trans hτ.n.symm, hr.one, hr.grew.of (Y := fun k => k = g) ⟨hos, htp, hou, hsz, fun k hk hne => hoth k hk hne⟩ (fun k hk hlt => ?_), hr.s0, hr.s1, fun b hb => Nat.lt_of_lt_of_le (hr.lt b hb) hsz, fun i y hi => ⟨(hr.tmp i y (hτ.t _ hi)).1, (hr.tmp i y (hτ.t _ hi)).2.keep hS fun _ h => h⟩, fun k y hk => ?_, fun j v hj => ⟨hτ.n ▸ (hr.pin j v hj).1, fun y hy => ?_⟩, fun k y g' hk hg' => ?_, fun k y k' y' g' hk hk' hg' hg2 => ?_⟩
  · subst hk
    rcases hpr.2 with ⟨_, h⟩ | ⟨_, h⟩
    · omega
    · exact h
  · rcases hmem hk with ⟨rfl, rfl⟩ | ⟨h1, h2, _⟩
    · exact hx
    · refine (hr.obj k y h1).keep (fun b hb => ?_) fun _ h => h
      rcases hb with hb | hb
      · exact hS b hb
      · exact hfo h1 h2 b hb
  · rcases hmem hy with ⟨rfl, rfl⟩ | ⟨h1, h2, _⟩
    · exact (hr.pin j v hj).2 x hd
    · exact (hr.pin j v hj).2 y h1
  · show ¬ S g' ∧ (((k < τ.n ∨ 3000000 ≤ k) ∧ c.w0.heap.size ≤ g') ∨ (τ.n ≤ k ∧ c.X g'))
    rw [hτ.n]
    rcases hmem hk with ⟨rfl, rfl⟩ | ⟨h1, h2, _⟩
    · rcases hft g' hg' with h | ⟨h3, h4, h5, _⟩
      · exact hr.priv k x g' hd h
      · exact ⟨h3, .inl ⟨.inl h4, h5⟩⟩
    · exact hr.priv k y g' h1 (hff h1 h2 hg')
  · rcases hmem hk with ⟨rfl, rfl⟩ | ⟨h1, h2, h2'⟩ <;> rcases hmem hk' with ⟨rfl, rfl⟩ | ⟨h3, h4, h4'⟩
    · rfl
    · rcases hft g' hg' with h | ⟨_, _, _, h⟩
      · exact hr.apart k x k' y' g' hd h3 h (hff h3 h4 hg2)
      · exact (h k' y' h4' h4 (hff h3 h4 hg2)).elim
    · rcases hft g' hg2 with h | ⟨_, _, _, h⟩
      · exact hr.apart k y k' x g' h1 hd (hff h1 h2 hg') h
      · exact (h k y h2' h2 (hff h1 h2 hg')).elim
    · exact hr.apart k y k' y' g' h1 h3 (hff h1 h2 hg') (hff h3 h4 hg2)
/-- Cells stored into an element of a deep slice: their parts go over. -/
theorem estep_store_deep (hP : TbOk P tb) {t : Nat} {x y : Operand} (ho : o.op = .store t x y) (hdst : o.dst = none) (hgd : gd ops σ o = some true) {ti : TI} {d e m n i j : Nat} {ss ss2 : List Sh} {es : List (List Tr)} {cs ts : List Tr} {v : SV} {vs : List SV} {ds : List Nat}
    (ht : find t tb = some ti) (hx : ev σ x = some (.eref d m i j)) (hob : find d σ.o = some (.deep e m n ss es)) (hy : ev σ y = some v) (hc : v.cells = some vs) (hC : CellsD σ ss2 vs ts ds) (hss : (ss.drop j).take ss2.length = ss2) (hl : ts.length = ti.size) (hi : es[i]? = some cs) (hk : j + ts.length ≤ cs.length)
    (hdd : d ∉ ds) (hds : ds = [] ∨ d < σ.n) {es' : List (List Tr)} (hes : es.set i (cs.take j ++ ts ++ cs.drop (j + ts.length)) = es') :
    EStep P ops o σ { (σ.kills ds) with o := (d, .deep e m n ss es') :: (σ.kills ds).o.filter (fun p => p.1 != d) } := by
  refine estep_of hgd fun c S β a w hr => ?_
  have hv := ev_ok hr hx
  have hw := ev_ok hr hy
  have hm := mem_of_find hob
  have hobj := hr.obj d _ hm
  generalize hy1 : a.eval x = y1 at hv
  subst hes
  cases hv with
  | eref d m i j g n1 cp hg =>
    cases hobj with
    | deep _ _ _ _ _ _ h =>
    obtain ⟨xs, hrow⟩ := h.row
    rw [hg] at hrow
    obtain ⟨h1, h2⟩ := SV.cells_ok hr.one hc hw
    obtain ⟨l1, l2, f, f1, f2, f3⟩ := hC.parts
    rcases hrow.hown.2 with ⟨h3, _⟩ | ⟨g', cap, cur, h3, _, hgg, hnc, hcm, hcs, htk⟩
    · cases h3
    · injection h3 with h3 h4 h5
      injection h3 with h3
      injection h3 with h3
      subst h3 h4 h5
      have hgf : SO.foot w (.deep e m n1 ss es) (β d) g := foot_blk (by rw [hg]; rfl)
      have hlt := (List.getElem?_eq_some_iff.1 hi).1
      have hcsl := hrow.he cs (List.mem_of_getElem? hi)
      have hcl : (a.eval y).cells.toList.length = ts.length := by rw [Array.length_toList, ← h1, l2, l1]
      have hin : (i + 1) * m ≤ n1 * m := Nat.mul_le_mul_right _ (by have := hrow.hn; omega)
      have hnc' : n1 * m ≤ cp * m := Nat.mul_le_mul_right _ hnc
      rw [Nat.add_mul] at hin
      have hfit : i * m + j + 0 + (a.eval y).cells.toList.length ≤ cur.size := by rw [hcl, hcs]; omega
      -- the cells that are stored
      have cell : ∀ (q : Nat) s t u, ss2[q]? = some s → ts[q]? = some t → (a.eval y).cells.toList[q]? = some u → DV w s t u ∧ ∀ g, FP w s u g → ∃ d ∈ f q, ∃ y, (d, y) ∈ σ.o ∧ d < σ.n ∧ y.foot w (β d) g := by
        intro q s t u hs ht hu
        have hq := (List.getElem?_eq_some_iff.1 hs).1
        have hx : vs[q]? = some (vs[q]'(by omega)) := List.getElem?_eq_getElem _
        obtain ⟨k1, k2, k3⟩ := (f3 q s _ t hs hx ht).ok hr (h2 q _ u hx (by simpa using hu))
        refine ⟨k1, fun g hgg => ?_⟩
        obtain ⟨d, hd, y, hy, hfo⟩ := k3 g hgg
        exact ⟨d, hd, y, hy, k2 d hd, hfo⟩
      have cellg : ∀ (q : Nat) s t u, ss2[q]? = some s → ts[q]? = some t → (a.eval y).cells.toList[q]? = some u → ∀ b, FP w s u b → ¬ SO.foot w (.deep e m n1 ss es) (β d) b := by
        intro q s t u hs ht hu b hb hc
        obtain ⟨_, h⟩ := cell q s t u hs ht hu
        obtain ⟨d', hd', z, hz, _, hfo⟩ := h b hb
        have := hr.apart d' z d _ b hz hm hfo hc
        subst this
        exact hdd (f1 q d' hd')
      have h1c : ∀ u ∈ (a.eval y).cells.toList, u.oneCell' = true := by
        intro u hu
        obtain ⟨q, hq⟩ := List.mem_iff_getElem?.1 hu
        have hql : q < ts.length := by rw [← hcl]; exact (List.getElem?_eq_some_iff.1 hq).1
        exact dv_one (cell q _ _ u (List.getElem?_eq_getElem (by omega)) (List.getElem?_eq_getElem hql) hq).1
      have hst := run_storeCells_at P g (i * m + j) e (a.eval y).cells.toList 0 cur w hgg hfit h1c
      rw [Nat.add_zero, hcl] at hst
      refine wp_skip' (w' := w.setRow g (cur.toList.take (i * m + j) ++ (a.eval y).cells.toList ++ cur.toList.drop (i * m + j + ts.length)).toArray) ?_ ?_
      · simp only [execOp, ho, Instr.storeAt, Instr.sureAddr, hy1, Sem.run_bind, Sem.run_pure, Result.andThen_ok, storeVar, (find_ti hP ht).size]
        rw [if_neg (by rw [← hl, ← hcl, Array.length_toList]; simp)]
        simp only [hst, Result.andThen_ok]
      · rw [hdst]
        have hxl : xs.length = n1 * m := hrow.hown.1
        have hlen : (cur.toList.take (i * m + j) ++ (a.eval y).cells.toList ++ cur.toList.drop (i * m + j + ts.length)).length = cur.size := by
          simp only [List.length_append, List.length_take, List.length_drop, Array.length_toList]
          rw [Array.length_toList] at hcl
          omega
        have hnew : ∀ q, (cur.toList.take (i * m + j) ++ (a.eval y).cells.toList ++ cur.toList.drop (i * m + j + ts.length))[q]? = if i * m + j ≤ q ∧ q < i * m + j + ts.length then (a.eval y).cells.toList[q - (i * m + j)]? else cur.toList[q]? := by
          intro q
          have hlu : (cur.toList.take (i * m + j)).length = i * m + j := by rw [List.length_take, Array.length_toList]; omega
          by_cases hq : q < i * m + j
          · rw [if_neg (by omega), List.append_assoc, List.getElem?_append_left (by omega), List.getElem?_take_of_lt hq]
          · by_cases hq2 : q < i * m + j + ts.length
            · rw [if_pos ⟨by omega, hq2⟩, List.append_assoc, List.getElem?_append_right (by omega), List.getElem?_append_left (by omega), hlu]
            · rw [if_neg (by omega), List.getElem?_append_right (by rw [List.length_append]; omega), List.getElem?_drop, List.length_append, hlu, hcl, show i * m + j + ts.length + (q - (i * m + j + ts.length)) = q from by omega]
        generalize hrw : (cur.toList.take (i * m + j) ++ (a.eval y).cells.toList ++ cur.toList.drop (i * m + j + ts.length)) = row at hlen hnew
        generalize hw' : w.setRow g row.toArray = w'
        have hoth : ∀ q, q < w.heap.size → q ≠ g → w'.heap[q]? = w.heap[q]? := fun q _ hq => by rw [← hw']; exact setRow_other w g q _ hq
        have hkeep : ∀ {s t u}, DV w s t u → (∀ b, FP w s u b → b ≠ g) → DV w' s t u ∧ ∀ b, FP w' s u b ↔ FP w s u b := fun hd hb => hd.keep fun b hbb => hoth b (FP.lt hd hbb) (hb b hbb)
        have place : ∀ (i' j' : Nat) u, j' < m → (row.take (n1 * m))[i' * m + j']? = some u → ((i' = i ∧ j ≤ j' ∧ j' < j + ts.length) ∧ (a.eval y).cells.toList[j' - j]? = some u) ∨ (¬ (i' = i ∧ j ≤ j' ∧ j' < j + ts.length) ∧ xs[i' * m + j']? = some u) := by
          intro i' j' u hj' hu
          rw [List.getElem?_take] at hu
          split at hu
          · rename_i hq
            rw [hnew] at hu
            by_cases hin' : i' = i ∧ j ≤ j' ∧ j' < j + ts.length
            · refine .inl ⟨hin', ?_⟩
              obtain ⟨rfl, q1, q2⟩ := hin'
              rw [if_pos ⟨by omega, by omega⟩] at hu
              rw [← hu]
              congr 1
              omega
            · refine .inr ⟨hin', ?_⟩
              have hno : ¬ (i * m + j ≤ i' * m + j' ∧ i' * m + j' < i * m + j + ts.length) := by
                rintro ⟨q1, q2⟩
                rcases Nat.lt_trichotomy i' i with h | h | h
                · have : (i' + 1) * m ≤ i * m := Nat.mul_le_mul_right _ h
                  rw [Nat.add_mul] at this
                  omega
                · subst h
                  exact hin' ⟨rfl, by omega, by omega⟩
                · have : (i + 1) * m ≤ i' * m := Nat.mul_le_mul_right _ h
                  rw [Nat.add_mul] at this
                  omega
              rw [if_neg hno] at hu
              rw [← htk, List.getElem?_take_of_lt hq]
              exact hu
          · cases hu
        have sh2 : ∀ (j' : Nat) s, j ≤ j' → j' < j + ts.length → ss[j']? = some s → ss2[j' - j]? = some s := fun j' s q1 q2 hs => by
          rw [← hss, List.getElem?_take_of_lt (by omega), List.getElem?_drop, show j + (j' - j) = j' from by omega]
          exact hs
        have tsat : ∀ {q : Nat} {u}, (a.eval y).cells.toList[q]? = some u → ∃ t, ts[q]? = some t := fun {q u} h => ⟨_, List.getElem?_eq_getElem (by rw [← hcl]; exact (List.getElem?_eq_some_iff.1 h).1)⟩
        -- each place's value, and its blocks
        have at' : ∀ (i' j' : Nat) s u, j' < m → ss[j']? = some s → (row.take (n1 * m))[i' * m + j']? = some u → (∀ b, FP w' s u b ↔ FP w s u b) ∧ ∀ b, FP w s u b → b ≠ g := by
          intro i' j' s u hj' hs hu
          rcases place i' j' u hj' hu with ⟨⟨_, q1, q2⟩, hu'⟩ | ⟨_, hu'⟩
          · obtain ⟨t, htt⟩ := tsat hu'
            have k1 := (cell _ s t u (sh2 j' s q1 q2 hs) htt hu').1
            have k2 : ∀ b, FP w s u b → b ≠ g := fun b hb e => cellg _ s t u (sh2 j' s q1 q2 hs) htt hu' b hb (e ▸ hgf)
            exact ⟨(hkeep k1 k2).2, k2⟩
          · obtain ⟨_, s', x', t', hs', _, _, hd'⟩ := hrow.at hj' hu'
            rw [hs] at hs'
            injection hs' with hs'
            subst hs'
            have k2 : ∀ b, FP w s u b → b ≠ g := fun b hb e => hrow.hs i' j' s u b hj' hs hu' hb (by rw [e]; rfl)
            exact ⟨(hkeep hd' k2).2, k2⟩
        have hdrow : DRow w' e m ss n1 (es.set i (cs.take j ++ ts ++ cs.drop (j + ts.length))) (.slice (some ⟨g, 0, none⟩) n1 cp) (row.take (n1 * m)) := by
          refine ⟨by simp [hrow.hn], ⟨by rw [List.length_take, hlen]; omega, .inr ⟨g, cp, row.toArray, rfl, Nat.zero_le _, by rw [← hw']; exact setRow_heap w g cur _ e (0, 0) hgg, hnc, hcm, by rw [List.size_toArray, hlen, hcs], rfl⟩⟩, hrow.hc, fun x hx => ?_, fun i' x j' s t u hi' hs ht' hu => ?_, fun i' j' s u b hj' hs hu hb hbb => ?_, fun i' j' i2 j2 s s2 u u2 b hj' hj2 hs hs2 hu hu2 hb hb2 => ?_⟩
          · rcases List.mem_or_eq_of_mem_set hx with hx | rfl
            · exact hrow.he x hx
            · simp only [List.length_append, List.length_take, List.length_drop]
              omega
          · have hj' : j' < m := by rw [← hrow.hc]; exact (List.getElem?_eq_some_iff.1 hs).1
            have hlk : (cs.take j).length = j := by rw [List.length_take]; omega
            rcases place i' j' u hj' hu with ⟨⟨rfl, q1, q2⟩, hu'⟩ | ⟨hno, hu'⟩
            · rw [List.getElem?_set_self (by omega)] at hi'
              injection hi' with hi'
              subst hi'
              rw [List.append_assoc, List.getElem?_append_right (by omega), List.getElem?_append_left (by omega), hlk] at ht'
              have k1 := (cell _ s t u (sh2 j' s q1 q2 hs) ht' hu').1
              exact (hkeep k1 fun b hb e => cellg _ s t u (sh2 j' s q1 q2 hs) ht' hu' b hb (e ▸ hgf)).1
            · have hold : ∃ x0, es[i']? = some x0 ∧ x0[j']? = some t := by
                by_cases hii : i' = i
                · subst hii
                  rw [List.getElem?_set_self (by omega)] at hi'
                  injection hi' with hi'
                  subst hi'
                  refine ⟨cs, hi, ?_⟩
                  by_cases hj1 : j' < j
                  · rw [List.append_assoc, List.getElem?_append_left (by omega), List.getElem?_take_of_lt hj1] at ht'
                    exact ht'
                  · have hj2 : ¬ j' < j + ts.length := fun h => hno ⟨rfl, by omega, h⟩
                    rw [List.getElem?_append_right (by rw [List.length_append]; omega), List.getElem?_drop, List.length_append, hlk, show j + ts.length + (j' - (j + ts.length)) = j' from by omega] at ht'
                    exact ht'
                · rw [List.getElem?_set_ne (Ne.symm hii)] at hi'
                  exact ⟨x, hi', ht'⟩
              obtain ⟨x0, e1, e2⟩ := hold
              have k1 := hrow.h i' x0 j' s t u e1 hs e2 hu'
              exact (hkeep k1 fun b hb e => hrow.hs i' j' s u b hj' hs hu' hb (by rw [e]; rfl)).1
          · injection hbb with hbb
            have := at' i' j' s u hj' hs hu
            exact this.2 b ((this.1 b).1 hb) hbb.symm
          · have e1 := at' i' j' s u hj' hs hu
            have e2 := at' i2 j2 s2 u2 hj2 hs2 hu2
            have b1 := (e1.1 b).1 hb
            have b2 := (e2.1 b).1 hb2
            rcases place i' j' u hj' hu with ⟨⟨rfl, q1, q2⟩, hu'⟩ | ⟨hno, hu'⟩ <;> rcases place i2 j2 u2 hj2 hu2 with ⟨⟨hi2, q3, q4⟩, hu2'⟩ | ⟨hno2, hu2'⟩
            · obtain ⟨t, htt⟩ := tsat hu'
              obtain ⟨t2, htt2⟩ := tsat hu2'
              obtain ⟨d1, hd1, z1, hz1, _, hf1⟩ := (cell _ s t u (sh2 j' s q1 q2 hs) htt hu').2 b b1
              obtain ⟨d2, hd2, z2, hz2, _, hf2⟩ := (cell _ s2 t2 u2 (sh2 j2 s2 q3 q4 hs2) htt2 hu2').2 b b2
              have := hr.apart d1 z1 d2 z2 b hz1 hz2 hf1 hf2
              subst this
              refine ⟨hi2.symm, ?_⟩
              rcases Nat.decEq (j' - j) (j2 - j) with hne | he
              · exact (f2 _ _ hne d1 hd1 hd2).elim
              · omega
            · obtain ⟨t, htt⟩ := tsat hu'
              exact (cellg _ s t u (sh2 j' s q1 q2 hs) htt hu' b b1 (by rw [hg]; exact hrow.fp hj2 hs2 hu2' b2)).elim
            · obtain ⟨t2, htt2⟩ := tsat hu2'
              exact (cellg _ s2 t2 u2 (sh2 j2 s2 q3 q4 hs2) htt2 hu2' b b2 (by rw [hg]; exact hrow.fp hj' hs hu' b1)).elim
            · exact hrow.ha i' j' i2 j2 s s2 u u2 b hj' hj2 hs hs2 hu' hu2' b1 b2
        refine ⟨S, β, Rel.touch3 (g := g) hr hm hgf (by rw [← hw']; rfl) (by rw [← hw']; rfl) (by rw [← hw']; rfl) (by rw [← hw']; simp) hoth (by rw [hg]; exact .deep _ _ _ _ _ _ hdrow.dv) (Sub.kills ds σ) fun g' hg' => ?_⟩
        rw [hg] at hg'
        rcases hdrow.fp' hg' with h3 | ⟨i', j', s, u, hj', hs, hu, hf⟩
        · injection h3 with h3
          subst h3
          exact .inl hgf
        · have e1 := at' i' j' s u hj' hs hu
          have b1 := (e1.1 g').1 hf
          rcases place i' j' u hj' hu with ⟨⟨_, q1, q2⟩, hu'⟩ | ⟨hno, hu'⟩
          · obtain ⟨t, htt⟩ := tsat hu'
            obtain ⟨d1, hd1, z1, hz1, hn1, hf1⟩ := (cell _ s t u (sh2 j' s q1 q2 hs) htt hu').2 g' b1
            have hin' := f1 _ d1 hd1
            obtain ⟨p1, p2⟩ := hr.priv d1 z1 g' hz1 hf1
            refine .inr ⟨p1, hds.resolve_left fun e => ?_, p2.elim (fun h => h.2) (fun h => by omega), fun l z hl hld hlf => ?_⟩
            · rw [e] at hin'
              cases hin'
            · have := hr.apart l z d1 z1 g' (kills_o hl).1 hz1 hlf hf1
              exact (kills_o hl).2 (this ▸ hin')
          · exact .inl (by rw [hg]; exact hrow.fp hj' hs hu' b1)
/-- Zero cells, seen as own values of a shape. -/
inductive ZeroD : List Tr → List Sh → Prop
  | nil : ZeroD [] []
  | flat (t : Tr) (ts : List Tr) (ss : List Sh) (h : t.flat = true) (k : ZeroD ts ss) : ZeroD (t :: ts) (.flat :: ss)
  | sl (e m : Nat) (ss' : List Sh) (ts : List Tr) (ss : List Sh) (h : ss'.length = m) (k : ZeroD ts ss) : ZeroD (.sl 0 [] :: ts) (.sl e m ss' :: ss)
theorem ZeroD.ok {ts : List Tr} {ss : List Sh} (h : ZeroD ts ss) {vs : List Value} (hz : zvals ts = some vs) : ts.length = ss.length ∧ ∀ (j : Nat) s t v, ss[j]? = some s → ts[j]? = some t → vs[j]? = some v → (∀ w, DV w s t v) ∧ ∀ w g, ¬ FP w s v g := by
  induction h generalizing vs with
  | nil => exact ⟨rfl, by simp⟩
  | flat t ts ss h k ih =>
    unfold zvals at hz
    split at hz
    · rename_i v vs' hv hvs
      injection hz with hz
      subst hz
      obtain ⟨h1, h2⟩ := ih hvs
      refine ⟨by simp [h1], fun j s t' v' hs ht hv' => ?_⟩
      cases j with
      | zero =>
        simp at hs ht hv'
        subst hs ht hv'
        exact ⟨fun w => .flat _ _ h (zval_ok hv), fun w g hg => by cases hg⟩
      | succ j => exact h2 j s t' v' (by simpa using hs) (by simpa using ht) (by simpa using hv')
    · cases hz
  | sl e m ss' ts ss h k ih =>
    unfold zvals at hz
    split at hz
    · rename_i v vs' hv hvs
      injection hz with hz
      subst hz
      have hv2 : v = .slice none 0 0 := by simpa [Tr.zval] using hv.symm
      subst hv2
      obtain ⟨h1, h2⟩ := ih hvs
      refine ⟨by simp [h1], fun j s t' v' hs ht hv' => ?_⟩
      cases j with
      | zero =>
        simp at hs ht hv'
        subst hs ht hv'
        refine ⟨fun w => (DRow.nil (xs := []) ⟨by simp, .inl ⟨rfl, rfl⟩⟩ h).dv, fun w g hg => ?_⟩
        cases hg with
        | here _ _ _ _ _ hb => cases hb
      | succ j => exact h2 j s t' v' (by simpa using hs) (by simpa using ht) (by simpa using hv')
    · cases hz
end
section
variable {P : Program} {tb : Tb} {ops : Array Oper} {o : Oper} {ν σ : SS} {α : Type} {f : α → List Tr}
theorem cD_arr {d e m n : Nat} {es : List (List Tr)} {ss : List Sh} (hfl : FlatE es) (hf : find d σ.o = some (.arr e m n es) := by kernel_rfl) (hss : ss = List.replicate m .flat := by kernel_rfl) (hn : Nat.blt d σ.n = true := by kernel_rfl) : CellD σ (.sl e m ss) (.own d) (.sl n es) [d] := by
  subst hss
  exact .arr d e m n es hf hfl (by simpa using hn)
theorem x_index_deep {L : List α} {i : Int} {x : α} (hP : TbOk P tb) {t : Nat} {p q : Operand} (ho : o.op = .indexAddr t p q) {e e' d m : Nat} {k : IntKind} {ss : List Sh} {ti tj : TI} (h : at' L i = some x)
    (hgd : gd ops ν o = some true := by kernel_rfl) (hok : okd ν o = true := by kernel_rfl) (ht : find t tb = some ti := by kernel_rfl) (hd : ti.d = .slice e := by kernel_rfl) (he : find e tb = some tj := by kernel_rfl) (hx : ev ν p = some (.own d) := by kernel_rfl) (hob : find d ν.o = some (.deep e' m L.length ss (L.map f)) := by kernel_rfl) (hy : ev ν q = some (.tr (.int k i)) := by kernel_rfl) (hl : m = tj.size := by kernel_rfl) :
    LStep P ops o ν (some (.eref d m i.toNat 0, none)) := lstep_index_deep hP ho hgd hok ht hd he hx hob hy (at_some h).1 (by
      have h1 := at_some h
      have h2 := (List.getElem?_eq_some_iff.1 h1.2).1
      omega) hl
theorem x_store_deep {L : List α} {i : Int} {z x : α} (hP : TbOk P tb) {t : Nat} {p q : Operand} (ho : o.op = .store t p q) (hdst : o.dst = none) {ti : TI} {d e m j : Nat} {ss ss2 : List Sh} {ts : List Tr} {v : SV} {vs : List SV} {ds : List Nat} (h : at' L i = some z) (hC : CellsD σ ss2 vs ts ds)
    (hgd : gd ops σ o = some true := by kernel_rfl) (ht : find t tb = some ti := by kernel_rfl) (hx : ev σ p = some (.eref d m i.toNat j) := by kernel_rfl) (hob : find d σ.o = some (.deep e m L.length ss (L.map f)) := by kernel_rfl) (hy : ev σ q = some v := by kernel_rfl) (hc : v.cells = some vs := by kernel_rfl) (hss : (ss.drop j).take ss2.length = ss2 := by kernel_rfl) (hl : ts.length = ti.size := by kernel_rfl) (hk : Nat.ble (j + ts.length) (f z).length = true := by kernel_rfl) (hdd : ds.contains d = false := by kernel_rfl) (hds : (ds.isEmpty || Nat.blt d σ.n) = true := by kernel_rfl)
    (hes : (f z).take j ++ ts ++ (f z).drop (j + ts.length) = f x := by kernel_rfl) :
    EStep P ops o σ { (σ.kills ds) with o := (d, .deep e m (L.set i.toNat x).length ss ((L.set i.toNat x).map f)) :: (σ.kills ds).o.filter (fun p => p.1 != d) } := by
  rw [List.length_set]
  refine estep_store_deep hP ho hdst hgd ht hx hob hy hc hC hss hl (map_get f (at_some h).2) (by simpa using hk) (by simpa using hdd) (by simpa using hds) ?_
  rw [hes, List.map_set]
theorem x_build_deep (hP : TbOk P tb) {t : Nat} {x : Operand} {ps : Array (Nat × Operand)} (ho : o.op = .buildSlice t 1 ps) (hps : ps = #[(0, x)]) {d0 : Nat} (hdst : o.dst = some d0)
    {ti tj : TI} {zs : List Value} {e m : Nat} {v : SV} {cs : List SV} {ss : List Sh} {ts : List Tr} {ds : List Nat} (hC : CellsD σ ss cs ts ds)
    (hd0 : Nat.blt d0 σ.n = true := by kernel_rfl) (hgd : gd ops σ o = some true := by kernel_rfl) (ht : find t tb = some ti := by kernel_rfl) (hti : ti.d = .slice e := by kernel_rfl) (he : find e tb = some tj := by kernel_rfl) (hz : zvals tj.zero = some zs := by kernel_rfl) (hzl : zs.length = tj.size := by kernel_rfl) (hpos : Nat.blt 0 tj.size = true := by kernel_rfl) (hsm : Nat.ble tj.size 16777216 = true := by kernel_rfl) (hm : m = tj.size := by kernel_rfl)
    (hv : ev σ x = some v := by kernel_rfl) (hcs : v.cells = some cs := by kernel_rfl) (hl : ss.length = m := by kernel_rfl) (hf : (σ.kills ds).names.contains d0 = false := by kernel_rfl) :
    EStep P ops o σ ((σ.kills ds).add d0 (.own d0) (.deep e m 1 ss [ts])) :=
  estep_build_deep hP ho hps hdst (by simpa using hd0) hgd ht hti he hz hzl (by simpa using hpos) (by simpa using hsm) hm hv hcs hC hl (by simpa using hf)
theorem x_append_deep {L M R : List α} (h : app' L M = some R) (hP : TbOk P tb) {p q : Operand} {t : Nat} {args : Array Operand} {ts : Array TypeId} (ho : o.op = .call { callee := .builtin .append, args := args, argTypes := ts }) (hargs : args = #[p, q]) (hts : ts = #[t, t]) {d0 : Nat} (hdst : o.dst = some d0)
    {ti tj : TI} {zs : List Value} {e m d dx : Nat} {ss : List Sh}
    (hd0 : Nat.blt d0 σ.n = true := by kernel_rfl) (hgd : gd ops σ o = some true := by kernel_rfl) (ht : find t tb = some ti := by kernel_rfl) (hti : ti.d = .slice e := by kernel_rfl) (he : find e tb = some tj := by kernel_rfl) (hz : zvals tj.zero = some zs := by kernel_rfl) (hzl : tj.zero.length = tj.size := by kernel_rfl) (hpos : Nat.blt 0 tj.size = true := by kernel_rfl) (hm : m = tj.size := by kernel_rfl) (hby : Nat.ble tj.bytes 2048 = true := by kernel_rfl)
    (hs : ev σ p = some (.own d) := by kernel_rfl) (hdn : Nat.blt d σ.n = true := by kernel_rfl) (hob : find d σ.o = some (.deep e m L.length ss (L.map f)) := by kernel_rfl) (hx : ev σ q = some (.own dx) := by kernel_rfl) (hdxn : Nat.blt dx σ.n = true := by kernel_rfl) (hne : (dx != d) = true := by kernel_rfl) (hobx : find dx σ.o = some (.deep e m M.length ss (M.map f)) := by kernel_rfl) (hf : ((σ.kill d).kill dx).names.contains d0 = false := by kernel_rfl) :
    EStep P ops o σ (((σ.kill d).kill dx).add d0 (.own d0) (.deep e m R.length ss (R.map f))) := by
  obtain ⟨h1, rfl⟩ := app_some h
  rw [List.length_append, List.map_append]
  exact estep_append_deep hP ho hargs hts hdst (by simpa using hd0) hgd ht hti he hz hzl (by simpa using hpos) hm (by simpa using hby) hs (by simpa using hdn) hob hx (by simpa using hdxn) (by simpa using hne) hobx h1 rfl (by simpa using hf)
theorem Le.frzD' {σ : SS} {d e m n : Nat} {ss : List Sh} {es : List (List Tr)} (hd : Nat.blt d σ.n = true) (hf : find d σ.o = some (.deep e m n ss es)) : Le σ (σ.frz d n es) := Le.frzD (by simpa using hd) hf
end
section
variable {P : Program} {s : SS}
theorem finD {t : ResultVar} {d e m n : Nat} {ss : List Sh} {es : List (List Tr)} (h : Holds P s (.own d) t) (ho : find d s.o = some (.deep e m n ss es)) (hd : Nat.blt d s.n = true) {dep : Bool} : FinS P s dep t (.deep e m n ss es) := ⟨d, h, mem_of_find ho, by simpa using hd⟩
theorem finP {t : ResultVar} {d e m n : Nat} {es : List (List Tr)} (pre post : List SV) (h : Holds P s (.agg (pre ++ .own d :: post)) t) (ho : find d s.o = some (.arr e m n es)) (hfl : FlatE es) (h1 : SV.names.namesL pre = []) (h2 : SV.names.namesL post = []) (hf1 : SV.Flat.FlatL pre) (hf2 : SV.Flat.FlatL post) (hd : Nat.blt d s.n = true) {dep : Bool} : FinS P s dep t (.part pre post (.arr e m n es)) :=
  ⟨d, h, mem_of_find ho, h1, h2, .inr ⟨hf1, hf2⟩, .inr hfl, by simpa using hd⟩
end
end Go.Proofs.YtpohkmbkohjahaaGreatDoor.Sh
namespace Go.Proofs.YtpohkmbkohjahaaGreatDoor.Sh
open Go.RowKit
/-- An own slice whose elements' slices become something to read. -/
theorem Le.shal {σ : SS} {d e m n : Nat} {ss : List Sh} {es : List (List Tr)} (hd : Nat.blt d σ.n = true) (hf : find d σ.o = some (.deep e m n ss es)) : Le σ { σ with o := (d, .arr e m n es) :: σ.o.filter (fun p => p.1 != d) } := by
  have hd : d < σ.n := by simpa using hd
  intro c a w ⟨S, β, hr⟩
  have hmem := mem_of_find hf
  have hob := hr.obj d _ hmem
  cases hob with
  | deep _ _ _ _ _ _ hdv =>
  obtain ⟨xs, h1⟩ := hdv.row
  let S' : Nat → Prop := fun b => S b ∨ (FP w (.sl e m ss) (β d) b ∧ blkOf (β d) ≠ some b)
  have hS : ∀ b, S b → S' b := fun b hb => .inl hb
  have hpd := fun g hg => hr.priv d _ g hmem hg
  have ho : ∀ {k x}, (k, x) ∈ (d, SO.arr e m n es) :: σ.o.filter (fun p => p.1 != d) → (k = d ∧ x = .arr e m n es) ∨ ((k, x) ∈ σ.o ∧ k ≠ d) := by
    intro k x h
    rcases List.mem_cons.1 h with h | h
    · injection h with h2 h3
      exact .inl ⟨h2, h3⟩
    · have h2 := List.mem_filter.1 h
      exact .inr ⟨h2.1, by simpa using h2.2⟩
  refine ⟨S', β, hr.defers, hr.size, hr.one, hr.grew, fun b hb => .inl (hr.s0 b hb), fun b hb => ?_, fun b hb => ?_, fun i v hi => ⟨(hr.tmp i v hi).1, (hr.tmp i v hi).2.keep (fun _ _ => rfl) hS⟩, fun k x hk => ?_, fun j v hj => ⟨(hr.pin j v hj).1, fun x hx => ?_⟩, fun k x g hk hg => ?_, fun k x k' x' g hk hk' hg hg' => ?_⟩
  · rcases hb with hb | hb
    · exact hr.s1 b hb
    · rcases (hpd b hb.1).2 with ⟨_, h⟩ | ⟨h, _⟩
      · exact .inr h
      · omega
  · rcases hb with hb | hb
    · exact hr.lt b hb
    · exact (hr.obj d _ hmem).lt hb.1
  · rcases ho hk with ⟨rfl, rfl⟩ | ⟨hk, _⟩
    · refine .arr _ _ _ _ _ xs h1.hn h1.hown h1.he fun i x j t u hi hj hu => ?_
      have hjm : j < m := by rw [← h1.he x (List.mem_of_getElem? hi)]; exact (List.getElem?_eq_some_iff.1 hj).1
      have hs : ss[j]? = some (ss[j]'(by rw [h1.hc]; exact hjm)) := List.getElem?_eq_getElem _
      exact (h1.h i x j _ t u hi hs hj hu).tree fun g hg => .inr ⟨h1.fp hjm hs hu hg, h1.hs i j _ u g hjm hs hu hg⟩
    · exact (hr.obj k x hk).keep (fun _ _ => rfl) hS
  · rcases ho hx with ⟨rfl, rfl⟩ | ⟨hx, _⟩
    · exact (hr.pin _ v hj).2 _ hmem
    · exact (hr.pin j v hj).2 x hx
  · rcases ho hk with ⟨rfl, rfl⟩ | ⟨hk, hne⟩
    · have hg2 : blkOf (β k) = some g := hg
      obtain ⟨h3, h4⟩ := hpd g (.here _ _ _ _ _ hg2)
      refine ⟨fun hb => ?_, h4⟩
      rcases hb with hb | hb
      · exact h3 hb
      · exact hb.2 hg2
    · obtain ⟨h3, h4⟩ := hr.priv k x g hk hg
      refine ⟨fun hb => ?_, h4⟩
      rcases hb with hb | hb
      · exact h3 hb
      · exact hne (hr.apart k x d _ g hk hmem hg hb.1)
  · rcases ho hk with ⟨e1, e2⟩ | ⟨q1, _⟩ <;> rcases ho hk' with ⟨e3, e4⟩ | ⟨q3, _⟩
    · rw [e1, e3]
    · subst e1 e2
      exact hr.apart k _ k' x' g hmem q3 (.here _ _ _ _ _ hg) hg'
    · subst e3 e4
      exact hr.apart k x k' _ g q1 hmem hg (.here _ _ _ _ _ hg')
    · exact hr.apart k x k' x' g q1 q3 hg hg'
end Go.Proofs.YtpohkmbkohjahaaGreatDoor.Sh
