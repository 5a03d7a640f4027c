/- Steps that want a fact: indices, parts, sums of strings, made slices. -/
import Derived.Test.YtnnpmbcamnnfgaaS13
namespace Go.Proofs.Ytnnpmbcamnnfgaa.Sh
open Go.RowKit
section
variable {P : Program} {tb : Tb} {ops : Array Oper} {o : Oper} {ν : SS}
theorem lstep_of_vok (hgd : gd ops ν o = some true) (hok : okd ν o = true) {v : SV} (h : ∀ c S β a w, Rel c S β ν a w → VOk P S β a w o v) : LStep P ops o ν (some (v, none)) := by
  intro σ c a w hs _ ⟨S, β, hr⟩
  have hν := hs.rel hr
  unfold OpDo
  rw [gd_ok hν hgd, if_pos rfl]
  obtain ⟨u, h1, h2⟩ := h c S β a w hν
  refine wp_value h1 ⟨S, β, ?_⟩
  cases hdst : o.dst with
  | none => exact hr
  | some d =>
    unfold okd at hok
    rw [hdst] at hok
    exact Rel.put hr (by rw [← hs.n]; simpa using hok) h2
theorem TIok.slice {t : Nat} {i : TI} (h : TIok P t i) {e : Nat} (hd : i.d = .slice e) : P.underlying t = some (.slice e) := by
  have := h.d; rw [hd] at this; exact this
theorem TIok.str {t : Nat} {i : TI} (h : TIok P t i) (hd : i.d = .str) : P.underlying t = some .string := by
  have := h.d; rw [hd] at this; exact this
/-- The element of a slice, by its address. -/
theorem lstep_index (hP : TbOk P tb) {t : Nat} {x y : Operand} (ho : o.op = .indexAddr t x y) (hgd : gd ops ν o = some true) (hok : okd ν o = true) {n e : Nat} {es : List (List Tr)} {k : IntKind} {i : Int} {ti tj : TI} {cs : List Tr}
    (ht : find t tb = some ti) (hd : ti.d = .slice e) (he : find e tb = some tj) (hx : ev ν x = some (.tr (.sl n es))) (hy : ev ν y = some (.tr (.int k i))) (h0 : 0 ≤ i) (hi : es[i.toNat]? = some cs) (hl : cs.length = tj.size) :
    LStep P ops o ν (some (.ptr (cs.map .tr) 0, none)) := by
  refine lstep_of_vok hgd hok fun c S β a w hr => ?_
  have hv := ev_ok hr hx
  have hw := ev_ok hr hy
  generalize hy1 : a.eval x = y1 at hv
  generalize hy2 : a.eval y = y2 at hw
  cases hw with
  | tr _ _ hw => cases hw with
    | int k i =>
      cases hv with
      | tr _ _ hv => cases hv with
        | sl es A n c m u hln hc hm hes hu ha =>
          have hlt := (List.getElem?_eq_some_iff.1 hi).1
          have hne : es ≠ [] := fun h => by subst h; simp at hi
          obtain ⟨b, off, rfl, hb, hcell⟩ := ha hne
          have hmm : m = tj.size := by rw [← hl]; exact (hes cs (List.mem_of_getElem? hi)).symm
          have hu' := (find_ti hP ht).slice hd
          refine .mk (s := Instr.indexAt t (a.eval x) (a.eval y)) (by simp only [execOp, ho]) (u := .pointer (some ⟨b, (off + i.toNat * m) + 0, none⟩)) ?_ ?_
          · rw [hy1, hy2]
            simp [Instr.indexAt, asIntOf, run_underlying hu', h0, show i < (n : Int) by omega, (find_ti hP he).size, Addr.add_lit, hmm]
          · refine .ptr _ 0 b (off + i.toNat * m) (fun j => u i.toNat j) hb (fun j z hz => ?_) fun j z hz => ?_
            · rw [List.getElem?_map, Option.map_eq_some_iff] at hz
              obtain ⟨q, hq, rfl⟩ := hz
              exact .tr _ _ (hu _ _ _ _ hi hq)
            · rw [List.getElem?_map, Option.map_eq_some_iff] at hz
              obtain ⟨q, hq, rfl⟩ := hz
              exact hcell _ _ _ _ hi hq
/-- The element of a slice of the frame's own. -/
theorem lstep_index_own (hP : TbOk P tb) {t : Nat} {x y : Operand} (ho : o.op = .indexAddr t x y) (hgd : gd ops ν o = some true) (hok : okd ν o = true) {n e e' d m : Nat} {es : List (List Tr)} {k : IntKind} {i : Int} {ti tj : TI}
    (ht : find t tb = some ti) (hd : ti.d = .slice e) (he : find e tb = some tj) (hx : ev ν x = some (.own d)) (hob : find d ν.o = some (.arr e' m n es)) (hy : ev ν y = some (.tr (.int k i))) (h0 : 0 ≤ i) (hi : i < n) (hl : m = tj.size) :
    LStep P ops o ν (some (.eref d m i.toNat 0, none)) := by
  refine lstep_of_vok hgd hok fun c S β a w hr => ?_
  have hv := ev_ok hr hx
  have hw := ev_ok hr hy
  generalize hy1 : a.eval x = y1 at hv
  generalize hy2 : a.eval y = y2 at hw
  have hobj := hr.obj d _ (mem_of_find hob)
  cases hw with
  | tr _ _ hw => cases hw with
    | int k i =>
      cases hv with
      | own d =>
        cases hobj with
        | arr e m n es v xs hn hown hes hh =>
          rcases hown.2 with ⟨h1, h2⟩ | ⟨g, cap, cur, h1, _⟩
          · omega
          · have hu' := (find_ti hP ht).slice hd
            refine .mk (s := Instr.indexAt t (a.eval x) (a.eval y)) (by simp only [execOp, ho]) (u := .pointer (some ⟨g, i.toNat * m + 0, none⟩)) ?_ (.eref d m i.toNat 0 g n cap h1)
            rw [hy1, hy2, h1]
            simp [Instr.indexAt, asIntOf, run_underlying hu', h0, hi, (find_ti hP he).size, Addr.add_lit, hl]
/-- Loading an element of the frame's own. -/
theorem lstep_load_own (hP : TbOk P tb) {t : Nat} {x : Operand} (ho : o.op = .load t x) (hgd : gd ops ν o = some true) (hok : okd ν o = true) {n e d m i j : Nat} {es : List (List Tr)} {ti : TI} {cs : List Tr} {v : SV}
    (ht : find t tb = some ti) (hx : ev ν x = some (.eref d m i j)) (hob : find d ν.o = some (.arr e m n es)) (hi : es[i]? = some cs) (hl : ldc ti (cs.map .tr) j = some v) : LStep P ops o ν (some (v, none)) := by
  refine lstep_of_vok hgd hok fun c S β a w hr => ?_
  have hv := ev_ok hr hx
  generalize hy1 : a.eval x = y1 at hv
  have hobj := hr.obj d _ (mem_of_find hob)
  cases hv with
  | eref d m i j g n' cp hg =>
    generalize hbd : β d = bd at hobj
    rw [hg] at hbd
    subst hbd
    cases hobj with
    | arr e m n es v xs hn hown hes hh =>
      have hlt := (List.getElem?_eq_some_iff.1 hi).1
      have hcs := hes cs (List.mem_of_getElem? hi)
      have hxs : ∀ k t, cs[k]? = some t → ∃ u, xs[i * m + k]? = some u := by
        intro k t hk
        have h2 := (List.getElem?_eq_some_iff.1 hk).1
        have h4 : (i + 1) * m ≤ n * m := Nat.mul_le_mul_right _ (by omega)
        rw [Nat.add_mul] at h4
        have := hown.1
        exact ⟨xs[i * m + k]'(by omega), List.getElem?_eq_getElem _⟩
      obtain ⟨r, h1, h2⟩ := ldc_ok (w := w) (S := S) (β := β) (g := g) (b := i * m) (o := j) (u := fun k => xs.getD (i * m + k) undef) (find_ti hP ht) (cs := cs.map .tr) (fun k z hz => by
          rw [List.getElem?_map, Option.map_eq_some_iff] at hz
          obtain ⟨q, hq, rfl⟩ := hz
          obtain ⟨u, hu⟩ := hxs k q hq
          rw [List.getD_eq_getElem?_getD, hu]
          exact .tr _ _ (hh i cs k q u hi hq hu)) (fun k z hz => by
          rw [List.getElem?_map, Option.map_eq_some_iff] at hz
          obtain ⟨q, hq, rfl⟩ := hz
          obtain ⟨u, hu⟩ := hxs k q hq
          have h7 := hown.cells (g := g) rfl (i * m + k) u hu
          rw [Addr.add_lit, Nat.zero_add] at h7
          rw [h7, List.getD_eq_getElem?_getD, hu]
          rfl) hl
      exact .mk (s := Instr.loadAt t (a.eval x)) (by simp only [execOp, ho]) (by rw [hy1]; simp [Instr.loadAt, Instr.sureAddr, h1]) h2
def lowOf (ν : SS) : Option Operand → Option Int
  | none => some 0
  | some x => match ev ν x with
    | some (.tr (.int _ i)) => some i
    | _ => none
def highOf (ν : SS) (n : Nat) : Option Operand → Option Int
  | none => some n
  | some x => match ev ν x with
    | some (.tr (.int _ i)) => some i
    | _ => none
theorem run_bounds {c : Cx} {S : Nat → Prop} {β : Nat → Value} {a : Act} {w : World} (hr : Rel c S β ν a w) (isSl : Bool) {n cap : Nat} {lo hi : Option Operand} {l h : Int} (hlo : lowOf ν lo = some l) (hhi : highOf ν n hi = some h) (h0 : 0 ≤ l) (hlh : l ≤ h) (hn : h ≤ n) (hc : n ≤ cap) :
    (Instr.sliceBounds isSl n cap (lo.map a.eval) (hi.map a.eval) none).run P w = .ok (l.toNat, h.toNat, cap) w := by
  have h1 : ∀ x i, (match ev ν x with | some (.tr (.int _ i)) => some i | _ => none) = some i → ∃ k, a.eval x = .int k i := by
    intro x i hx
    split at hx
    · rename_i k i' he
      injection hx with hx
      subst hx
      have hv := ev_ok hr he
      generalize a.eval x = v at hv ⊢
      cases hv with | tr _ _ hv => cases hv; exact ⟨_, rfl⟩
    · cases hx
  have hh : ((match (hi.map a.eval) with
      | some v => Instr.sliceBound v cap (if isSl then .sliceAcap else .sliceAlen)
      | none => pure n : Sem Nat)).run P w = .ok h.toNat w := by
    cases hi with
    | none =>
      simp only [highOf, Option.some.injEq] at hhi
      subst hhi
      simp
    | some x =>
      obtain ⟨k, hk⟩ := h1 x h hhi
      simp only [Option.map_some, hk]
      exact run_sliceBound w k h cap _ (by omega) (by omega)
  have hl : ((match (lo.map a.eval) with
      | some v => Instr.sliceBound v h.toNat .sliceB
      | none => pure 0 : Sem Nat)).run P w = .ok l.toNat w := by
    cases lo with
    | none =>
      simp only [lowOf, Option.some.injEq] at hlo
      subst hlo
      simp
    | some x =>
      obtain ⟨k, hk⟩ := h1 x l hlo
      simp only [Option.map_some, hk]
      exact run_sliceBound w k l h.toNat _ h0 (by omega)
  unfold Instr.sliceBounds
  cases hi <;> cases lo <;> simp only [Option.map_none, Option.map_some, Sem.run_bind, Sem.run_pure, Result.andThen_ok, Option.isSome_none, Bool.false_eq_true, if_false] at hh hl ⊢ <;> (try rw [hh]) <;> (try simp only [Result.andThen_ok]) <;> (try rw [hl]) <;> simp_all
/-- A part of a slice. -/
theorem lstep_slice (hP : TbOk P tb) {t : Nat} {x : Operand} {lo hi : Option Operand} (ho : o.op = .slice t x lo hi none) (hgd : gd ops ν o = some true) (hok : okd ν o = true) {n e : Nat} {es es' : List (List Tr)} {l h : Int} {ti tj : TI}
    (ht : find t tb = some ti) (hd : ti.d = .slice e) (he : find e tb = some tj) (hx : ev ν x = some (.tr (.sl n es))) (hlo : lowOf ν lo = some l) (hhi : highOf ν n hi = some h) (h0 : 0 ≤ l) (hlh : l ≤ h) (hn : h ≤ n)
    (hes : (es.drop l.toNat).take (h.toNat - l.toNat) = es') (hsz : ∀ e ∈ es, e.length = tj.size) {k : Nat} (hk : k = h.toNat - l.toNat) : LStep P ops o ν (some (.tr (.sl k es'), none)) := by
  refine lstep_of_vok hgd hok fun c S β a w hr => ?_
  have hv := ev_ok hr hx
  generalize hy1 : a.eval x = y1 at hv
  cases hv with
  | tr _ _ hv => cases hv with
    | sl es A n cap m u hln hc hm hel hu ha =>
      have hb := run_bounds (P := P) hr true hlo hhi h0 hlh hn hc
      have hu' := (find_ti hP ht).slice hd
      have hget : ∀ (i : Nat) e, es'[i]? = some e → es[l.toNat + i]? = some e ∧ i < h.toNat - l.toNat := by
        intro i e hi
        rw [← hes, List.getElem?_take] at hi
        split at hi
        · exact ⟨by simpa using hi, by assumption⟩
        · cases hi
      refine .mk (s := Instr.sliceAt t (a.eval x) (lo.map a.eval) (hi.map a.eval) none) (by simp only [execOp, ho, Option.map_none]) (u := .slice (if cap = l.toNat then A else A.map (·.add (l.toNat * tj.size))) (h.toNat - l.toNat) (cap - l.toNat)) ?_ ?_
      · rw [hy1]
        simp only [Instr.sliceAt, Sem.run_bind, run_underlying hu', Result.andThen_ok, Instr.slice, hb, (find_ti hP he).size, Sem.run_pure]
      · subst hk
        refine .tr _ _ (.sl es' _ _ _ m (fun i j => u (l.toNat + i) j) (by rw [← hes, List.length_take, List.length_drop]; omega) (by omega) (by omega) (fun e' he' => ?_) (fun i e' j t hi hj => hu _ _ _ _ (hget i e' hi).1 hj) fun hne => ?_)
        · rw [← hes] at he'
          exact hel e' (List.mem_of_mem_drop (List.mem_of_mem_take he'))
        · have hes0 : es ≠ [] := fun h => by subst h; rw [← hes] at hne; simp at hne
          obtain ⟨b, off, rfl, hbS, hcell⟩ := ha hes0
          obtain ⟨e0, he0⟩ := List.exists_mem_of_ne_nil es hes0
          have hms : m = tj.size := by rw [← hel e0 he0, hsz e0 he0]
          have hlt : h.toNat - l.toNat ≠ 0 := fun h => by
            rw [← hes, h] at hne
            simp at hne
          refine ⟨b, off + l.toNat * m, ?_, hbS, fun i e' j t hi hj => ?_⟩
          · rw [if_neg (by omega), hms]
            simp [Addr.add_lit]
          · have := hcell (l.toNat + i) e' j t (hget i e' hi).1 hj
            rwa [show off + l.toNat * m + i * m + j = off + (l.toNat + i) * m + j from by rw [Nat.add_mul]; omega]
/-- A part of a string. -/
theorem lstep_slice_str (hP : TbOk P tb) {t : Nat} {x : Operand} {lo hi : Option Operand} (ho : o.op = .slice t x lo hi none) (hgd : gd ops ν o = some true) (hok : okd ν o = true) {s : ByteArray} {l h : Int} {ti : TI}
    (ht : find t tb = some ti) (hd : ti.d = .str) (hx : ev ν x = some (.tr (.str s))) (hlo : lowOf ν lo = some l) (hhi : highOf ν s.size hi = some h) (h0 : 0 ≤ l) (hlh : l ≤ h) (hn : h ≤ s.size) : LStep P ops o ν (some (.tr (.str (s.extract l.toNat h.toNat)), none)) := by
  refine lstep_of_vok hgd hok fun c S β a w hr => ?_
  have hv := ev_ok hr hx
  generalize hy1 : a.eval x = y1 at hv
  cases hv with
  | tr _ _ hv => cases hv with
    | str s hs =>
      have hb := run_bounds (P := P) hr false hlo hhi h0 hlh hn (Nat.le_refl _)
      have hu' := (find_ti hP ht).str hd
      refine .mk (s := Instr.sliceAt t (a.eval x) (lo.map a.eval) (hi.map a.eval) none) (by simp only [execOp, ho, Option.map_none]) (u := .string (s.extract l.toNat h.toNat)) ?_ (.tr _ _ (.str _ ?_))
      · rw [hy1]
        simp only [Instr.sliceAt, Sem.run_bind, run_underlying hu', Result.andThen_ok, Instr.slice, Option.isSome_none, Bool.false_eq_true, if_false, hb, Sem.run_pure]
      · have : (s.extract l.toNat h.toNat).size ≤ s.size := by
          rw [ByteArray.size_extract]
          omega
        omega
/-- A byte of a string. -/
theorem lstep_index_str (hP : TbOk P tb) {t : Nat} {x y : Operand} (ho : o.op = .index t x y) (hgd : gd ops ν o = some true) (hok : okd ν o = true) {s : ByteArray} {k : IntKind} {i : Int} {ti : TI} {b : UInt8}
    (ht : find t tb = some ti) (hd : ti.d = .str) (hx : ev ν x = some (.tr (.str s))) (hy : ev ν y = some (.tr (.int k i))) (h0 : 0 ≤ i) (hb : s[i.toNat]? = some b) : LStep P ops o ν (some (.tr (.int .u8 b.toNat), none)) := by
  refine lstep_of_vok hgd hok fun c S β a w hr => ?_
  have hv := ev_ok hr hx
  have hw := ev_ok hr hy
  generalize hy1 : a.eval x = y1 at hv
  generalize hy2 : a.eval y = y2 at hw
  cases hw with
  | tr _ _ hw => cases hw with
    | int k i => cases hv with
      | tr _ _ hv => cases hv with
        | str s hs =>
          refine .mk (s := Instr.index t (a.eval x) (a.eval y)) (by simp only [execOp, ho]) (u := .int .u8 b.toNat) ?_ (.tr _ _ (.int _ _))
          rw [hy1, hy2]
          simp [Instr.index, asIntOf, run_underlying ((find_ti hP ht).str hd), h0, hb]
/-- Strings joined. -/
theorem lstep_concat {t t' : Nat} {x y : Operand} (ho : o.op = .binOp .add t x y t') (hgd : gd ops ν o = some true) (hok : okd ν o = true) {s r : ByteArray} (hx : ev ν x = some (.tr (.str s))) (hy : ev ν y = some (.tr (.str r))) (hs : s.size + r.size ≤ 9223372036854775807) :
    LStep P ops o ν (some (.tr (.str (s ++ r)), none)) := by
  refine lstep_of_vok hgd hok fun c S β a w hr => ?_
  have hv := ev_ok hr hx
  have hw := ev_ok hr hy
  have he : execOp a.eval o = (do pure (.value (← (do eqGuard .add t x y (a.eval x) (a.eval y); binOp .add t (a.eval x) (a.eval y) : Sem Value)))) := by simp only [execOp, ho]
  generalize a.eval x = y1 at hv he
  generalize a.eval y = y2 at hw he
  cases hv with
  | tr _ _ hv => cases hv with
    | str s h1 => cases hw with
      | tr _ _ hw => cases hw with
        | str r h2 =>
          refine .mk he (u := .string (s ++ r)) ?_ (.tr _ _ (.str _ (by rw [ByteArray.size_append]; simp [maxLen]; omega)))
          have := run_string_add_sum (P := P) (w := w) s r hs
          simp [eqGuard, binOp, this]
/-- A made slice. -/
theorem lstep_make (hP : TbOk P tb) {t : Nat} {x y : Operand} {d : Nat} (ho : o.op = .makeSlice t x y) (hdst : o.dst = some d) (hgd : gd ops ν o = some true) (hok : okd ν o = true) {e : Nat} {k k' : IntKind} {n : Nat} {ti tj : TI} {zs : List Value}
    (ht : find t tb = some ti) (hd : ti.d = .slice e) (he : find e tb = some tj) (hz : zvals tj.zero = some zs) (hzl : tj.zero.length = tj.size) (hpos : 0 < tj.size) (hx : ev ν x = some (.tr (.int k n))) (hy : ev ν y = some (.tr (.int k' n))) (hn : n ≤ 68719476736) (hby : tj.bytes ≤ 2048) :
    LStep P ops o ν (some (.own d, some (.arr e tj.size n (List.replicate n tj.zero)))) := by
  intro σ c a w hs hf ⟨S, β, hr⟩
  have hν := hs.rel hr
  unfold OpDo
  rw [gd_ok hν hgd, if_pos rfl]
  have hv := ev_ok hν hx
  have hw := ev_ok hν hy
  generalize hy1 : a.eval x = y1 at hv
  generalize hy2 : a.eval y = y2 at hw
  cases hw with
  | tr _ _ hw => cases hw with
    | int k' i => cases hv with
      | tr _ _ hv => cases hv with
        | int k j =>
          obtain ⟨q, h1, h2, h3, h4⟩ := (find_ti hP he).info'
          obtain ⟨z, h5, h6⟩ := h4 zs hz
          obtain ⟨h7, h8⟩ := zvals_ok (w := w) (S := S) hz
          have hzs : z.cells.size = tj.size := by rw [← hzl, h7, ← h6]; simp
          have hnb : (q.bytes : Int) * n ≤ 281474976710656 := by
            have : q.bytes * n ≤ 2048 * 68719476736 := Nat.mul_le_mul (by omega) hn
            have h9 : ((q.bytes * n : Nat) : Int) ≤ 281474976710656 := by omega
            rwa [Int.natCast_mul] at h9
          have hrun := run_make (P := P) w t e q z ((find_ti hP ht).slice hd) h1 h5 k k' n n (by omega) (Int.le_refl _) hnb (by omega)
          simp only [Int.toNat_natCast] at hrun
          have hmk : (execOp a.eval o).run P w = .ok (.value (.slice (some ⟨w.heap.size, 0, none⟩) n n)) (w.alloc (.cells (madeCells z.cells (n * q.size)) e)) := by
            simp only [execOp, ho, hy1, hy2, Sem.run_bind, hrun, Result.andThen_ok, Sem.run_pure]
          have hmc : ∀ i, i < n * q.size → (madeCells z.cells (n * q.size))[i]? = z.cells[i % z.cells.size]? := by
            intro i hi
            have hzpos : 0 < z.cells.size := by omega
            have := Nat.mod_lt i hzpos
            simp [madeCells, hi, this]
          have hn63 : n ≤ maxLen := by simp [maxLen]; omega
          have hdn : d < σ.n := by
            unfold okd at hok
            rw [hdst] at hok
            rw [← hs.n]
            simpa using hok
          obtain ⟨u, w', g1, g2, _⟩ := AOk.block (o := o) hr hdst hdn (hf d hdst) (v := .own d) (x := .arr e tj.size n (List.replicate n tj.zero)) (u := .slice (some ⟨w.heap.size, 0, none⟩) n n) (cs := madeCells z.cells (n * q.size)) (T := e) rfl rfl hmk (fun w' hw' hs' => by
              refine .arr _ _ _ _ _ (madeCells z.cells (n * q.size)).toList (by simp) ⟨by rw [Array.length_toList, size_madeCells, h2], .inr ⟨w.heap.size, n, _, rfl, Nat.zero_le _, hw', Nat.le_refl _, hn63, by rw [size_madeCells, h2], by rw [List.take_of_length_le (by rw [Array.length_toList, size_madeCells, h2]; exact Nat.le_refl _)]⟩⟩ (fun x hx => by rw [List.eq_of_mem_replicate hx, hzl]) fun i x j' t u hi hj hu => ?_
              have hxz : x = tj.zero := List.eq_of_mem_replicate (List.mem_of_getElem? hi)
              subst hxz
              have hin : i < n := by simpa using (List.getElem?_eq_some_iff.1 hi).1
              have hjl : j' < tj.size := by rw [← hzl]; exact (List.getElem?_eq_some_iff.1 hj).1
              have hlt : i * tj.size + j' < n * q.size := by
                rw [h2]
                have : (i + 1) * tj.size ≤ n * tj.size := Nat.mul_le_mul_right _ (by omega)
                rw [Nat.add_mul] at this
                omega
              rw [Array.getElem?_toList, hmc _ hlt, hzs, Nat.mul_comm, Nat.mul_add_mod, Nat.mod_eq_of_lt hjl] at hu
              exact (h8 j' t u hj (by rw [← h6]; simpa using hu)).keep hs' fun _ h => h) (fun w' => by
              have : SVr w' S (upd β d (.slice (some ⟨w.heap.size, 0, none⟩) n n)) (.own d) (upd β d (.slice (some ⟨w.heap.size, 0, none⟩) n n) d) := .own d
              rwa [upd_same] at this)
          refine wp_value g1 ?_
          rw [hdst]
          rw [hdst] at g2
          exact g2
end
end Go.Proofs.Ytnnpmbcamnnfgaa.Sh
