/- An append; objects handed over for good; new names; literals of structs. -/
import Derived.Test.YtnnpmbcamnnfgaaS15
namespace Go.Proofs.Ytnnpmbcamnnfgaa.Sh
open Go.RowKit
theorem own_blk {w : World} {base e m n : Nat} {v : Value} {xs : List Value} (h : w.ownsRow base e m v n xs) : v.ownBlock = blkOf v := by
  rcases h.2 with ⟨rfl, _⟩ | ⟨g, cap, cur, rfl, _⟩ <;> rfl
/-- Append: where the new slice lies. -/
theorem append_any {P : Program} (w : World) (t ty e : TypeId) (i : TypeInfo) (z : Value) (size bytes : Nat) (ht : P.underlying t = some (.slice e)) (hi : P.info? e = some i) (hz : i.zero = some z)
    (hsize : i.size = size) (hby : i.bytes = bytes) (hzs : z.cells.size = size) (hsz : 0 < size)
    (v : Value) (n : Nat) (xs : List Value) (hown : w.ownsRow 0 e size v n xs)
    (A : Option Addr) (m c : Nat) (news : List Value) (hA : A = none → m = 0) (hl : news.length = m * size) (hnews : ∀ a, A = some a → ∀ (j : Nat) u, news[j]? = some u → w.cell? (a.add j) = some u) (h1 : ∀ u ∈ news, u.oneCell' = true)
    (h63 : n + m ≤ maxLen) (hbytes : (n + m) * bytes ≤ 140737488355328) :
    ∃ v' w', (Builtin.append_ #[t, t] ty #[v, .slice A m c]).run P w = .ok v' w' ∧ w'.ownsRow 0 e size v' (n + m) (xs ++ news) ∧ w.grownBy w' v.ownBlock ∧
      ∀ g, blkOf v' = some g → blkOf v = some g ∨ w.heap.size ≤ g := by
  cases A with
  | none =>
    obtain rfl := hA rfl
    have : news = [] := List.eq_nil_of_length_eq_zero (by simpa using hl)
    subst this
    refine ⟨v, w, ?_, by simpa using hown, ⟨rfl, rfl, rfl, Nat.le_refl _, fun _ _ _ => rfl⟩, fun g hg => .inl hg⟩
    rcases hown.2 with ⟨rfl, rfl⟩ | ⟨g, cap, cur, rfl, _, _, hnc, _⟩
    · simp [Builtin.append_, run_underlying ht, sizeOf, typeInfo, hi, Builtin.lenOf, Builtin.firstCells]
    · simp [Builtin.append_, run_underlying ht, sizeOf, typeInfo, hi, Builtin.lenOf, Builtin.firstCells, hnc, storeCells]
  | some a =>
    have hn' := hnews a rfl
    obtain ⟨v', w', hr, ho, hg, _⟩ := run_append_own (P := P) w 0 t ty e i z size bytes ht hi hz hsize hby hzs hsz v n xs hown a m c news hl hn' h1 h63 hbytes (Nat.zero_le _)
    refine ⟨v', w', hr, ho, hg, fun g hgb => ?_⟩
    subst hsize hby
    have hsmall : n + m ≤ 9223372036854775807 := by simp only [maxLen] at h63; omega
    rcases hown.2 with ⟨rfl, rfl⟩ | ⟨g0, cap, cur, rfl, hbg, hgg, hnc, hcm, hcs, htake⟩
    · by_cases hm : m = 0
      · subst hm
        have : news = [] := List.eq_nil_of_length_eq_zero (by simpa using hl)
        subst this
        have h2 : (Builtin.append_ #[t, t] ty #[.slice none 0 0, .slice (some a) 0 c]).run P w = .ok (.slice none 0 0) w := by
          simp [Builtin.append_, run_underlying ht, sizeOf, typeInfo, hi, Builtin.lenOf, Builtin.firstCells, loadCells, loadCellsFrom]
        rw [hr] at h2
        injection h2 with h2
        subst h2
        simp [blkOf] at hgb
      · have h2 := run_append_nil (P := P) w t ty e i z ht hi hz a m c news hl hn' (by omega) (by omega) (by have hb := hbytes; simp only [Nat.zero_add] at hb; omega)
        rw [hr] at h2
        injection h2 with h2
        subst h2
        simp [blkOf] at hgb
        exact .inr (by omega)
    · by_cases hroom : n + m ≤ cap
      · have hfit : n * i.size + news.length ≤ cur.size := by rw [hl, hcs, ← Nat.add_mul]; exact Nat.mul_le_mul_right _ hroom
        have h2 := run_append_room (P := P) w t ty e i ht hi g0 n cap cur hgg a m c news hl hn' h1 hroom hfit
        rw [hr] at h2
        injection h2 with h2
        subst h2
        exact .inl hgb
      · have h2 := run_append_grow (P := P) w t ty e i z ht hi hz ⟨g0, 0, none⟩ n cap xs hown.1 (hown.cells (g := g0) rfl) a m c news hl hn' (by omega) (by omega) (growslice_fits (by omega) hbytes)
        rw [hr] at h2
        injection h2 with h2
        subst h2
        simp [blkOf] at hgb
        exact .inr (by omega)
def SS.kill (σ : SS) (d : Nat) : SS := ⟨σ.n, σ.t.filter (fun p => !p.2.names.contains d), σ.o.filter (fun p => p.1 != d && !p.2.names.contains d)⟩
section
variable {P : Program} {tb : Tb} {ops : Array Oper} {o : Oper} {c : Cx} {S : Nat → Prop} {β : Nat → Value} {σ : SS} {a : Act} {w : World}
theorem kill_o {σ : SS} {d k : Nat} {x : SO} (h : (k, x) ∈ (σ.kill d).o) : (k, x) ∈ σ.o ∧ k ≠ d := by
  have h2 := List.mem_filter.1 h
  simp only [Bool.and_eq_true, bne_iff_ne, ne_eq] at h2
  exact ⟨h2.1, h2.2.1⟩
theorem kill_t {σ : SS} {d : Nat} {p : Nat × SV} (h : p ∈ (σ.kill d).t) : p ∈ σ.t := (List.mem_filter.1 h).1
theorem Sub.kill (σ : SS) (d : Nat) : Sub (σ.kill d) σ := ⟨rfl, fun _ h => kill_t h, fun _ h => (kill_o h).1⟩
/-- What is read of a slice that is appended. -/
def Src (w : World) (S : Nat → Prop) (m : Nat) (v : Value) (k : Nat) (es : List (List Tr)) : Prop :=
  ∃ (A : Option Addr) (c : Nat) (news : List Value), v = .slice A k c ∧ (A = none → k = 0) ∧ news.length = k * m ∧ (∀ a, A = some a → ∀ (j : Nat) u, news[j]? = some u → w.cell? (a.add j) = some u) ∧ (∀ u ∈ news, u.oneCell' = true) ∧ es.length = k ∧ (∀ e ∈ es, e.length = m) ∧
    ∀ (i : Nat) e (j : Nat) t u, es[i]? = some e → e[j]? = some t → news[i * m + j]? = some u → TV w S t u
theorem tv_one {t : Tr} {u : Value} (h : TV w S t u) : u.oneCell' = true := by cases h <;> rfl
theorem src_tree {m : Nat} (hm : 0 < m) {k : Nat} {es : List (List Tr)} {v : Value} (h : TV w S (.sl k es) v) (he : ∀ e ∈ es, e.length = m) : Src w S m v k es := by
  cases h with
  | sl es A n cap m' u hln hc hmx hel hu ha =>
    subst hln
    by_cases hes : es = []
    · subst hes
      exact ⟨A, cap, [], rfl, fun hA => rfl, by simp, by simp, by simp, rfl, by simp, by simp⟩
    · obtain ⟨b, off, rfl, hb, hcell⟩ := ha hes
      obtain ⟨e0, he0⟩ := List.exists_mem_of_ne_nil es hes
      have hmm : m' = m := by rw [← hel e0 he0, he e0 he0]
      subst hmm
      have hidx : ∀ q, q < es.length * m' → ∃ e t, es[q / m']? = some e ∧ e[q % m']? = some t := by
        intro q hq
        have h1 : q / m' < es.length := Nat.div_lt_of_lt_mul (by rwa [Nat.mul_comm] at hq)
        have h2 := he es[q / m'] (List.getElem_mem _)
        have h3 : q % m' < (es[q / m']).length := by rw [h2]; exact Nat.mod_lt _ hm
        exact ⟨_, _, List.getElem?_eq_getElem h1, List.getElem?_eq_getElem h3⟩
      have hget : ∀ (q : Nat) x, ((List.range (es.length * m')).map fun q => u (q / m') (q % m'))[q]? = some x → q < es.length * m' ∧ x = u (q / m') (q % m') := by
        intro q x hq
        rw [List.getElem?_map, Option.map_eq_some_iff] at hq
        obtain ⟨r, h1, h2⟩ := hq
        have h3 := (List.getElem?_eq_some_iff.1 h1).1
        rw [List.length_range] at h3
        rw [List.getElem?_range h3] at h1
        injection h1 with h1
        subst h1
        exact ⟨h3, h2.symm⟩
      refine ⟨some ⟨b, off, none⟩, cap, (List.range (es.length * m')).map (fun q => u (q / m') (q % m')), rfl, by simp, by simp, fun x hx j y hy => ?_, fun x hx => ?_, rfl, he, fun i e j t x hi hj hx => ?_⟩
      · injection hx with hx
        subst hx
        obtain ⟨h1, rfl⟩ := hget j y hy
        obtain ⟨e, t, h2, h3⟩ := hidx j h1
        have := hcell _ _ _ _ h2 h3
        rw [Addr.add_lit]
        rwa [show off + j / m' * m' + j % m' = off + j from by have := Nat.div_add_mod j m'; rw [Nat.mul_comm] at this; omega] at this
      · obtain ⟨q, hq⟩ := List.mem_iff_getElem?.1 hx
        obtain ⟨h1, rfl⟩ := hget q x hq
        obtain ⟨e, t, h2, h3⟩ := hidx q h1
        exact tv_one (hu _ _ _ _ h2 h3)
      · obtain ⟨h1, rfl⟩ := hget _ x hx
        have hjl : j < m' := by rw [← he e (List.mem_of_getElem? hi)]; exact (List.getElem?_eq_some_iff.1 hj).1
        rw [show (i * m' + j) / m' = i from by rw [Nat.mul_comm, Nat.mul_add_div hm, Nat.div_eq_of_lt hjl, Nat.add_zero], show (i * m' + j) % m' = j from by rw [Nat.mul_comm, Nat.mul_add_mod, Nat.mod_eq_of_lt hjl]]
        exact hu i e j t hi hj
theorem src_own (hr : Rel c S β σ a w) {d e m k : Nat} {es : List (List Tr)} (hd : (d, SO.arr e m k es) ∈ σ.o) : Src w S m (β d) k es := by
  have ho := hr.obj d _ hd
  cases ho with
  | arr e m k es v xs hn hown he hh =>
    have hone : ∀ u ∈ xs, u.oneCell' = true := by
      intro u hu
      obtain ⟨q, hq⟩ := List.mem_iff_getElem?.1 hu
      have hql := (List.getElem?_eq_some_iff.1 hq).1
      have hl := hown.1
      have hmpos : 0 < m := by
        rcases Nat.eq_zero_or_pos m with h | h
        · subst h; simp at hl; subst hl; simp at hq
        · exact h
      have h1 : q / m < es.length := by rw [hn]; exact Nat.div_lt_of_lt_mul (by rw [Nat.mul_comm, ← hl]; exact hql)
      have h2 := he es[q / m] (List.getElem_mem _)
      have h3 : q % m < (es[q / m]).length := by rw [h2]; exact Nat.mod_lt _ hmpos
      refine tv_one (hh _ _ _ _ u (List.getElem?_eq_getElem h1) (List.getElem?_eq_getElem h3) ?_)
      rw [show q / m * m + q % m = q from by have := Nat.div_add_mod q m; rw [Nat.mul_comm] at this; exact this]
      exact hq
    rcases hown.2 with ⟨h1, h2⟩ | ⟨g, cap, cur, h1, _⟩
    · exact ⟨none, 0, xs, by rw [h1, h2], fun _ => h2, hown.1, by simp, hone, hn, he, hh⟩
    · exact ⟨_, cap, xs, h1, by simp, hown.1, fun a ha j u hu => by
        injection ha with ha
        subst ha
        exact hown.cells (g := g) (by rw [h1]; rfl) j u hu, hone, hn, he, hh⟩
/-- What the appended operand says. -/
def srcS (σ : SS) (m : Nat) (x : SV) (k : Nat) (es : List (List Tr)) : Prop := match x with
  | .own d => ∃ e, find d σ.o = some (.arr e m k es)
  | .tr t => t = .sl k es ∧ ∀ e ∈ es, e.length = m
  | _ => False
/-- out = append(out, xs..) -/
theorem estep_append (hP : TbOk P tb) {s x : Operand} {t : Nat} {args : Array Operand} {ts : Array TypeId} (ho : o.op = .call { callee := .builtin .append, args := args, argTypes := ts }) (hargs : args = #[s, x]) (hts : ts = #[t, t]) {d0 : Nat} (hdst : o.dst = some d0) (hd0 : d0 < σ.n) (hgd : gd ops σ o = some true)
    {ti tj : TI} {zs : List Value} {e m n k d : Nat} {es es2 es' : List (List Tr)} {xv : SV} (ht : find t tb = some ti) (hti : ti.d = .slice e) (he : find e tb = some tj) (hz : zvals tj.zero = some zs) (hzl : tj.zero.length = tj.size) (hpos : 0 < tj.size) (hm : m = tj.size) (hby : tj.bytes ≤ 2048)
    (hs : ev σ s = some (.own d)) (hdn : d < σ.n) (hob : find d σ.o = some (.arr e m n es)) (hx : ev σ x = some xv) (hsrc : srcS σ m xv k es2) (hlen : n + k ≤ 68719476736) (hes : es ++ es2 = es') (hf : d0 ∉ (σ.kill d).names) :
    EStep P ops o σ ((σ.kill d).add d0 (.own d0) (.arr e m (n + k) es')) := by
  subst hargs hts hm hes
  refine estep_of hgd fun c S β a w hr => ?_
  have hv := ev_ok hr hs
  have hxv := ev_ok hr hx
  have hmem := mem_of_find hob
  have hobj := hr.obj d _ hmem
  have hsr : Src w S tj.size (a.eval x) k es2 := by
    generalize a.eval x = y at hxv
    unfold srcS at hsrc
    split at hsrc
    · obtain ⟨e', hd'⟩ := hsrc
      cases hxv with | own d' => exact src_own hr (mem_of_find hd')
    · obtain ⟨rfl, h3⟩ := hsrc
      cases hxv with | tr _ _ hxv => exact src_tree hpos hxv h3
    · exact hsrc.elim
  obtain ⟨A, cc, news, hxe, hA, hnl, hnc, hn1, hel, hem, htv⟩ := hsr
  generalize hsv : a.eval s = sv at hv
  cases hv with
  | own d =>
    generalize hbd : β d = bd at hobj
    cases hobj with
    | arr e m n es v xs hn hown hes hh =>
      obtain ⟨q, h1, h2, h3, h4⟩ := (find_ti hP he).info'
      obtain ⟨z, h5, h6⟩ := h4 zs hz
      obtain ⟨h7, _⟩ := zvals_ok (w := w) (S := S) hz
      have hzs : z.cells.size = tj.size := by rw [← hzl, h7, ← h6]; simp
      have hb : (n + k) * tj.bytes ≤ 140737488355328 := Nat.le_trans (Nat.mul_le_mul hlen hby) (by decide)
      obtain ⟨v', w', hrun, hown', hg, hbl⟩ := append_any (P := P) w t o.type e q z tj.size tj.bytes ((find_ti hP ht).slice hti) h1 h5 h2 h3 hzs hpos bd n xs hown A k cc news hA hnl hnc hn1 (by simp [maxLen]; omega) hb
      have hexec : (execOp a.eval o).run P w = .ok (.value v') w' := by
        simp only [execOp, ho, resolve, invoke, builtin, Sem.run_bind, Sem.run_pure, Result.andThen_ok, List.map_toArray, List.map_cons, List.map_nil, hsv, hbd, hxe, hrun]
      refine wp_value hexec ?_
      have hbo := own_blk hown
      have hpriv : ∀ g, blkOf bd = some g → ¬ S g ∧ c.w0.heap.size ≤ g := fun g hgb => by
        obtain ⟨q1, q2⟩ := hr.priv d _ g hmem (by rw [hbd]; exact hgb)
        rcases q2 with q2 | ⟨q2, _⟩
        · exact ⟨q1, q2⟩
        · omega
      have hkeepS : ∀ b, S b → w'.heap[b]? = w.heap[b]? := fun b hb => hg.block b (hr.lt b hb) fun e => (hpriv b (by rw [← hbo]; exact e.symm)).1 hb
      have hob' : ∀ {k x}, (k, x) ∈ σ.o → k ≠ d → ∀ b, blkOf (β k) = some b → w'.heap[b]? = w.heap[b]? := fun {k x} hk hne b hb => hg.block b ((hr.obj k x hk).lt hb) fun e => hne (hr.apart k x d _ b hk hmem hb (by rw [hbd, ← hbo]; exact e.symm))
      have hrk : Rel c S β (σ.kill d) a w' := by
        refine ⟨hr.defers, hr.size, hr.one, hr.grew.of (Grew.of_grown hg) (fun g hgb hlt => ?_), hr.s0, hr.s1, fun b hb => Nat.lt_of_lt_of_le (hr.lt b hb) hg.size, fun i y hi => ⟨(hr.tmp i y (kill_t hi)).1, (hr.tmp i y (kill_t hi)).2.keep hkeepS fun _ h => h⟩, fun k y hk => ?_, fun j u hj => ⟨(hr.pin j u hj).1, fun y hy => (hr.pin j u hj).2 y (kill_o hy).1⟩, fun k y g hk hgb => hr.priv k y g (kill_o hk).1 hgb, fun k y k' y' g hk hk' => hr.apart k y k' y' g (kill_o hk).1 (kill_o hk').1⟩
        · have := (hpriv g (by rw [← hbo]; exact hgb)).2
          omega
        · refine (hr.obj k y (kill_o hk).1).keep (fun b hb => ?_) fun _ h => h
          rcases hb with hb | hb
          · exact hkeepS b hb
          · exact hob' (kill_o hk).1 (kill_o hk).2 b hb
      have hv1 : v'.cells = #[v'] := by rcases hown'.2 with ⟨h, _⟩ | ⟨g, cap, cur, h, _⟩ <;> rw [h] <;> rfl
      have hxl : xs.length = n * tj.size := hown.1
      have hnew : ObjR w' S (upd β d0 v') (.arr e tj.size (n + k) (es ++ es2)) v' := by
        refine .arr e tj.size (n + k) _ v' (xs ++ news) (by simp [hn, hel]) hown' (fun x hx => ?_) fun i x j t u hi hj hu => ?_
        · rcases List.mem_append.1 hx with hx | hx
          · exact hes x hx
          · exact hem x hx
        · have hkp : ∀ {t u}, TV w S t u → TV w' S t u := fun h => h.keep hkeepS fun _ h => h
          have hjl : j < tj.size := by
            have : x.length = tj.size := by
              rcases List.mem_append.1 (List.mem_of_getElem? hi) with hx | hx
              · exact hes x hx
              · exact hem x hx
            rw [← this]
            exact (List.getElem?_eq_some_iff.1 hj).1
          by_cases hin : i < n
          · have h8 : (i + 1) * tj.size ≤ n * tj.size := Nat.mul_le_mul_right _ (by omega)
            rw [Nat.add_mul] at h8
            rw [List.getElem?_append_left (by omega)] at hi hu
            exact hkp (hh i x j t u hi hj hu)
          · have h8 : n * tj.size ≤ i * tj.size := Nat.mul_le_mul_right _ (by omega)
            rw [List.getElem?_append_right (by omega)] at hi hu
            rw [hn] at hi
            refine hkp (htv (i - n) x j t u hi hj ?_)
            rw [← hu]
            congr 1
            rw [hxl, Nat.sub_mul]
            omega
      rw [hdst]
      refine ⟨S, _, Rel.put (Rel.new hrk hf hd0 hv1 hnew fun g hgb => ?_) hd0 ?_⟩
      · rcases hbl g hgb with h | h
        · refine ⟨(hpriv g h).1, (hpriv g h).2, fun d' x' hm' e => (kill_o hm').2 (hr.apart d' x' d _ g (kill_o hm').1 hmem e (by rw [hbd]; exact h))⟩
        · exact ⟨fun hS => absurd (hr.lt g hS) (by omega), Nat.le_trans hr.grew.size h, fun d' x' hm' e => absurd ((hr.obj d' x' (kill_o hm').1).lt e) (by omega)⟩
      · have : SVr w' S (upd β d0 v') (.own d0) (upd β d0 v' d0) := .own d0
        rwa [upd_same] at this
end
end Go.Proofs.Ytnnpmbcamnnfgaa.Sh
