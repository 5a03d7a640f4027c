/- A place put between others, own slices in own slices: Insert as a step of the framework; no condition. -/
import Derived.Test.YtpohkmbkohjahaaGreatDoorKI
import Derived.Test.YtpohkmbkohjahaaGreatDoorSE
namespace Go.Proofs.YtpohkmbkohjahaaGreatDoor.Sh
open Go.RowKit
/-- slices.Insert of one element. -/
def slices_Insert_Place {α : Type} (L : List α) (i : Int) (M : List α) : Option (List α) := if 0 ≤ i ∧ i ≤ L.length ∧ L.length + 1 ≤ 1000000 ∧ M.length = 1 then some (L.take i.toNat ++ M ++ L.drop i.toNat) else none
/-- Which of the old ones is at a place other than i. -/
def oldAt (i q : Nat) : Nat := if q < i then q else q - 1
theorem ins_place {α : Type} {xs xs2 : List α} {n m i : Nat} (hx : xs.length = n * m) (h2 : xs2.length = m) (hi : i ≤ n) {q j : Nat} {u : α} (hj : j < m) (hu : (xs.take (i * m) ++ xs2 ++ xs.drop (i * m))[q * m + j]? = some u) : (q = i ∧ xs2[0 * m + j]? = some u) ∨ (q ≠ i ∧ xs[oldAt i q * m + j]? = some u) := by
  have hin : i * m ≤ n * m := Nat.mul_le_mul_right _ hi
  have lt : (xs.take (i * m)).length = i * m := by rw [List.length_take]; omega
  rcases Nat.lt_trichotomy q i with h | h | h
  · have h8 : (q + 1) * m ≤ i * m := Nat.mul_le_mul_right _ h
    rw [Nat.add_mul] at h8
    rw [List.append_assoc, List.getElem?_append_left (by omega), List.getElem?_take_of_lt (by omega)] at hu
    refine .inr ⟨by omega, ?_⟩
    unfold oldAt
    rw [if_pos h]
    exact hu
  · subst h
    rw [List.append_assoc, List.getElem?_append_right (by omega), lt, List.getElem?_append_left (by omega)] at hu
    refine .inl ⟨rfl, ?_⟩
    rw [← hu]
    congr 1
    omega
  · have h8 : (i + 1) * m ≤ q * m := Nat.mul_le_mul_right _ h
    rw [Nat.add_mul] at h8
    rw [List.getElem?_append_right (by rw [List.length_append, lt]; omega), List.length_append, lt, List.getElem?_drop] at hu
    refine .inr ⟨by omega, ?_⟩
    unfold oldAt
    rw [if_neg (by omega), ← hu]
    congr 1
    rw [Nat.sub_mul, h2]
    omega
theorem ins_elem {α : Type} {es es2 : List α} {n i : Nat} (hx : es.length = n) (h2 : es2.length = 1) (hi : i ≤ n) {q : Nat} {u : α} (hu : (es.take i ++ es2 ++ es.drop i)[q]? = some u) : (q = i ∧ es2[0]? = some u) ∨ (q ≠ i ∧ es[oldAt i q]? = some u) := by
  have := ins_place (xs := es) (xs2 := es2) (n := n) (m := 1) (i := i) (q := q) (j := 0) (u := u) (by omega) h2 hi (by omega) (by simpa using hu)
  simpa using this
theorem oldAt_inj {i q q' : Nat} (h : q ≠ i) (h' : q' ≠ i) (e : oldAt i q = oldAt i q') : q = q' := by
  unfold oldAt at e
  split at e <;> split at e <;> omega
/-- A row with one element put in, in a world where but the row's own block has changed. -/
theorem DRow.insert {w w' : World} {e m n i : Nat} {ss : List Sh} {es es2 : List (List Tr)} {v v2 v' : Value} {xs xs2 : List Value} (h1 : DRow w e m ss n es v xs) (h2 : DRow w e m ss 1 es2 v2 xs2) (hi : i ≤ n) (hap : ∀ g, FP w (.sl e m ss) v g → ¬ FP w (.sl e m ss) v2 g)
    (hown : w'.ownsRow 0 e m v' (n + 1) (xs.take (i * m) ++ xs2 ++ xs.drop (i * m))) (hg : ∀ b, b < w.heap.size → blkOf v ≠ some b → w'.heap[b]? = w.heap[b]?) (hbl : ∀ g, blkOf v' = some g → blkOf v = some g ∨ w.heap.size ≤ g) :
    DRow w' e m ss (n + 1) (es.take i ++ es2 ++ es.drop i) v' (xs.take (i * m) ++ xs2 ++ xs.drop (i * m)) ∧ ∀ g, FP w' (.sl e m ss) v' g → FP w (.sl e m ss) v g ∨ FP w (.sl e m ss) v2 g ∨ w.heap.size ≤ g := by
  have hx1 : xs.length = n * m := h1.hown.1
  have hx2 : xs2.length = m := by have := h2.hown.1; omega
  have hl1 := h1.hn
  have hl2 := h2.hn
  have place : ∀ (q j : Nat) u, j < m → (xs.take (i * m) ++ xs2 ++ xs.drop (i * m))[q * m + j]? = some u → (q = i ∧ xs2[0 * m + j]? = some u) ∨ (q ≠ i ∧ xs[oldAt i q * m + j]? = some u) := fun q j u hj hu => ins_place hx1 hx2 hi hj hu
  have keep1 : ∀ (q j : Nat) s t u, j < m → ss[j]? = some s → xs[q * m + j]? = some u → DV w s t u → DV w' s t u ∧ ∀ g, FP w' s u g ↔ FP w s u g := fun q j s t u hj hs hu hd => hd.keep fun g hgg => hg g (FP.lt hd hgg) (h1.hs q j s u g hj hs hu hgg)
  have keep2 : ∀ (q j : Nat) s t u, j < m → ss[j]? = some s → xs2[q * m + j]? = some u → DV w s t u → DV w' s t u ∧ ∀ g, FP w' s u g ↔ FP w s u g := fun q j s t u hj hs hu hd => hd.keep fun g hgg => hg g (FP.lt hd hgg) fun e => hap g (.here _ _ _ _ _ e) (h2.fp hj hs hu hgg)
  have src : ∀ (q j : Nat) s u g, j < m → ss[j]? = some s → (xs.take (i * m) ++ xs2 ++ xs.drop (i * m))[q * m + j]? = some u → FP w' s u g → (q = i ∧ xs2[0 * m + j]? = some u ∧ FP w s u g) ∨ (q ≠ i ∧ xs[oldAt i q * m + j]? = some u ∧ FP w s u g) := by
    intro q j s u g hj hs hu hgg
    rcases place q j u hj hu with ⟨hq, h3⟩ | ⟨hq, h3⟩
    · obtain ⟨_, s', x, t, hs', _, _, hd⟩ := h2.at hj h3
      rw [hs] at hs'
      injection hs' with hs'
      subst hs'
      exact .inl ⟨hq, h3, ((keep2 0 j s t u hj hs h3 hd).2 g).1 hgg⟩
    · obtain ⟨_, s', x, t, hs', _, _, hd⟩ := h1.at hj h3
      rw [hs] at hs'
      injection hs' with hs'
      subst hs'
      exact .inr ⟨hq, h3, ((keep1 _ j s t u hj hs h3 hd).2 g).1 hgg⟩
  have hlt1 : ∀ {q j : Nat} {s u g}, j < m → ss[j]? = some s → xs[q * m + j]? = some u → FP w s u g → g < w.heap.size := fun hj hs hu hf => FP.lt h1.dv (h1.fp hj hs hu hf)
  have hlt2 : ∀ {q j : Nat} {s u g}, j < m → ss[j]? = some s → xs2[q * m + j]? = some u → FP w s u g → g < w.heap.size := fun hj hs hu hf => FP.lt h2.dv (h2.fp hj hs hu hf)
  have hrow : DRow w' e m ss (n + 1) (es.take i ++ es2 ++ es.drop i) v' (xs.take (i * m) ++ xs2 ++ xs.drop (i * m)) := by
    refine ⟨by simp only [List.length_append, List.length_take, List.length_drop]; omega, hown, h1.hc, fun x hx => ?_, fun q x j s t u hq hs ht hu => ?_, fun q j s u g hj hs hu hgg hb => ?_, fun q j q' j' s s' u u' g hj hj' hs hs' hu hu' hgg hgg' => ?_⟩
    · rcases List.mem_append.1 hx with hx | hx
      · rcases List.mem_append.1 hx with hx | hx
        · exact h1.he x (List.mem_of_mem_take hx)
        · exact h2.he x hx
      · exact h1.he x (List.mem_of_mem_drop hx)
    · have hj : j < m := by rw [← h1.hc]; exact (List.getElem?_eq_some_iff.1 hs).1
      rcases place q j u hj hu with ⟨h4, h3⟩ | ⟨h4, h3⟩
      · rcases ins_elem hl1 hl2 hi hq with ⟨_, h5⟩ | ⟨h5, _⟩
        · exact (keep2 0 j s t u hj hs h3 (h2.h 0 x j s t u h5 hs ht h3)).1
        · exact absurd h4 h5
      · rcases ins_elem hl1 hl2 hi hq with ⟨h5, _⟩ | ⟨_, h5⟩
        · exact absurd h5 h4
        · exact (keep1 _ j s t u hj hs h3 (h1.h _ x j s t u h5 hs ht h3)).1
    · rcases src q j s u g hj hs hu hgg with ⟨_, h3, h4⟩ | ⟨_, h3, h4⟩
      · rcases hbl g hb with h5 | h5
        · exact hap g (.here _ _ _ _ _ h5) (h2.fp hj hs h3 h4)
        · exact absurd (hlt2 hj hs h3 h4) (by omega)
      · rcases hbl g hb with h5 | h5
        · exact h1.hs _ j s u g hj hs h3 h4 h5
        · exact absurd (hlt1 hj hs h3 h4) (by omega)
    · rcases src q j s u g hj hs hu hgg with ⟨hq, h3, h4⟩ | ⟨hq, h3, h4⟩ <;> rcases src q' j' s' u' g hj' hs' hu' hgg' with ⟨hq', h3', h4'⟩ | ⟨hq', h3', h4'⟩
      · have := h2.ha 0 j 0 j' s s' u u' g hj hj' hs hs' h3 h3' h4 h4'
        omega
      · exact (hap g (h1.fp hj' hs' h3' h4') (h2.fp hj hs h3 h4)).elim
      · exact (hap g (h1.fp hj hs h3 h4) (h2.fp hj' hs' h3' h4')).elim
      · have := h1.ha _ j _ j' s s' u u' g hj hj' hs hs' h3 h3' h4 h4'
        exact ⟨oldAt_inj hq hq' this.1, this.2⟩
  refine ⟨hrow, fun g hgg => ?_⟩
  rcases hrow.fp' hgg with h3 | ⟨q, j, s, u, hj, hs, hu, hf⟩
  · rcases hbl g h3 with h4 | h4
    · exact .inl (.here _ _ _ _ _ h4)
    · exact .inr (.inr h4)
  · rcases src q j s u g hj hs hu hf with ⟨_, h3, h4⟩ | ⟨_, h3, h4⟩
    · exact .inr (.inl (h2.fp hj hs h3 h4))
    · exact .inl (h1.fp hj hs h3 h4)
/-- What Insert does. -/
def InsCall (P : Program) (f : FuncId) (e m : Nat) : Prop :=
  ∀ (w : World) (v : Value) (n i : Nat) (xs ys : List Value) (g cx : Nat), w.ownsRow 0 e m v n xs → i ≤ n → n + 1 ≤ 1000000 → w.ownsRow 0 e m (.slice (some ⟨g, 0, none⟩) 1 cx) 1 ys → blkOf v ≠ some g → (∀ u ∈ xs, u.oneCell' = true) → (∀ u ∈ ys, u.oneCell' = true) →
    Calls P f #[v, .int .i64 i, .slice (some ⟨g, 0, none⟩) 1 cx] w fun en w' => ∃ v', en = .returned v' ∧ w'.ownsRow 0 e m v' (n + 1) (xs.take (i * m) ++ ys ++ xs.drop (i * m)) ∧ w.grownBy w' v.ownBlock ∧ ∀ b, blkOf v' = some b → blkOf v = some b ∨ w.heap.size ≤ b
theorem insert_place : InsCall Tryz.prog insF 41 5 := fun w v n i xs ys g cx h1 h2 h3 h4 h5 h6 h7 => insert_any w v n i xs ys h1 h2 h3 g cx h4 h5 h6 h7
section
variable {P : Program} {tb : Tb} {ops : Array Oper} {o : Oper} {c : Cx} {S : Nat → Prop} {β : Nat → Value} {σ : SS} {a : Act} {w : World}
theorem drow_one {e m n : Nat} {ss : List Sh} {es : List (List Tr)} {v : Value} {xs : List Value} (hm : 0 < m) (h : DRow w e m ss n es v xs) : ∀ u ∈ xs, u.oneCell' = true := by
  intro u hu
  obtain ⟨q, hq⟩ := List.mem_iff_getElem?.1 hu
  have e1 : q / m * m + q % m = q := by have := Nat.div_add_mod q m; rw [Nat.mul_comm] at this; exact this
  obtain ⟨_, s, x, t, _, _, _, hd⟩ := h.at (i := q / m) (j := q % m) (Nat.mod_lt _ hm) (by rw [e1]; exact hq)
  exact dv_one hd
theorem ecutI {f : FuncId} {e m n d dx d0 i : Nat} {ss : List Sh} {es es2 es' : List (List Tr)} (he : Ents P f) (hc : InsCall P f e m) (hpos : 0 < m) {fo s y x : Operand} {args : Array Operand} {ts : Array TypeId} (ho : o.op = .call { callee := .value fo, args := args, argTypes := ts }) (hargs : args = #[s, y, x]) (hdst : o.dst = some d0) (hin : i ≤ n) (hn9 : n + 1 ≤ 1000000) (hes : es.take i ++ es2 ++ es.drop i = es')
    (hgd : gd ops σ o = some true) (hd0 : d0 < σ.n) (hfo : ev σ fo = some (.clo f [])) (hs : ev σ s = some (.own d)) (hy : ev σ y = some (.tr (.int .i64 i))) (hx : ev σ x = some (.own dx)) (hdn : d < σ.n) (hdxn : dx < σ.n) (hne : dx ≠ d)
    (hob : find d σ.o = some (.deep e m n ss es)) (hobx : find dx σ.o = some (.deep e m 1 ss es2)) (hf : d0 ∉ ((σ.kill d).kill dx).names) :
    EStep P ops o σ (((σ.kill d).kill dx).add d0 (.own d0) (.deep e m (n + 1) ss es')) := by
  subst hargs hes
  refine estep_of hgd fun c S β a w hr => ?_
  have hv := ev_ok hr hs
  have hxv := ev_ok hr hx
  have hyv := ev_ok hr hy
  have hfv := ev_ok hr hfo
  have hmem := mem_of_find hob
  have hmemx := mem_of_find hobx
  have hobj := hr.obj d _ hmem
  have hobjx := hr.obj dx _ hmemx
  generalize hsv : a.eval s = sv at hv
  generalize hxe : a.eval x = sx at hxv
  generalize hye : a.eval y = sy at hyv
  generalize hfe : a.eval fo = fv at hfv
  cases hv with
  | own d =>
  cases hxv with
  | own dx =>
  cases hyv with
  | tr _ _ hyt =>
  cases hyt with
  | int =>
  cases hfv with
  | clo f caps vs hvl hvh =>
    have hvs : vs = #[] := Array.eq_empty_of_size_eq_zero (by simpa using hvl.symm)
    subst hvs
    have hrun : (execOp a.eval o).run P w = .ok (.enter f #[β d, .int .i64 i, β dx]) w := by
      simp only [execOp, ho, resolve, hfe, Deferred.ofValue, Sem.run_bind, Sem.run_pure, Result.andThen_ok, invoke]
      have := he (#[] ++ #[s, y, x].map a.eval ++ #[]) w
      simp only [List.map_toArray, List.map_cons, List.map_nil, hsv, hye, hxe, Array.append_empty, Array.empty_append] at this ⊢
      exact this
    have hapd : ∀ g, FP w (.sl e m ss) (β d) g → ¬ FP w (.sl e m ss) (β dx) g := fun g h1 h2 => hne (hr.apart dx _ d _ g hmemx hmem h2 h1)
    have hpd : ∀ g, FP w (.sl e m ss) (β d) g → ¬ S g ∧ c.w0.heap.size ≤ g := fun g hg => by
      obtain ⟨q1, q2⟩ := hr.priv d _ g hmem hg
      exact ⟨q1, q2.elim (fun h => h.2) fun h => by omega⟩
    have hpx : ∀ g, FP w (.sl e m ss) (β dx) g → ¬ S g ∧ c.w0.heap.size ≤ g := fun g hg => by
      obtain ⟨q1, q2⟩ := hr.priv dx _ g hmemx hg
      exact ⟨q1, q2.elim (fun h => h.2) fun h => by omega⟩
    cases hobj with
    | deep _ _ _ _ _ _ h =>
    cases hobjx with
    | deep _ _ _ _ _ _ hx2 =>
      obtain ⟨xs, hr1⟩ := h.row
      obtain ⟨xs2, hr2⟩ := hx2.row
      obtain ⟨g, cx, hA0⟩ : ∃ g cx, β dx = .slice (some ⟨g, 0, none⟩) 1 cx := by
        rcases hr2.hown.2 with ⟨_, h9⟩ | ⟨g, cap, cur, h8, _⟩
        · cases h9
        · exact ⟨g, cap, h8⟩
      have hownx := hr2.hown
      rw [hA0] at hownx
      have hbo := own_blk hr1.hown
      have hneg : blkOf (β d) ≠ some g := fun e => hapd g (.here _ _ _ _ _ e) (.here _ _ _ _ _ (by rw [hA0]; rfl))
      unfold Oper.wp
      rw [hrun, hA0]
      refine (hc w (β d) n i xs xs2 g cx hr1.hown hin hn9 hownx hneg (drow_one hpos hr1) (drow_one hpos hr2)).mono fun en w' ⟨v', hen, hown', hg, hbl⟩ => ?_
      subst hen
      rw [hdst]
      have hkeepS : ∀ b, S b → w'.heap[b]? = w.heap[b]? := fun b hb => hg.block b (hr.lt b hb) fun e => (hpd b (.here _ _ _ _ _ (by rw [← hbo]; exact e.symm))).1 hb
      have hko : ∀ {k x}, (k, x) ∈ ((σ.kill d).kill dx).o → (k, x) ∈ σ.o ∧ k ≠ d ∧ k ≠ dx := fun h => ⟨(kill_o (kill_o h).1).1, (kill_o (kill_o h).1).2, (kill_o h).2⟩
      have hob' : ∀ {k x}, (k, x) ∈ σ.o → k ≠ d → ∀ b, x.foot w (β k) b → w'.heap[b]? = w.heap[b]? := fun {k x} hk hne b hb => hg.block b ((hr.obj k x hk).lt hb) fun e => hne (hr.apart k x d _ b hk hmem hb (foot_blk (by rw [← hbo]; exact e.symm)))
      have hof : ∀ {k x}, (k, x) ∈ σ.o → k ≠ d → ∀ {b}, x.foot w' (β k) b → x.foot w (β k) b := fun {k x} hk hne {b} hb => ((hr.obj k x hk).foot (hob' hk hne)).1 hb
      have hrk : Rel c S β ((σ.kill d).kill dx) a w' := by
        refine ⟨hr.defers, hr.size, hr.one, hr.grew.of (Grew.of_grown hg) (fun g hgb hlt => ?_), hr.s0, hr.s1, fun b hb => Nat.lt_of_lt_of_le (hr.lt b hb) hg.size, fun i y hi => ⟨(hr.tmp i y (kill_t (kill_t hi))).1, (hr.tmp i y (kill_t (kill_t hi))).2.keep hkeepS fun _ h => h⟩, fun k y hk => ?_, fun j u hj => ⟨(hr.pin j u hj).1, fun y hy => (hr.pin j u hj).2 y (hko hy).1⟩, fun k y g hk hgb => hr.priv k y g (hko hk).1 (hof (hko hk).1 (hko hk).2.1 hgb), fun k y k' y' g hk hk' h h' => hr.apart k y k' y' g (hko hk).1 (hko hk').1 (hof (hko hk).1 (hko hk).2.1 h) (hof (hko hk').1 (hko hk').2.1 h')⟩
        · have := (hpd g (.here _ _ _ _ _ (by rw [← hbo]; exact hgb))).2
          omega
        · refine (hr.obj k y (hko hk).1).keep (fun b hb => ?_) fun _ h => h
          rcases hb with hb | hb
          · exact hkeepS b hb
          · exact hob' (hko hk).1 (hko hk).2.1 b hb
      obtain ⟨hnew, hfoot⟩ := hr1.insert hr2 hin hapd hown' (fun b hb hne => hg.block b hb fun e => hne (by rw [← hbo]; exact e.symm)) hbl
      have hv1 : v'.cells = #[v'] := by rcases hown'.2 with ⟨h, _⟩ | ⟨g, cap, cur, h, _⟩ <;> rw [h] <;> rfl
      refine ⟨S, _, Rel.put (Rel.new hrk hf hd0 hv1 (.deep _ _ _ _ _ _ hnew.dv) fun g hgb => ?_) hd0 ?_⟩
      · rcases hfoot g hgb with h | h | h
        · exact ⟨(hpd g h).1, (hpd g h).2, fun d' x' hm' e => (hko hm').2.1 (hr.apart d' x' d _ g (hko hm').1 hmem (hof (hko hm').1 (hko hm').2.1 e) h)⟩
        · exact ⟨(hpx g h).1, (hpx g h).2, fun d' x' hm' e => (hko hm').2.2 (hr.apart d' x' dx _ g (hko hm').1 hmemx (hof (hko hm').1 (hko hm').2.1 e) h)⟩
        · exact ⟨fun hS => absurd (hr.lt g hS) (by omega), Nat.le_trans hr.grew.size h, fun d' x' hm' e => absurd ((hr.obj d' x' (hko hm').1).lt (hof (hko hm').1 (hko hm').2.1 e)) (by omega)⟩
      · have : SVr w' S (upd β d0 v') (.own d0) (upd β d0 v' d0) := .own d0
        rwa [upd_same] at this
theorem x_ins {α : Type} {f : α → List Tr} {L M R : List α} {i : Int} {e m d dx d0 k : Nat} {ss : List Sh} (h : slices_Insert_Place L i M = some R) (he : Ents P k) (hc : InsCall P k e m) {fo s y x : Operand} {args : Array Operand} {ts : Array TypeId} (ho : o.op = .call { callee := .value fo, args := args, argTypes := ts }) (hargs : args = #[s, y, x]) (hdst : o.dst = some d0)
    (hpos : Nat.blt 0 m = true := by kernel_rfl) (hgd : gd ops σ o = some true := by kernel_rfl) (hd0 : Nat.blt d0 σ.n = true := by kernel_rfl) (hfo : ev σ fo = some (.clo k []) := by kernel_rfl) (hs : ev σ s = some (.own d) := by kernel_rfl) (hy : ev σ y = some (.tr (.int .i64 i)) := by kernel_rfl) (hx : ev σ x = some (.own dx) := by kernel_rfl) (hdn : Nat.blt d σ.n = true := by kernel_rfl) (hdxn : Nat.blt dx σ.n = true := by kernel_rfl) (hne : (dx != d) = true := by kernel_rfl)
    (hob : find d σ.o = some (.deep e m L.length ss (L.map f)) := by kernel_rfl) (hobx : find dx σ.o = some (.deep e m M.length ss (M.map f)) := by kernel_rfl) (hf : ((σ.kill d).kill dx).names.contains d0 = false := by kernel_rfl) :
    EStep P ops o σ (((σ.kill d).kill dx).add d0 (.own d0) (.deep e m R.length ss (R.map f))) := by
  unfold slices_Insert_Place at h
  split at h
  · rename_i hh
    obtain ⟨h1, h2, h3, h4⟩ := hh
    injection h with h
    subst h
    rw [h4] at hobx
    have hi : i = ((i.toNat : Nat) : Int) := by omega
    rw [hi] at hy
    have hl : (L.take i.toNat ++ M ++ L.drop i.toNat).length = L.length + 1 := by
      simp only [List.length_append, List.length_take, List.length_drop]
      omega
    rw [hl]
    exact ecutI he hc (by simpa using hpos) ho hargs hdst (by omega) h3 (by simp) hgd (by simpa using hd0) hfo hs hy hx (by simpa using hdn) (by simpa using hdxn) (by simpa using hne) hob hobx (by simpa using hf)
  · cases h
end
end Go.Proofs.YtpohkmbkohjahaaGreatDoor.Sh
