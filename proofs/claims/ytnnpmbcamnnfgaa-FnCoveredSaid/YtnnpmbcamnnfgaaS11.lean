/- Functions by their shadow: what a call does, how a body shows it, how a caller uses it. -/
import Derived.Test.YtnnpmbcamnnfgaaS10
namespace Go.Proofs.Ytnnpmbcamnnfgaa.Sh
open Go.RowKit
/-- An argument: a value; an object that the call may change. -/
inductive SIn where
  | v (x : SV)
  | o (x : SO)
/-- A result: a value; a new slice; a new variable. -/
inductive SR where
  | v (x : SV)
  | own (e m n : Nat) (es : List (List Tr))
  | box (cs : List SV)
def SR.isOwn : SR → Bool
  | .v _ => false
  | _ => true
/-- dep: the results may be read through the arguments' blocks. -/
structure SRes where
  outs : List SR
  objs : List (Nat × SO)
  dep : Bool
def bz : Nat → Value := fun _ => undef
def ResR (w : World) (S : Nat → Prop) (B : Nat) : SR → Value → Prop
  | .v x, u => x.names = [] ∧ SVr w S bz x u
  | .own e m n es, u => ObjR w S bz (.arr e m n es) u ∧ ∀ g, blkOf u = some g → B ≤ g ∧ ¬ S g
  | .box cs, u => SO.names (.box cs) = [] ∧ ObjR w S bz (.box cs) u ∧ ∀ g, blkOf u = some g → B ≤ g ∧ ¬ S g
def ValsR (R : SR → Value → Prop) : List SR → Value → Prop
  | [r], v => R r v
  | rs, v => ∃ us : Array Value, v = .tuple us ∧ us.size = rs.length ∧ ∀ (i : Nat) r u, rs[i]? = some r → us[i]? = some u → R r u
def SCall (P : Program) (f : FuncId) (ins : List SIn) (res : SRes) : Prop :=
  ∀ (w : World) (S : Nat → Prop) (vs : Array Value), vs.size = ins.length → (∀ b, S b → b < w.heap.size) →
    (∀ (j : Nat) x v, ins[j]? = some (SIn.v x) → vs[j]? = some v → SVr w S bz x v) →
    (∀ (j : Nat) x v, ins[j]? = some (SIn.o x) → vs[j]? = some v → v.cells = #[v] ∧ ObjR w S bz x v ∧ ∀ g, blkOf v = some g → ¬ S g) →
    (∀ (i j : Nat) x y u v (g : Nat), ins[i]? = some (SIn.o x) → ins[j]? = some (SIn.o y) → vs[i]? = some u → vs[j]? = some v → blkOf u = some g → blkOf v = some g → i = j) →
    Calls P f vs w fun e w' => ∃ v S', e = .returned v ∧ Grew (fun g => ∃ (j : Nat) (x : SO) (u : Value), ins[j]? = some (SIn.o x) ∧ vs[j]? = some u ∧ blkOf u = some g) w w' ∧
      (∀ b, S' b → (res.dep = true ∧ S b) ∨ w.heap.size ≤ b) ∧ (∀ b, S' b → b < w'.heap.size) ∧ ValsR (ResR w' S' w.heap.size) res.outs v ∧
      ∀ (j : Nat) x u, (j, x) ∈ res.objs → vs[j]? = some u → ObjR w' (fun b => S b ∨ S' b) bz x u ∧ ∀ g, blkOf u = some g → ¬ S' g

/-- Objects that a call may change bear high names. -/
def hi (j : Nat) : Nat := 1000000 + j
def inT : SIn × Nat → Nat × SV
  | (.v x, j) => (j, x)
  | (.o (.box _), j) => (j, .ref (hi j) 0)
  | (.o (.arr ..), j) => (j, .own (hi j))
def inO : SIn × Nat → Option (Nat × SO)
  | (.v _, _) => none
  | (.o x, j) => some (hi j, x)
def start (n : Nat) (ins : List SIn) : SS := ⟨n, ins.zipIdx.map inT, ins.zipIdx.filterMap inO⟩
def SV.Flat : SV → Prop
  | .tr t => t.flat = true
  | .agg cs => FlatL cs
  | .tup cs => FlatL cs
  | .ptr _ _ => False
  | .ref _ _ => True
  | .eref _ _ _ _ => True
  | .own _ => True
  | .clo _ cs => FlatL cs
where FlatL : List SV → Prop
  | [] => True
  | c :: cs => c.Flat ∧ FlatL cs
theorem SV.flat_mem {cs : List SV} (h : SV.Flat.FlatL cs) {c : SV} (hc : c ∈ cs) : c.Flat := by
  induction cs with
  | nil => cases hc
  | cons x xs ih =>
    unfold SV.Flat.FlatL at h
    rcases List.mem_cons.1 hc with rfl | hc
    · exact h.1
    · exact ih h.2 hc
theorem SVr.free {w w' : World} {S S' : Nat → Prop} {β : Nat → Value} {x : SV} {v : Value} (h : SVr w S β x v) : x.Flat → SVr w' S' β x v := by
  induction h with
  | tr t v h => exact fun hf => .tr t v (h.free hf)
  | agg cs vs hl h ih => exact fun hf => .agg cs vs hl fun j c v hc hv => ih j c v hc hv (SV.flat_mem hf (List.mem_of_getElem? hc))
  | tup cs vs hl h ih => exact fun hf => .tup cs vs hl fun j c v hc hv => ih j c v hc hv (SV.flat_mem hf (List.mem_of_getElem? hc))
  | ptr cs o g b u hg h hc ih => exact fun hf => hf.elim
  | ref d o g h => exact fun _ => .ref d o g h
  | eref d m i j g n c h => exact fun _ => .eref d m i j g n c h
  | own d => exact fun _ => .own d
  | clo f caps vs hl h ih => exact fun hf => .clo f caps vs hl fun j c v hc hv => ih j c v hc hv (SV.flat_mem hf (List.mem_of_getElem? hc))
def FlatE (es : List (List Tr)) : Prop := ∀ x ∈ es, ∀ t ∈ x, t.flat = true
/-- What a result variable holds. -/
def Holds (P : Program) (σ : SS) (x : SV) : ResultVar → Prop
  | .tmp t => (t, x) ∈ σ.t
  | .cell t T => ∃ d cs ti, (t, SV.ref d 0) ∈ σ.t ∧ (d, SO.box cs) ∈ σ.o ∧ TIok P T ti ∧ ldc ti cs 0 = some x
def FinS (P : Program) (σ : SS) (dep : Bool) (rv : ResultVar) : SR → Prop
  | .v x => x.names = [] ∧ (dep = true ∨ x.Flat) ∧ Holds P σ x rv
  | .own e m n es => ∃ d, Holds P σ (.own d) rv ∧ (d, SO.arr e m n es) ∈ σ.o ∧ (dep = true ∨ FlatE es) ∧ d < σ.n
  | .box cs => ∃ d, Holds P σ (.ref d 0) rv ∧ (d, SO.box cs) ∈ σ.o ∧ SO.names (.box cs) = [] ∧ (dep = true ∨ SV.Flat.FlatL cs) ∧ d < σ.n
structure FinR (P : Program) (rs : List ResultVar) (ins : List SIn) (res : SRes) (σ : SS) : Prop where
  len : rs.length = res.outs.length
  out : ∀ (i : Nat) t r, rs[i]? = some t → res.outs[i]? = some r → FinS P σ res.dep t r
  obj : ∀ (j : Nat) x, (j, x) ∈ res.objs → (hi j, x) ∈ σ.o ∧ SO.names x = [] ∧ ∃ z, ins[j]? = some (SIn.o z)
  all : ∀ (j : Nat) x, ins[j]? = some (SIn.o x) → ∃ y, (j, y) ∈ res.objs
def SIn.names : SIn → List Nat
  | .v x => x.names
  | .o x => x.names
def insNames (ins : List SIn) : List Nat := ins.flatMap SIn.names
def rets (us : List Value) : Value := match us with
  | [u] => u
  | _ => .tuple us.toArray
def readR (tmps : Array Value) : ResultVar → Sem Value
  | .tmp t => pure (tmps.getD t undef)
  | .cell a t => do loadVar t (← asAddr (tmps.getD a undef))
section
variable {P : Program}
theorem hi_inj {i j : Nat} (h : hi i = hi j) : i = j := by unfold hi at h; omega
theorem nodep {w : World} {S : Nat → Prop} {β : Nat → Value} {dep : Bool} {x : SV} {u : Value} (h : SVr w S β x u) (hd : dep = true ∨ x.Flat) (hn : x.names = []) : SVr w (fun b => dep = true ∧ S b) bz x u := by
  rcases hd with hd | hd
  · exact (h.keep (fun _ _ => rfl) fun b hb => ⟨hd, hb⟩).agree fun d hd => by rw [hn] at hd; cases hd
  · exact (h.free hd).agree fun d hd => by rw [hn] at hd; cases hd
theorem start_t {n : Nat} {ins : List SIn} {j : Nat} {x : SV} (h : (j, x) ∈ (start n ins).t) : ∃ y, ins[j]? = some y ∧ inT (y, j) = (j, x) := by
  obtain ⟨⟨y, i⟩, h1, h2⟩ := List.mem_map.1 h
  have h3 := mem_zip.1 h1
  have : i = j := by
    cases y with
    | v _ => injection h2
    | o y => cases y <;> injection h2
  subst this
  exact ⟨y, h3, h2⟩
theorem start_o {n : Nat} {ins : List SIn} {d : Nat} {x : SO} (h : (d, x) ∈ (start n ins).o) : ∃ j, d = hi j ∧ ins[j]? = some (SIn.o x) := by
  obtain ⟨⟨y, i⟩, h1, h2⟩ := List.mem_filterMap.1 h
  have h3 := mem_zip.1 h1
  cases y with
  | v _ => cases h2
  | o y =>
    injection h2 with h2
    injection h2 with h4 h5
    subst h5
    exact ⟨i, h4.symm, h3⟩
theorem run_results {fn : Func} {rs : List ResultVar} (hr : fn.results = rs.toArray) {tmps : Array Value} {w : World} {us : List Value} (hl : us.length = rs.length) (hu : ∀ (i : Nat) t u, rs[i]? = some t → us[i]? = some u → (readR tmps t).run P w = .ok u w) : (results fn tmps).run P w = .ok (rets us) w := by
  have hm : ∀ (l : List ResultVar) (us : List Value), us.length = l.length → (∀ (i : Nat) t u, l[i]? = some t → us[i]? = some u → (readR tmps t).run P w = .ok u w) → (l.mapM (readR tmps)).run P w = .ok us w := by
    intro l
    induction l with
    | nil => intro us h _; rw [List.eq_nil_of_length_eq_zero h]; simp
    | cons t l ih =>
      intro us h hh
      cases us with
      | nil => cases h
      | cons u us =>
        rw [List.mapM_cons, Sem.run_bind, hh 0 t u rfl rfl, Result.andThen_ok, Sem.run_bind, ih us (by simpa using h) (fun i t u h1 h2 => hh (i + 1) t u (by simpa using h1) (by simpa using h2)), Result.andThen_ok]
        rfl
  have hf : (results fn tmps) = (do let vs ← fn.results.mapM (readR tmps); pure (if h : vs.size = 1 then vs[0] else .tuple vs)) := by
    unfold results
    congr 2
  rw [hf, hr, Array.mapM_eq_mapM_toList]
  simp only [Sem.run_bind, map_eq_pure_bind]
  rw [hm rs us hl hu]
  simp only [Result.andThen_ok, Sem.run_pure]
  unfold rets
  match us with
  | [] => rfl
  | [t] => rfl
  | t :: t' :: ts => rw [dif_neg (by simp)]
theorem holds_ok {c : Cx} {S : Nat → Prop} {β : Nat → Value} {σ : SS} {a : Act} {w : World} (hr : Rel c S β σ a w) {x : SV} {rv : ResultVar} (h : Holds P σ x rv) : ∃ u, (readR a.tmps rv).run P w = .ok u w ∧ SVr w S β x u := by
  cases rv with
  | tmp t => exact ⟨_, by simp [readR], (hr.tmp t x h).2⟩
  | cell t T =>
    obtain ⟨d, cs, ti, h1, h2, h3, h4⟩ := h
    have hv := (hr.tmp t _ h1).2
    generalize hy : a.tmps.getD t undef = y at hv
    have ho2 := hr.obj d _ h2
    cases hv with
    | ref d k g hg =>
      rw [hg] at ho2
      cases ho2 with
      | box cs g vs T' hgg hl hh =>
        obtain ⟨r, h5, h6⟩ := ldc_ok (S := S) (β := β) (w := w) (g := g) (b := 0) (o := 0) (u := fun j => vs.getD j undef) h3 (cs := cs) (fun j z hz => hh j z _ hz (by
            have := (List.getElem?_eq_some_iff.1 hz).1
            simp [Array.getD, show j < vs.size by omega])) (fun j z hz => by
            have := (List.getElem?_eq_some_iff.1 hz).1
            rw [Nat.zero_add, cell_of_row w g j vs T' (0, 0) hgg]
            simp [Array.getD, show j < vs.size by omega]) h4
        exact ⟨r, by simp only [readR, hy, Sem.run_bind]; simpa [asAddr] using h5, h6⟩
theorem scall_intro {f : FuncId} {fn : Func} {code : Code} (hf : P.funcs[f]? = some fn) (hb : fn.body = some code) (rs : List ResultVar) (hr : fn.results = rs.toArray) {ins : List SIn} (hn : ins.length ≤ fn.ntmps) (hnn : fn.ntmps ≤ 1000000) (hnm : insNames ins = []) {res : SRes}
    (h : swp P code (fun e σ => (e = .normal ∨ e = .ret) ∧ FinR P rs ins res σ) (start fn.ntmps ins)) : SCall P f ins res := by
  intro w S vs hsz hlt hv ho hap
  have hnames : ∀ (j : Nat) x, ins[j]? = some x → x.names = [] := fun j x hj => by
    apply List.eq_nil_iff_forall_not_mem.2
    intro d hd
    have : d ∈ insNames ins := List.mem_flatMap.2 ⟨x, List.mem_of_getElem? hj, hd⟩
    rw [hnm] at this
    cases this
  refine calls_of_wp hf hb ?_
  have hget : ∀ (j : Nat) v, vs[j]? = some v → (vs ++ Array.replicate (fn.ntmps - vs.size) undef).getD j undef = v := by
    intro j v hj
    rw [Array.getD_eq_getD_getElem?, Array.getElem?_append_left (Array.getElem?_eq_some_iff.1 hj).1, hj]
    rfl
  obtain ⟨pin, hpin⟩ : ∃ pin : List (Nat × Value), ∀ d v, (d, v) ∈ pin ↔ ∃ (j : Nat) (x : SO), d = hi j ∧ ins[j]? = some (SIn.o x) ∧ vs[j]? = some v := by
    refine ⟨ins.zipIdx.filterMap fun x => match x.1 with | .v _ => none | .o _ => (vs[x.2]?).map fun v => (hi x.2, v), fun d v => ⟨fun hm => ?_, ?_⟩⟩
    · obtain ⟨⟨x, j⟩, h1, h2⟩ := List.mem_filterMap.1 hm
      cases x with
      | v _ => cases h2
      | o x =>
        simp only [Option.map_eq_some_iff] at h2
        obtain ⟨u, h3, h4⟩ := h2
        injection h4 with h5 h6
        subst h6
        exact ⟨j, x, h5.symm, mem_zip.1 h1, h3⟩
    · rintro ⟨j, x, rfl, h1, h2⟩
      exact List.mem_filterMap.2 ⟨(.o x, j), mem_zip.2 h1, by simp [h2]⟩
  obtain ⟨β, hβ, hone⟩ : ∃ β : Nat → Value, (∀ (j : Nat) x v, ins[j]? = some (SIn.o x) → vs[j]? = some v → β (hi j) = v) ∧ ∀ d, (β d).cells = #[β d] := by
    refine ⟨fun d => if 1000000 ≤ d then (match ins[d - 1000000]? with | some (.o _) => vs.getD (d - 1000000) undef | _ => undef) else undef, fun j x v h1 h2 => ?_, fun d => ?_⟩
    · simp only [hi, Nat.add_sub_cancel_left, Nat.le_add_right, if_true, h1]
      simp [Array.getD_eq_getD_getElem?, h2]
    · dsimp only
      split
      · split
        · rename_i x hx
          have hj := (List.getElem?_eq_some_iff.1 hx).1
          have hv' : vs[d - 1000000]? = some (vs[d - 1000000]'(by omega)) := Array.getElem?_eq_getElem _
          have := (ho _ _ _ hx hv').1
          rw [Array.getD_eq_getD_getElem?, hv', Option.getD_some]
          exact this
        · rfl
      · rfl
  have hvs : ∀ j, j < ins.length → ∃ v, vs[j]? = some v := fun j hj => ⟨vs[j]'(by omega), Array.getElem?_eq_getElem _⟩
  have hrel : Rel ⟨w, S, pin⟩ S β (start fn.ntmps ins) ⟨vs ++ Array.replicate (fn.ntmps - vs.size) undef, []⟩ w := by
    refine ⟨rfl, by simp [start, hsz]; omega, hone, Grew.refl _ _, fun _ h => h, fun _ h => .inl h, hlt, fun j x hj => ?_, fun d x hd => ?_, fun d v hd => ?_, fun d x g hd hg => ?_, fun d x d' x' g hd hd' hg hg' => ?_⟩
    · obtain ⟨y, h1, h2⟩ := start_t hj
      have hlt' := (List.getElem?_eq_some_iff.1 h1).1
      obtain ⟨v, hv1⟩ := hvs j hlt'
      refine ⟨by simp; omega, ?_⟩
      rw [hget j v hv1]
      have hnm' := hnames j y h1
      cases y with
      | v z =>
        injection h2 with _ h2
        subst h2
        exact (hv j z v h1 hv1).agree fun d hd => by
          have : d ∈ ([] : List Nat) := hnm' ▸ hd
          cases this
      | o z =>
        have hz := (ho j z v h1 hv1).2.1
        have hb1 := hβ j z v h1 hv1
        cases z with
        | box cs =>
          injection h2 with _ h2
          subst h2
          cases hz with | box _ g us T hg hl hh => exact .ref _ 0 g hb1
        | arr e m n es =>
          injection h2 with _ h2
          subst h2
          rw [← hb1]
          exact .own _
    · obtain ⟨j, rfl, h1⟩ := start_o hd
      obtain ⟨v, hv1⟩ := hvs j (List.getElem?_eq_some_iff.1 h1).1
      rw [hβ j x v h1 hv1]
      have hnm' := hnames j _ h1
      exact (ho j x v h1 hv1).2.1.agree fun d hd => by
        have : d ∈ ([] : List Nat) := hnm' ▸ hd
        cases this
    · obtain ⟨j, x, rfl, h1, h2⟩ := (hpin d v).1 hd
      exact ⟨by simp only [start, hi]; omega, fun y hy => hβ j x v h1 h2⟩
    · obtain ⟨j, rfl, h1⟩ := start_o hd
      obtain ⟨v, hv1⟩ := hvs j (List.getElem?_eq_some_iff.1 h1).1
      rw [hβ j x v h1 hv1] at hg
      exact ⟨(ho j x v h1 hv1).2.2 g hg, .inr ⟨by simp only [start, hi]; omega, hi j, v, (hpin _ _).2 ⟨j, x, rfl, h1, hv1⟩, hg⟩⟩
    · obtain ⟨j, rfl, h1⟩ := start_o hd
      obtain ⟨i, rfl, h2⟩ := start_o hd'
      obtain ⟨v, hv1⟩ := hvs j (List.getElem?_eq_some_iff.1 h1).1
      obtain ⟨u, hu1⟩ := hvs i (List.getElem?_eq_some_iff.1 h2).1
      rw [hβ j x v h1 hv1] at hg
      rw [hβ i x' u h2 hu1] at hg'
      rw [hap j i x x' v u g h1 h2 hv1 hu1 hg hg']
  refine wp_mono (h _ _ _ ⟨S, β, hrel⟩) fun e a w' ⟨σ, ⟨he, hfin⟩, S2, β2, hr2⟩ => ?_
  have hpost : ∃ v, (results fn a.tmps).run P w' = .ok v w' ∧ ∃ v' S', Ending.returned v = .returned v' ∧ Grew (fun g => ∃ (j : Nat) (x : SO) (u : Value), ins[j]? = some (SIn.o x) ∧ vs[j]? = some u ∧ blkOf u = some g) w w' ∧
      (∀ b, S' b → (res.dep = true ∧ S b) ∨ w.heap.size ≤ b) ∧ (∀ b, S' b → b < w'.heap.size) ∧ ValsR (ResR w' S' w.heap.size) res.outs v' ∧
      ∀ (j : Nat) x u, (j, x) ∈ res.objs → vs[j]? = some u → ObjR w' (fun b => S b ∨ S' b) bz x u ∧ ∀ g, blkOf u = some g → ¬ S' g := by
    have hnew : ∀ d x g, d < σ.n → (d, x) ∈ σ.o → blkOf (β2 d) = some g → w.heap.size ≤ g := by
      intro d x g hd hm hg
      rcases (hr2.priv d x g hm hg).2 with h1 | ⟨h1, _⟩
      · exact h1
      · omega
    have hS' : ∀ b, (S2 b ∧ (res.dep = true ∨ w.heap.size ≤ b)) → (res.dep = true ∧ S b) ∨ w.heap.size ≤ b := by
      intro b ⟨h1, h2⟩
      rcases hr2.s1 b h1 with h3 | h3
      · rcases h2 with h2 | h2
        · exact .inl ⟨h2, h3⟩
        · exact .inr h2
      · exact .inr h3
    have hnodep : ∀ {x : SV} {u : Value}, SVr w' S2 β2 x u → (res.dep = true ∨ x.Flat) → x.names = [] → SVr w' (fun b => S2 b ∧ (res.dep = true ∨ w.heap.size ≤ b)) bz x u := by
      intro x u hx hd hnm
      rcases hd with hd | hd
      · exact (hx.keep (fun _ _ => rfl) fun b hb => ⟨hb, .inl hd⟩).agree fun d hd => by rw [hnm] at hd; cases hd
      · exact (hx.free hd).agree fun d hd => by rw [hnm] at hd; cases hd
    have hres : ∀ (i : Nat) t r, rs[i]? = some t → res.outs[i]? = some r → ∃ u, (readR a.tmps t).run P w' = .ok u w' ∧ ResR w' (fun b => S2 b ∧ (res.dep = true ∨ w.heap.size ≤ b)) w.heap.size r u := by
      intro i t r h1 h2
      have h3 := hfin.out i t r h1 h2
      cases r with
      | v x =>
        obtain ⟨h4, h5, h6⟩ := h3
        obtain ⟨u, h7, h8⟩ := holds_ok hr2 h6
        exact ⟨u, h7, h4, hnodep h8 h5 h4⟩
      | own e m n es =>
        obtain ⟨d, h4, h5, h6, h7⟩ := h3
        obtain ⟨u, h11, h8⟩ := holds_ok hr2 h4
        refine ⟨u, h11, ?_⟩
        cases h8
        refine ⟨?_, fun g hg => ⟨hnew d _ g h7 h5 hg, fun hc => (hr2.priv d _ g h5 hg).1 hc.1⟩⟩
        have h9 := hr2.obj d _ h5
        cases h9 with
        | arr e m n es v xs hn' hown he' hh =>
          refine .arr e m n es _ xs hn' hown he' fun i x j t u hi hj hu => ?_
          have h10 := hh i x j t u hi hj hu
          rcases h6 with h6 | h6
          · exact h10.keep (fun _ _ => rfl) fun b hb => ⟨hb, .inl h6⟩
          · exact h10.free (h6 x (List.mem_of_getElem? hi) t (List.mem_of_getElem? hj))
      | box cs =>
        obtain ⟨d, h4, h5, h5', h6, h7⟩ := h3
        obtain ⟨u, h11, h8⟩ := holds_ok hr2 h4
        refine ⟨u, h11, ?_⟩
        have h9 := hr2.obj d _ h5
        have hg' := fun g => hnew d _ g h7 h5
        have hp' := fun g => hr2.priv d _ g h5
        cases h8 with
        | ref d o g hd =>
          rw [hd] at h9
          refine ⟨h5', ?_, fun g' hg => ⟨hg' g' (by rw [hd]; exact hg), fun hc => (hp' g' (by rw [hd]; exact hg)).1 hc.1⟩⟩
          cases h9 with
          | box cs g us T hgg hl hh =>
            refine .box cs g us T hgg hl fun j c v hc hv => hnodep (hh j c v hc hv) ?_ ?_
            · rcases h6 with h6 | h6
              · exact .inl h6
              · exact .inr (SV.flat_mem h6 (List.mem_of_getElem? hc))
            · apply List.eq_nil_iff_forall_not_mem.2
              intro k hk
              have : k ∈ SV.names.namesL cs := SV.mem_namesL (List.mem_of_getElem? hc) hk
              have h11 : SV.names.namesL cs = [] := h5'
              rw [h11] at this
              cases this
    obtain ⟨us, hul, hus⟩ : ∃ us : List Value, us.length = rs.length ∧ ∀ (i : Nat) t r u, rs[i]? = some t → res.outs[i]? = some r → us[i]? = some u → (readR a.tmps t).run P w' = .ok u w' ∧ ResR w' (fun b => S2 b ∧ (res.dep = true ∨ w.heap.size ≤ b)) w.heap.size r u := by
      have hch : ∀ i : Nat, ∃ u, ∀ t r, rs[i]? = some t → res.outs[i]? = some r → (readR a.tmps t).run P w' = .ok u w' ∧ ResR w' (fun b => S2 b ∧ (res.dep = true ∨ w.heap.size ≤ b)) w.heap.size r u := by
        intro i
        rcases ht : rs[i]? with _ | t
        · exact ⟨undef, fun t r h => by simp at h⟩
        · rcases hrr : res.outs[i]? with _ | r
          · exact ⟨undef, fun t r _ h => by simp at h⟩
          · obtain ⟨u, h1, h2⟩ := hres i t r ht hrr
            exact ⟨u, fun t' r' h3 h4 => by injection h3 with h3; injection h4 with h4; subst h3 h4; exact ⟨h1, h2⟩⟩
      obtain ⟨f, hf⟩ := Classical.axiomOfChoice hch
      refine ⟨(List.range rs.length).map f, by simp, fun i t r u h1 h2 h3 => ?_⟩
      rw [List.getElem?_map, List.getElem?_range (List.getElem?_eq_some_iff.1 h1).1] at h3
      injection h3 with h3
      subst h3
      exact hf i t r h1 h2
    have hread : ∀ (i : Nat) t u, rs[i]? = some t → us[i]? = some u → (readR a.tmps t).run P w' = .ok u w' := fun i t u h1 h2 => by
      have hlt := (List.getElem?_eq_some_iff.1 h1).1
      have hlen := hfin.len
      exact (hus i t (res.outs[i]'(by omega)) u h1 (List.getElem?_eq_getElem _) h2).1
    have hus' : ∀ (i : Nat) r u, res.outs[i]? = some r → us[i]? = some u → ResR w' (fun b => S2 b ∧ (res.dep = true ∨ w.heap.size ≤ b)) w.heap.size r u := fun i r u h1 h2 => by
      have hlt := (List.getElem?_eq_some_iff.1 h2).1
      exact (hus i (rs[i]'(by omega)) r u (List.getElem?_eq_getElem _) h1 h2).2
    refine ⟨rets us, run_results hr hul hread, rets us, fun b => S2 b ∧ (res.dep = true ∨ w.heap.size ≤ b), rfl, ?_, hS', fun b hb => hr2.lt b hb.1, ?_, fun j x u hj hu => ?_⟩
    · have hg := hr2.grew
      refine ⟨hg.os, hg.tape, hg.output, hg.size, fun k hk hx => hg.block k hk fun hX => hx ?_⟩
      obtain ⟨d, v, h1, h2⟩ := hX
      obtain ⟨j, x, _, h3, h4⟩ := (hpin d v).1 h1
      exact ⟨j, x, v, h3, h4, h2⟩
    · have hlen := hfin.len
      have htup : ∃ vs : Array Value, Value.tuple us.toArray = .tuple vs ∧ vs.size = res.outs.length ∧ ∀ (i : Nat) r u, res.outs[i]? = some r → vs[i]? = some u → ResR w' (fun b => S2 b ∧ (res.dep = true ∨ w.heap.size ≤ b)) w.heap.size r u :=
        ⟨_, rfl, by simp [hul, hlen], fun i r u h1 h2 => hus' i r u h1 (by simpa using h2)⟩
      have hl3 : us.length = res.outs.length := hul.trans hlen
      clear hus hread
      unfold rets
      generalize res.outs = outs at *
      match us, outs, hl3 with
      | [t], [r], _ => exact hus' 0 r t rfl rfl
      | [], [], _ => exact htup
      | t :: t' :: ts, r :: r' :: rs', _ => exact htup
    · obtain ⟨h1, h2, z, h3⟩ := hfin.obj j x hj
      have h4 := (hr2.pin (hi j) u ((hpin _ _).2 ⟨j, z, rfl, h3, hu⟩)).2 x h1
      have h5 := hr2.obj _ _ h1
      rw [h4] at h5
      refine ⟨(h5.keep (fun _ _ => rfl) fun b hb => ?_).agree (fun d hd => by rw [h2] at hd; cases hd), fun g hg hc => ?_⟩
      · rcases hr2.s1 b hb with h6 | h6
        · exact .inl h6
        · exact .inr ⟨hb, .inr h6⟩
      · exact (hr2.priv _ x g h1 (by rw [h4]; exact hg)).1 hc.1
  obtain ⟨v, h1, h2⟩ := hpost
  rcases he with rfl | rfl
  · exact ⟨hr2.defers, v, h1, h2⟩
  · exact ⟨hr2.defers, v, h1, h2⟩
end
end Go.Proofs.Ytnnpmbcamnnfgaa.Sh
