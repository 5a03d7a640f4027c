/- A call inside a region, by what its function is known to do. -/
import Derived.Test.YtnnpmbcamnnfgaaS11
namespace Go.Proofs.Ytnnpmbcamnnfgaa.Sh
open Go.RowKit
/-- A frame value as a callee may read it: the frame's own slices and variables as they stand. -/
def ro0 (σ : SS) : SV → Option SV
  | .tr t => some (.tr t)
  | .own d => match find d σ.o with
    | some (.arr _ _ n es) => some (.tr (.sl n es))
    | _ => none
  | .ptr cs o => if SV.names.namesL cs = [] then some (.ptr cs o) else none
  | .clo f cs => if SV.names.namesL cs = [] then some (.clo f cs) else none
  | _ => none
def ro0L (σ : SS) : List SV → Option (List SV)
  | [] => some []
  | x :: r => match ro0 σ x, ro0L σ r with
    | some y, some ys => some (y :: ys)
    | _, _ => none
def ro1 (σ : SS) : SV → Option SV
  | .ref d o => match find d σ.o with
    | some (.box cs) => (ro0L σ cs).map fun ys => .ptr ys o
    | _ => none
  | .agg cs => (ro0L σ cs).map .agg
  | x => ro0 σ x
def ro1L (σ : SS) : List SV → Option (List SV)
  | [] => some []
  | x :: r => match ro1 σ x, ro1L σ r with
    | some y, some ys => some (y :: ys)
    | _, _ => none
def ro2 (σ : SS) : SV → Option SV
  | .clo f cs => (ro1L σ cs).map (.clo f)
  | x => ro1 σ x
def ro2L (σ : SS) : List SV → Option (List SV)
  | [] => some []
  | x :: r => match ro2 σ x, ro2L σ r with
    | some y, some ys => some (y :: ys)
    | _, _ => none
/-- A call of the function enters it. -/
def Ents (P : Program) (g : FuncId) : Prop := ∀ (args : Array Value) (w : World), (callFunc g args).run P w = .ok (.enter g args) w
theorem ents_of {P : Program} {f : FuncId} {fn : Func} {c : Code} (hf : P.funcs[f]? = some fn) (hname : (fn.name == "runtime.NumGoroutine") = false) (hb : fn.body = some c) : Ents P f := by
  intro args w
  have h1 : fn.name ≠ "runtime.NumGoroutine" := by simpa using hname
  simp [callFunc, hf, h1, hb, mark]
/-- The results as the caller holds them. -/
def comps (d : Nat) : List SR → Option (List SV × Option SO)
  | [] => some ([], none)
  | .v x :: r => match comps d r with
    | some (xs, y) => some (x :: xs, y)
    | none => none
  | .own e m n es :: r => match comps d r with
    | some (xs, none) => some (.own d :: xs, some (.arr e m n es))
    | _ => none
  | .box cs :: r => match comps d r with
    | some (xs, none) => some (.ref d 0 :: xs, some (.box cs))
    | _ => none
def retS (d : Nat) : List SR → Option (SV × Option SO)
  | [r] => match comps d [r] with
    | some ([x], y) => some (x, y)
    | _ => none
  | rs => match comps d rs with
    | some (xs, y) => some (.tup xs, y)
    | none => none
section
variable {P : Program} {c : Cx} {S Sc : Nat → Prop} {β : Nat → Value} {ν σ : SS} {a : Act} {w : World}
theorem own_tree (hr : Rel c S β ν a w) (hS : ∀ b, S b → Sc b) {d e m n : Nat} {es : List (List Tr)} (hd : (d, SO.arr e m n es) ∈ ν.o) (hc : ∀ g, blkOf (β d) = some g → Sc g) : TV w Sc (.sl n es) (β d) := by
  have ho := hr.obj d _ hd
  cases ho with
  | arr e m n es v xs hn hown he hh =>
    have hl := hown.1
    have hx : ∀ (i : Nat) x (j : Nat) t, es[i]? = some x → x[j]? = some t → ∃ u, xs[i * m + j]? = some u := by
      intro i x j t hi hj
      have h1 := (List.getElem?_eq_some_iff.1 hi).1
      have h2 := (List.getElem?_eq_some_iff.1 hj).1
      have h3 := he x (List.mem_of_getElem? hi)
      have h4 : i * m + j < n * m := by
        have : (i + 1) * m ≤ n * m := Nat.mul_le_mul_right _ (by omega)
        rw [Nat.add_mul] at this
        omega
      exact ⟨xs[i * m + j]'(by omega), List.getElem?_eq_getElem _⟩
    have hu : ∀ (i : Nat) x (j : Nat) t, es[i]? = some x → x[j]? = some t → TV w Sc t (xs.getD (i * m + j) undef) := by
      intro i x j t hi hj
      obtain ⟨u, hu⟩ := hx i x j t hi hj
      rw [List.getD_eq_getElem?_getD, hu]
      exact (hh i x j t u hi hj hu).keep (fun _ _ => rfl) hS
    rcases hown.2 with ⟨h1, h2⟩ | ⟨g, cap, cur, h1, _, h2, h3, h4, h5, h6⟩
    · rw [h1]
      subst h2
      have : es = [] := List.eq_nil_of_length_eq_zero hn
      subst this
      exact .sl [] none 0 0 m (fun _ _ => default) rfl (Nat.le_refl _) (by simp [maxLen]) (by simp) (fun i x j t hi => by simp at hi) (by simp)
    · rw [h1]
      refine .sl es _ n cap m (fun i j => xs.getD (i * m + j) undef) hn h3 h4 he hu fun _ => ⟨g, 0, rfl, hc g (by rw [h1]; rfl), fun i x j t hi hj => ?_⟩
      obtain ⟨u, hu'⟩ := hx i x j t hi hj
      have h7 := hown.cells (g := g) (by rw [h1]; rfl) (i * m + j) u hu'
      rw [Addr.add_lit] at h7
      rw [Nat.zero_add] at h7 ⊢
      rw [h7, List.getD_eq_getElem?_getD, hu']
      rfl
/-- What the objects that a value names may be read through. -/
def Thru (Sc : Nat → Prop) (β : Nat → Value) (ν : SS) (l : List Nat) : Prop := ∀ d ∈ l, ∀ x, (d, x) ∈ ν.o → (∀ g, blkOf (β d) = some g → Sc g) ∧ ∀ k ∈ x.names, ∀ y, (k, y) ∈ ν.o → ∀ g, blkOf (β k) = some g → Sc g
theorem bzr {x : SV} {v : Value} (h : SVr w S β x v) (hS : ∀ b, S b → Sc b) (hn : x.names = []) : SVr w Sc bz x v := (h.keep (fun _ _ => rfl) hS).agree fun d hd => by rw [hn] at hd; cases hd
theorem ro0_ok (hr : Rel c S β ν a w) (hS : ∀ b, S b → Sc b) {x y : SV} (h : ro0 ν x = some y) (hT : ∀ d ∈ x.names, ∀ z, (d, z) ∈ ν.o → ∀ g, blkOf (β d) = some g → Sc g) {v : Value} (hv : SVr w S β x v) : SVr w Sc bz y v ∧ y.names = [] := by
  cases x <;> simp only [ro0, reduceCtorEq] at h
  case tr t => injection h with h; subst h; exact ⟨bzr hv hS rfl, rfl⟩
  case own d =>
    split at h
    · rename_i e m n es hd
      injection h with h
      subst h
      have hm := mem_of_find hd
      cases hv with
      | own d => exact ⟨.tr _ _ (own_tree hr hS hm fun g hg => hT d (by simp [SV.names]) _ hm g hg), rfl⟩
    · cases h
  case ptr cs o =>
    split at h
    · rename_i hn
      injection h with h
      subst h
      exact ⟨bzr hv hS hn, hn⟩
    · cases h
  case clo f cs =>
    split at h
    · rename_i hn
      injection h with h
      subst h
      exact ⟨bzr hv hS hn, hn⟩
    · cases h
theorem ro0L_ok (hr : Rel c S β ν a w) (hS : ∀ b, S b → Sc b) : ∀ {xs ys : List SV}, ro0L ν xs = some ys → (∀ d ∈ SV.names.namesL xs, ∀ z, (d, z) ∈ ν.o → ∀ g, blkOf (β d) = some g → Sc g) →
    ys.length = xs.length ∧ SV.names.namesL ys = [] ∧ ∀ (j : Nat) x y v, xs[j]? = some x → ys[j]? = some y → SVr w S β x v → SVr w Sc bz y v
  | [], ys, h, _ => by injection h with h; subst h; simp [SV.names.namesL]
  | x :: xs, ys, h, hT => by
    unfold ro0L at h
    split at h
    · rename_i y ys' hy hys
      injection h with h
      subst h
      have h1 : ∀ d ∈ x.names, d ∈ SV.names.namesL (x :: xs) := fun d hd => SV.mem_namesL List.mem_cons_self hd
      have h2 : ∀ d ∈ SV.names.namesL xs, d ∈ SV.names.namesL (x :: xs) := fun d hd => by
        unfold SV.names.namesL
        exact List.mem_append_right _ hd
      obtain ⟨h3, h4, h5⟩ := ro0L_ok hr hS hys fun d hd => hT d (h2 d hd)
      have hyn : y.names = [] := by
        cases x <;> simp only [ro0, reduceCtorEq] at hy
        case tr t => injection hy with hy; subst hy; rfl
        case own d =>
          split at hy
          · injection hy with hy; subst hy; rfl
          · cases hy
        case ptr cs o =>
          split at hy
          · injection hy with hy; subst hy; assumption
          · cases hy
        case clo f cs =>
          split at hy
          · injection hy with hy; subst hy; assumption
          · cases hy
      refine ⟨by simp [h3], by unfold SV.names.namesL; rw [hyn, h4]; rfl, fun j p q v hp hq hv => ?_⟩
      cases j with
      | zero =>
        simp at hp hq
        subst hp hq
        exact (ro0_ok hr hS hy (fun d hd => hT d (h1 d hd)) hv).1
      | succ j => exact h5 j p q v (by simpa using hp) (by simpa using hq) hv
    · cases h
theorem ro1_ok (hr : Rel c S β ν a w) (hS : ∀ b, S b → Sc b) {x y : SV} (h : ro1 ν x = some y) (hT : Thru Sc β ν x.names) : y.names = [] ∧ ∀ v, SVr w S β x v → SVr w Sc bz y v := by
  have hT0 : ∀ d ∈ x.names, ∀ z, (d, z) ∈ ν.o → ∀ g, blkOf (β d) = some g → Sc g := fun d hd z hz => (hT d hd z hz).1
  have base : ro0 ν x = some y → y.names = [] ∧ ∀ v, SVr w S β x v → SVr w Sc bz y v := by
    intro h0
    have h1 : ro0L ν [x] = some [y] := by simp [ro0L, h0]
    obtain ⟨_, h3, h4⟩ := ro0L_ok hr hS h1 (by
      intro d hd
      simp only [SV.names.namesL, List.append_nil] at hd
      exact hT0 d hd)
    simp only [SV.names.namesL, List.append_nil] at h3
    exact ⟨h3, fun v hv => h4 0 x y v rfl rfl hv⟩
  cases x
  case ref d o =>
    simp only [ro1] at h
    split at h
    · rename_i cs hd
      rw [Option.map_eq_some_iff] at h
      obtain ⟨ys, h1, rfl⟩ := h
      have hm := mem_of_find hd
      have hdm : d ∈ (SV.ref d o).names := by simp [SV.names]
      obtain ⟨h2, h3, h4⟩ := ro0L_ok hr hS h1 fun k hk z hz => (hT d hdm _ hm).2 k hk z hz
      refine ⟨h3, fun v hv => ?_⟩
      cases hv with
      | ref d o g hg =>
        have ho := hr.obj d _ hm
        have hb : blkOf (β d) = some g := by rw [hg]; rfl
        rw [hg] at ho
        cases ho with
        | box cs g us T hgg hl hh =>
          have := SVr.ptr (w := w) (S := Sc) (β := bz) ys o g 0 (fun j => us.getD j undef) (hT0 d hdm _ hm g hb) (fun j y hy => ?_) (fun j y hy => ?_)
          · rwa [Nat.zero_add] at this
          · have hj := (List.getElem?_eq_some_iff.1 hy).1
            have hx : cs[j]? = some (cs[j]'(by omega)) := List.getElem?_eq_getElem _
            refine h4 j _ y _ hx hy (hh j _ _ hx ?_)
            simp [Array.getD, show j < us.size by omega]
          · have hj := (List.getElem?_eq_some_iff.1 hy).1
            rw [Nat.zero_add, cell_of_row w g j us T (0, 0) hgg]
            simp [Array.getD, show j < us.size by omega]
    · cases h
  case agg cs =>
    simp only [ro1, Option.map_eq_some_iff] at h
    obtain ⟨ys, h1, rfl⟩ := h
    obtain ⟨h2, h3, h4⟩ := ro0L_ok hr hS h1 hT0
    refine ⟨h3, fun v hv => ?_⟩
    cases hv with
    | agg cs us hl hh =>
      refine .agg ys us (by omega) fun j y u hy hu => ?_
      have hj := (List.getElem?_eq_some_iff.1 hy).1
      have hx : cs[j]? = some (cs[j]'(by omega)) := List.getElem?_eq_getElem _
      exact h4 j _ y u hx hy (hh j _ u hx hu)
  all_goals exact base h
theorem ro1L_ok (hr : Rel c S β ν a w) (hS : ∀ b, S b → Sc b) : ∀ {xs ys : List SV}, ro1L ν xs = some ys → Thru Sc β ν (SV.names.namesL xs) →
    ys.length = xs.length ∧ SV.names.namesL ys = [] ∧ ∀ (j : Nat) x y v, xs[j]? = some x → ys[j]? = some y → SVr w S β x v → SVr w Sc bz y v
  | [], ys, h, _ => by injection h with h; subst h; simp [SV.names.namesL]
  | x :: xs, ys, h, hT => by
    unfold ro1L at h
    split at h
    · rename_i y ys' hy hys
      injection h with h
      subst h
      have h1 : ∀ d ∈ x.names, d ∈ SV.names.namesL (x :: xs) := fun d hd => SV.mem_namesL List.mem_cons_self hd
      have h2 : ∀ d ∈ SV.names.namesL xs, d ∈ SV.names.namesL (x :: xs) := fun d hd => by
        unfold SV.names.namesL
        exact List.mem_append_right _ hd
      obtain ⟨h3, h4, h5⟩ := ro1L_ok hr hS hys fun d hd => hT d (h2 d hd)
      obtain ⟨h6, h7⟩ := ro1_ok hr hS hy fun d hd => hT d (h1 d hd)
      refine ⟨by simp [h3], by unfold SV.names.namesL; rw [h6, h4]; rfl, fun j p q v hp hq hv => ?_⟩
      cases j with
      | zero =>
        simp at hp hq
        subst hp hq
        exact h7 v hv
      | succ j => exact h5 j p q v (by simpa using hp) (by simpa using hq) hv
    · cases h
theorem ro2_ok (hr : Rel c S β ν a w) (hS : ∀ b, S b → Sc b) {x y : SV} (h : ro2 ν x = some y) (hT : Thru Sc β ν x.names) : y.names = [] ∧ ∀ v, SVr w S β x v → SVr w Sc bz y v := by
  cases x
  case clo f cs =>
    simp only [ro2, Option.map_eq_some_iff] at h
    obtain ⟨ys, h1, rfl⟩ := h
    obtain ⟨h2, h3, h4⟩ := ro1L_ok hr hS h1 hT
    refine ⟨h3, fun v hv => ?_⟩
    cases hv with
    | clo f cs us hl hh =>
      refine .clo f ys us (by omega) fun j y u hy hu => ?_
      have hj := (List.getElem?_eq_some_iff.1 hy).1
      have hx : cs[j]? = some (cs[j]'(by omega)) := List.getElem?_eq_getElem _
      exact h4 j _ y u hx hy (hh j _ u hx hu)
  all_goals exact ro1_ok hr hS h hT
theorem ro2L_ok (hr : Rel c S β ν a w) (hS : ∀ b, S b → Sc b) : ∀ {xs ys : List SV}, ro2L ν xs = some ys → Thru Sc β ν (SV.names.namesL xs) →
    ys.length = xs.length ∧ SV.names.namesL ys = [] ∧ ∀ (j : Nat) x y v, xs[j]? = some x → ys[j]? = some y → SVr w S β x v → SVr w Sc bz y v
  | [], ys, h, _ => by injection h with h; subst h; simp [SV.names.namesL]
  | x :: xs, ys, h, hT => by
    unfold ro2L at h
    split at h
    · rename_i y ys' hy hys
      injection h with h
      subst h
      have h1 : ∀ d ∈ x.names, d ∈ SV.names.namesL (x :: xs) := fun d hd => SV.mem_namesL List.mem_cons_self hd
      have h2 : ∀ d ∈ SV.names.namesL xs, d ∈ SV.names.namesL (x :: xs) := fun d hd => by
        unfold SV.names.namesL
        exact List.mem_append_right _ hd
      obtain ⟨h3, h4, h5⟩ := ro2L_ok hr hS hys fun d hd => hT d (h2 d hd)
      obtain ⟨h6, h7⟩ := ro2_ok hr hS hy fun d hd => hT d (h1 d hd)
      refine ⟨by simp [h3], by unfold SV.names.namesL; rw [h6, h4]; rfl, fun j p q v hp hq hv => ?_⟩
      cases j with
      | zero =>
        simp at hp hq
        subst hp hq
        exact h7 v hv
      | succ j => exact h5 j p q v (by simpa using hp) (by simpa using hq) hv
    · cases h
/-- New blocks may be read through. -/
theorem Rel.more (hr : Rel c S β σ a w) {w' : World} (hg : Grew (fun _ => False) w w') {S' : Nat → Prop} (h1 : ∀ b, S' b → S b ∨ w.heap.size ≤ b) (h2 : ∀ b, S' b → b < w'.heap.size) : Rel c (fun b => S b ∨ S' b) β σ a w' where
  defers := hr.defers
  size := hr.size
  one := hr.one
  grew := (hr.world hg).grew
  s0 b hb := .inl (hr.s0 b hb)
  s1 b hb := by
    have hw := hr.grew.size
    rcases hb with hb | hb
    · exact hr.s1 b hb
    · rcases h1 b hb with h | h
      · exact hr.s1 b h
      · exact .inr (Nat.le_trans hw h)
  lt b hb := hb.elim (fun h => Nat.lt_of_lt_of_le (hr.lt b h) hg.size) (h2 b)
  tmp i x hi := ⟨(hr.tmp i x hi).1, (hr.tmp i x hi).2.keep (fun b hb => hg.block b (hr.lt b hb) id) fun _ h => .inl h⟩
  obj d x hd := (hr.obj d x hd).keep (fun b hb => hg.block b (hb.elim (hr.lt b) fun h => (hr.obj d x hd).lt h) id) fun _ h => .inl h
  pin := hr.pin
  priv d x g hd hgb := ⟨fun hb => by
    rcases hb with hb | hb
    · exact (hr.priv d x g hd hgb).1 hb
    · rcases h1 g hb with h | h
      · exact (hr.priv d x g hd hgb).1 h
      · exact absurd ((hr.obj d x hd).lt hgb) (by omega), (hr.priv d x g hd hgb).2⟩
  apart := hr.apart
end
end Go.Proofs.Ytnnpmbcamnnfgaa.Sh
