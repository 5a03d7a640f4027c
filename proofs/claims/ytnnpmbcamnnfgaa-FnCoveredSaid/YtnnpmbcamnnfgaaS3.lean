/- Shadow operations that leave the world alone: each does in memory what its shadow says. -/
import Derived.Test.YtnnpmbcamnnfgaaS2
namespace Go.Proofs.Ytnnpmbcamnnfgaa.Sh
open Go.RowKit
section
variable {P : Program} {tb : Tb} {c : Cx} {S : Nat → Prop} {β : Nat → Value} {σ : SS} {a : Act} {w : World}
theorem TIok.info' {t : Nat} {i : TI} (h : TIok P t i) : ∃ j, P.info? t = some j ∧ j.size = i.size ∧ j.bytes = i.bytes ∧ ∀ vs, zvals i.zero = some vs → ∃ z, j.zero = some z ∧ z.cells.toList = vs := by
  have h1 := h.info
  rcases hi : P.info? t with _ | j
  · rw [hi] at h1; simp at h1
  · rw [hi] at h1
    simp only [Option.map_some, Option.some.injEq, Prod.mk.injEq] at h1
    obtain ⟨h2, h3, h4⟩ := h1
    refine ⟨j, rfl, h2, h3, fun vs hvs => ?_⟩
    rw [hvs] at h4
    simpa [Option.map_eq_some_iff] using h4
theorem TIok.size {t : Nat} {i : TI} (h : TIok P t i) (w : World) : (sizeOf t).run P w = .ok i.size w := by
  obtain ⟨j, h1, h2, _⟩ := h.info'
  simp [sizeOf, typeInfo, h1, h2]
theorem TIok.agg {t : Nat} {i : TI} (h : TIok P t i) (w : World) : (isAgg t).run P w = .ok i.d.isAgg w := by
  have hd := h.d
  unfold isAgg
  cases hi : i.d <;> rw [hi] at hd <;> unfold TDok at hd
  case other => exact hd.elim
  case struct fs =>
    unfold structOf at hd
    cases hu : P.underlying t with
    | none => rw [hu] at hd; simp at hd
    | some d =>
      rw [hu] at hd
      cases d <;> simp at hd
      simp [run_underlying hu, TD.isAgg]
  all_goals simp [run_underlying hd, TD.isAgg]
theorem TIok.struct {t : Nat} {i : TI} (h : TIok P t i) {fs : List (Nat × Nat)} (hd : i.d = .struct fs) : ∃ f : Array Field, P.underlying t = some (.struct f) ∧ f.toList.map (fun x => (x.offset, x.type)) = fs := by
  have h1 := h.d
  rw [hd] at h1
  unfold TDok structOf at h1
  cases hu : P.underlying t with
  | none => rw [hu] at h1; simp at h1
  | some d =>
    rw [hu] at h1
    cases d <;> simp at h1
    exact ⟨_, rfl, h1⟩
theorem fieldOf {fs : List (Nat × Nat)} {f : Array Field} (h : f.toList.map (fun x => (x.offset, x.type)) = fs) {k off ft : Nat} (hk : fs[k]? = some (off, ft)) : ∃ y, f[k]? = some y ∧ y.offset = off ∧ y.type = ft := by
  subst h
  rw [List.getElem?_map] at hk
  rcases hf : f.toList[k]? with _ | y
  · rw [hf] at hk; simp at hk
  · rw [hf] at hk
    simp at hk
    exact ⟨y, by simpa using hf, hk.1, hk.2⟩

/-- Loading at cell o of cells that lie in block g from b on. -/
theorem ldc_ok {t : Nat} {i : TI} (hi : TIok P t i) {cs : List SV} {g b o : Nat} {u : Nat → Value} (hu : ∀ (j : Nat) x, cs[j]? = some x → SVr w S β x (u j)) (hc : ∀ (j : Nat) x, cs[j]? = some x → w.cell? ⟨g, b + j, none⟩ = some (u j))
    {v : SV} (h : ldc i cs o = some v) : ∃ r, (loadVar t ⟨g, b + o, none⟩).run P w = .ok r w ∧ SVr w S β v r := by
  unfold ldc at h
  split at h
  · rename_i hag
    split at h
    · rename_i hlen
      injection h with h
      subst h
      have h1 := run_loadCells (P := P) w ⟨g, b + o, none⟩ i.size (fun j => u (o + j)) (fun j hj => by
        rw [Addr.add_lit, Nat.add_assoc]
        exact hc (o + j) (cs[o + j]'(by omega)) (List.getElem?_eq_getElem _))
      refine ⟨_, by simp [loadVar, hi.agg, hag, hi.size, h1]; rfl, .agg _ _ (by simp; omega) fun j x y hx hy => ?_⟩
      rw [List.getElem?_take] at hx
      split at hx
      · rename_i hj
        rw [List.getElem?_toArray, List.getElem?_map, List.getElem?_range hj] at hy
        injection hy with hy
        subst hy
        exact hu _ _ (by simpa using hx)
      · cases hx
    · cases h
  · rename_i hag
    exact ⟨u o, by simp [loadVar, hi.agg, hag, load, Sem.run, hc o v h], hu o v h⟩
theorem ldcA_ok {t : Nat} {i : TI} (hi : TIok P t i) {cs : List SV} {vs : Array Value} {o : Nat} (hl : cs.length = vs.size) (hu : ∀ (j : Nat) x y, cs[j]? = some x → vs[j]? = some y → SVr w S β x y)
    {v : SV} (h : ldc i cs o = some v) : ∃ r, (part t vs o).run P w = .ok r w ∧ SVr w S β v r := by
  unfold ldc at h
  split at h
  · rename_i hag
    split at h
    · rename_i hlen
      injection h with h
      subst h
      refine ⟨_, by simp [part, hi.agg, hag, hi.size]; rfl, .agg _ _ (by simp; omega) fun j x y hx hy => ?_⟩
      rw [List.getElem?_take] at hx
      split at hx
      · rw [Array.getElem?_extract] at hy
        split at hy
        · exact hu (o + j) x y (by simpa using hx) (by simpa using hy)
        · cases hy
      · cases hx
    · cases h
  · rename_i hag
    have hlt := (List.getElem?_eq_some_iff.1 h).1
    have hv : vs[o]? = some vs[o] := Array.getElem?_eq_getElem (by omega)
    exact ⟨vs[o], by simp [part, hi.agg, hag, hv], hu o v _ h hv⟩
theorem Addr.add_zero' (x : Addr) : x.add 0 = x := rfl
theorem shiftA_ok {x v : SV} {k : Nat} (h : shiftA x k = some v) {y : Value} (hy : SVr w S β x y) : ∃ g o, y = .pointer (some ⟨g, o, none⟩) ∧ SVr w S β v (.pointer (some ⟨g, o + k, none⟩)) := by
  cases x <;> simp only [shiftA, Option.some.injEq, reduceCtorEq] at h <;> subst h
  case ptr cs o =>
    cases hy with
    | ptr cs o g b u hs hh hc => exact ⟨g, b + o, rfl, by rw [Nat.add_assoc]; exact .ptr cs (o + k) g b u hs hh hc⟩
  case ref d o =>
    cases hy with
    | ref d o g hh => exact ⟨g, o, rfl, .ref d (o + k) g hh⟩
  case eref d m i j =>
    cases hy with
    | eref d m i j g n c hh => exact ⟨g, i * m + j, rfl, by rw [Nat.add_assoc]; exact .eref d m i (j + k) g n c hh⟩
theorem bop_ok {op : BinOp} {x y r : Tr} (h : bop op x y = some r) {u v : Value} (hu : TV w S x u) (hv : TV w S y v) (t : TypeId) (p q : Operand) :
    ∃ z, (do eqGuard op t p q u v; binOp op t u v : Sem Value).run P w = .ok z w ∧ TV w S r z := by
  cases op <;> cases x <;> cases y <;> simp only [bop, reduceCtorEq] at h <;> (first | (split at h <;> simp only [Option.some.injEq, reduceCtorEq] at h) | simp only [Option.some.injEq] at h) <;> subst h <;> cases hu <;> cases hv <;> (try subst_vars) <;>
    first
      | exact ⟨.int _ _, by simp [eqGuard, binOp, Op.intArith, Op.intCmp, Op.intBits, Op.stringOp, Op.shift, Op.intDiv], .int _ _⟩
      | exact ⟨.bool _, by simp [eqGuard, binOp, Op.intArith, Op.intCmp, Op.intBits, Op.stringOp, Op.shift, Op.intDiv], .bool _⟩
theorem bopc_ok {op : BinOp} {x r : Tr} {v : Value} (h : bopc op x v = some r) {u : Value} (hu : TV w S x u) (t : TypeId) (p q : Operand) :
    ∃ z, (do eqGuard op t p q u v; binOp op t u v : Sem Value).run P w = .ok z w ∧ TV w S r z := by
  cases op <;> cases x <;> simp only [bopc, reduceCtorEq] at h <;> cases v <;> simp only [reduceCtorEq] at h <;> split at h <;> simp only [Option.some.injEq, reduceCtorEq] at h <;> subst h <;> cases hu <;> rename_i hh
  · obtain ⟨rfl, h0⟩ := hh
    exact ⟨.int _ _, by simp [eqGuard, binOp, Op.intDiv, h0], .int _ _⟩
  · obtain ⟨rfl, h0⟩ := hh
    exact ⟨.int _ _, by simp [eqGuard, binOp, Op.intDiv, h0], .int _ _⟩
  · exact ⟨.int _ _, by simp [eqGuard, binOp, Op.shift, Int.not_lt.2 hh], .int _ _⟩
  · exact ⟨.int _ _, by simp [eqGuard, binOp, Op.shift, Int.not_lt.2 hh], .int _ _⟩
end
end Go.Proofs.Ytnnpmbcamnnfgaa.Sh
