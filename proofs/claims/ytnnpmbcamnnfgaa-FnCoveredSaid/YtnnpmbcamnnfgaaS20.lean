/- More steps: structs compared, a cell of an array by a variable, a call that changes what it is handed. -/
import Derived.Test.YtnnpmbcamnnfgaaS19
import Derived.Laws.StructEq
namespace Go.Proofs.Ytnnpmbcamnnfgaa.Sh
open Go.RowKit
def eqTr : SV → SV → Option Bool
  | .tr (.int k a), .tr (.int k' b) => if k = k' then some (a == b) else none
  | .tr (.bool a), .tr (.bool b) => some (a == b)
  | .tr (.str a), .tr (.str b) => some (a.toList == b.toList)
  | _, _ => none
def eqFs (tb : Tb) (rec : Nat → SV → SV → Option Bool) (xs ys : List SV) : List (Nat × Nat) → Option Bool
  | [] => some true
  | (off, t) :: fs => match find t tb with
    | none => none
    | some ti => match ldc ti xs off, ldc ti ys off with
      | some a, some b => match rec t a b, fs with
        | some p, [] => some p
        | some p, f :: fs => (eqFs tb rec xs ys (f :: fs)).map (p && ·)
        | _, _ => none
      | _, _ => none
def eqS (tb : Tb) : Nat → Nat → SV → SV → Option Bool
  | 0, _, _, _ => none
  | d + 1, t, x, y => match find t tb with
    | none => none
    | some ti => match ti.d, x, y with
      | .struct fs, .agg xs, .agg ys => eqFs tb (eqS tb d) xs ys fs
      | .int _, .tr (.int k a), .tr (.int k' b) => eqTr (.tr (.int k a)) (.tr (.int k' b))
      | .bool, .tr (.bool a), .tr (.bool b) => eqTr (.tr (.bool a)) (.tr (.bool b))
      | .str, .tr (.str a), .tr (.str b) => eqTr (.tr (.str a)) (.tr (.str b))
      | _, _, _ => none
def eqOk (P : Program) : Nat → TypeId → Bool
  | 0, _ => false
  | d + 1, t => match P.underlying t with
    | some (.struct fs) => !P.stoodInHeld t && fs.toList.all fun f => (f.name != "_") && eqOk P d f.type
    | _ => true
section
variable {P : Program} {tb : Tb} {ops : Array Oper} {o : Oper} {c : Cx} {S : Nat → Prop} {β : Nat → Value} {ν σ : SS} {a : Act} {w : World}
theorem eqFs_ok (hP : TbOk P tb) {d n : Nat} {rec : Nat → SV → SV → Option Bool} (ih : ∀ t x y b u v, rec t x y = some b → SVr w S β x u → SVr w S β y v → eqOk P d t = true → (Op.equalIn n t u v).run P w = .ok b w)
    {xs ys : List SV} {us vs : Array Value} (hl : xs.length = us.size) (hu : ∀ (j : Nat) x y, xs[j]? = some x → us[j]? = some y → SVr w S β x y) (hl' : ys.length = vs.size) (hv : ∀ (j : Nat) x y, ys[j]? = some x → vs[j]? = some y → SVr w S β x y) :
    ∀ (fs : List Field) b, eqFs tb rec xs ys (fs.map fun x => (x.offset, x.type)) = some b → (fs.all fun f => (f.name != "_") && eqOk P d f.type) = true → (Op.eqFields n us vs fs).run P w = .ok b w
  | [], b, h, _ => by
    injection h with h
    subst h
    simp [Op.eqFields]
  | f :: fs, b, h, ha => by
    simp only [List.all_cons, Bool.and_eq_true, bne_iff_ne, ne_eq] at ha
    simp only [List.map_cons, eqFs] at h
    split at h
    · cases h
    · rename_i ti hti
      split at h
      · rename_i a b' h1 h2
        obtain ⟨r1, h3, h4⟩ := ldcA_ok (find_ti hP hti) hl hu h1
        obtain ⟨r2, h5, h6⟩ := ldcA_ok (find_ti hP hti) hl' hv h2
        split at h
        · rename_i p hp hfs
          injection h with h
          subst h
          have h7 := ih _ _ _ _ _ _ hp h4 h6 ha.1.2
          have : fs = [] := by simpa using hfs
          subst this
          simp only [Op.eqFields, ne_eq, ha.1.1, not_false_eq_true, if_true, Sem.run_bind, h3, h5, h7, Result.andThen_ok]
          cases p <;> simp
        · rename_i p g gs hp hfs
          rw [Option.map_eq_some_iff] at h
          obtain ⟨q, hq, rfl⟩ := h
          have h7 := ih _ _ _ _ _ _ hp h4 h6 ha.1.2
          rw [← hfs] at hq
          have h8 := eqFs_ok hP ih hl hu hl' hv fs q hq ha.2
          simp only [Op.eqFields, ne_eq, ha.1.1, not_false_eq_true, if_true, Sem.run_bind, h3, h5, h7, Result.andThen_ok]
          cases p
          · simp
          · simpa using h8
        · cases h
      · cases h
theorem eqS_ok (hP : TbOk P tb) : ∀ (d t : Nat) (x y : SV) (b : Bool) (u v : Value), eqS tb d t x y = some b → SVr w S β x u → SVr w S β y v → eqOk P d t = true → ∀ n, d ≤ n → (Op.equalIn n t u v).run P w = .ok b w
  | 0, t, x, y, b, u, v, h, _, _, _ => by cases h
  | d + 1, t, x, y, b, u, v, h, hx, hy, ho => by
    intro n hn
    obtain ⟨n, rfl⟩ : ∃ m, n = m + 1 := ⟨n - 1, by omega⟩
    simp only [eqS] at h
    split at h
    · cases h
    · rename_i ti hti
      have hti' := find_ti hP hti
      split at h
      · rename_i fs xs ys hd
        obtain ⟨f, hu, hm⟩ := hti'.struct hd
        cases hx with
        | agg _ us hl hus =>
        cases hy with
        | agg _ vs hl' hvs =>
          have hf : P.fieldsOf t = f := by unfold Program.fieldsOf; rw [hu]
          have hst : P.stoodInHeld t = false ∧ (f.toList.all fun f => (f.name != "_") && eqOk P d f.type) = true := by
            simp only [eqOk, hu, Bool.and_eq_true, Bool.not_eq_true'] at ho
            exact ho
          rw [run_equalIn_struct w n t us vs (by rw [hf]; exact hu) hst.1, hf]
          exact eqFs_ok hP (d := d) (fun t x y b u v h1 h2 h3 h4 => eqS_ok hP d t x y b u v h1 h2 h3 h4 n (by omega)) hl hus hl' hvs f.toList b (by rw [hm]; exact h) hst.2
      · rename_i k0 k a k' b' hd
        simp only [eqTr] at h
        split at h
        · rename_i hk
          subst hk
          injection h with h
          subst h
          cases hx with | tr _ _ hx => cases hx with | int =>
          cases hy with | tr _ _ hy => cases hy with | int =>
          have := hti'.d; rw [hd] at this
          exact run_equalIn_int w n t k k0 a b' this
        · cases h
      · rename_i a b' hd
        simp only [eqTr] at h
        injection h with h
        subst h
        cases hx with | tr _ _ hx => cases hx with | bool =>
        cases hy with | tr _ _ hy => cases hy with | bool =>
        have := hti'.d; rw [hd] at this
        exact run_equalIn_bool w n t a b' this
      · rename_i a b' hd
        simp only [eqTr] at h
        injection h with h
        subst h
        cases hx with | tr _ _ hx => cases hx with | str =>
        cases hy with | tr _ _ hy => cases hy with | str =>
        exact run_equalIn_string w n t a b' (hti'.str hd)
      · cases h
/-- Two structs compared. -/
theorem lstep_eq (hP : TbOk P tb) {t t' : Nat} {x y : Operand} (neg : Bool) (ho : o.op = .binOp (cond neg .neq .eql) t x y t') (hgd : gd ops ν o = some true) (hok : okd ν o = true) {xs ys : List SV} {b : Bool} (hx : ev ν x = some (.agg xs)) (hy : ev ν y = some (.agg ys))
    (he : eqS tb 8 t (.agg xs) (.agg ys) = some b) (hq : eqOk P 8 t = true) (hm : P.eqGuardType P.depth t = false) : LStep P ops o ν (some (.tr (.bool (cond neg (!b) b)), none)) := by
  refine lstep_of_vok hgd hok fun c S β a w hr => ?_
  have hv := ev_ok hr hx
  have hw := ev_ok hr hy
  have h1 := eqS_ok hP 8 t _ _ b _ _ he hv hw hq 10000 (by omega)
  generalize hy1 : a.eval x = y1 at hv h1
  generalize hy2 : a.eval y = y2 at hw h1
  cases hv with
  | agg _ us _ _ =>
  cases hw with
  | agg _ vs _ _ =>
    refine .mk (s := (do eqGuard (cond neg .neq .eql) t x y (a.eval x) (a.eval y); binOp (cond neg .neq .eql) t (a.eval x) (a.eval y) : Sem Value)) (u := .bool (cond neg (!b) b)) (by simp only [execOp, ho]) ?_ (.tr _ _ (.bool _))
    rw [hy1, hy2, Sem.run_bind, run_eqGuard_agg w _ t x y us vs hm, Result.andThen_ok]
    cases neg
    · simp only [cond_false]
      rw [run_eql_struct, h1]; rfl
    · simp only [cond_true]
      rw [run_neq_struct, h1]; rfl
/-- A cell of an array of two, by a variable. -/
theorem lstep_aindex (hP : TbOk P tb) {t : Nat} {x y : Operand} (ho : o.op = .index t x y) (hgd : gd ops ν o = some true) (hok : okd ν o = true) {cs : List SV} {k : IntKind} {i : Int} {len e : Nat} {ti tj : TI} {v : SV}
    (ht : find t tb = some ti) (hd : ti.d = .array len e) (he : find e tb = some tj) (hx : ev ν x = some (.agg cs)) (hy : ev ν y = some (.tr (.int k i))) (h0 : 0 ≤ i) (hi : i < len) (hl : ldc tj cs (i.toNat * tj.size) = some v) : LStep P ops o ν (some (v, none)) := by
  refine lstep_of_vok hgd hok fun c S β a w hr => ?_
  have hv := ev_ok hr hx
  have hw := ev_ok hr hy
  generalize hy1 : a.eval x = y1 at hv
  generalize hy2 : a.eval y = y2 at hw
  cases hw with
  | tr _ _ hw => cases hw with
    | int k i =>
      cases hv with
      | agg cs vs hl1 hh =>
        obtain ⟨r, h4, h5⟩ := ldcA_ok (find_ti hP he) hl1 hh hl
        refine .mk (s := Instr.index t (a.eval x) (a.eval y)) (by simp only [execOp, ho]) ?_ h5
        rw [hy1, hy2]
        simp [Instr.index, asIntOf, asAgg, run_underlying ((find_ti hP ht).array hd), h0, hi, (find_ti hP he).size, h4]
def two' (i : Int) : Option Unit := if 0 ≤ i ∧ i < 2 then some () else none
theorem t_two (hP : TbOk P tb) {t : Nat} {x y : Operand} {i : Int} {q : Unit} (h : two' i = some q) (ho : o.op = .index t x y) (hgd : gd ops ν o = some true) (hok : okd ν o = true) {cs : List SV} {k : IntKind} {e m : Nat} {ti tj : TI} {v : SV}
    (ht : find t tb = some ti) (hd : ti.d = .array 2 e) (he : find e tb = some tj) (hm : tj.size = m) (hx : ev ν x = some (.agg cs)) (hy : ev ν y = some (.tr (.int k i))) (f : Bool → SV) (hv : f (i == 0) = v) (hl0 : ldc tj cs 0 = some (f true)) (hl1 : ldc tj cs m = some (f false)) : LStep P ops o ν (some (v, none)) := by
  unfold two' at h
  split at h
  · rename_i hh
    refine lstep_aindex hP ho hgd hok ht hd he hx hy hh.1 (by simpa using hh.2) ?_
    subst hv hm
    have : i = 0 ∨ i = 1 := by omega
    rcases this with rfl | rfl
    · simpa using hl0
    · simpa using hl1
  · cases h
theorem dead {α : Type} {r : α} {p : Prop} (h : (none : Option α) = some r) : p := by cases h
end
end Go.Proofs.Ytnnpmbcamnnfgaa.Sh
