/- Division by a variable, constants that stand for nothing here, results that are new variables. -/
import Derived.Test.YtnnpmbcamnnfgaaS23
namespace Go.Proofs.Ytnnpmbcamnnfgaa.Sh
open Go.RowKit
def nz' (y : Int) : Option Unit := if y = 0 then none else some ()
section
variable {P : Program} {tb : Tb} {ops : Array Oper} {o : Oper} {c : Cx} {S : Nat → Prop} {β : Nat → Value} {ν σ s : SS} {a : Act} {w : World}
theorem lstep_quo {t t' : Nat} {x y : Operand} {i j : Int} {q : Unit} (h : nz' j = some q) (rem : Bool) (ho : o.op = .binOp (cond rem .rem .quo) t x y t') (hgd : gd ops ν o = some true) (hok : okd ν o = true) {k : IntKind} (hx : ev ν x = some (.tr (.int k i))) (hy : ev ν y = some (.tr (.int k j))) :
    LStep P ops o ν (some (.tr (.int k (cond rem (i.tmod j) (k.wrap (i.tdiv j)))), none)) := by
  have h0 : j ≠ 0 := by
    unfold nz' at h
    split at h
    · cases h
    · assumption
  refine lstep_of_vok hgd hok fun c S β a w hr => ?_
  have hv := ev_ok hr hx
  have hw := ev_ok hr hy
  generalize hy1 : a.eval x = y1 at hv
  generalize hy2 : a.eval y = y2 at hw
  cases hv with | tr _ _ hv => cases hv with | int =>
  cases hw with | tr _ _ hw => cases hw with | int =>
  refine .mk (s := (do eqGuard (cond rem .rem .quo) t x y (a.eval x) (a.eval y); binOp (cond rem .rem .quo) t (a.eval x) (a.eval y) : Sem Value)) (u := .int k (cond rem (i.tmod j) (k.wrap (i.tdiv j)))) (by simp only [execOp, ho]) ?_ (.tr _ _ (.int _ _))
  rw [hy1, hy2]
  cases rem <;> simp [eqGuard, binOp, Op.intDiv, h0]
/-- A constant whose value is not looked at. -/
theorem lstep_skip {v : Value} (ho : o.op = .assign (.const v)) (hgd : gd ops ν o = some true) : LStep P ops o ν none := by
  intro σ c a w hs _ ⟨S, β, hr⟩
  have hν := hs.rel hr
  unfold OpDo
  rw [gd_ok hν hgd, if_pos rfl]
  have h1 : (execOp a.eval o).run P w = .ok (.value v) w := by simp [execOp, ho, Act.eval]
  refine wp_value h1 ?_
  cases hdst : o.dst with
  | none => exact ⟨S, β, hr⟩
  | some d => exact ⟨S, β, Rel.drop hr d v⟩
theorem finB {t : ResultVar} {d : Nat} {cs : List SV} (h : Holds P s (.ref d 0) t) (ho : find d s.o = some (.box cs)) (hn : SO.names (.box cs) = []) (hf : SV.Flat.FlatL cs) (hd : Nat.blt d s.n = true) {dep : Bool} : FinS P s dep t (.box cs) := ⟨d, h, mem_of_find ho, hn, .inr hf, by simpa using hd⟩
theorem finBT {t : ResultVar} {d : Nat} {cs : List SV} (h : Holds P s (.ref d 0) t) (ho : find d s.o = some (.box cs)) (hn : SO.names (.box cs) = []) (hd : Nat.blt d s.n = true) : FinS P s true t (.box cs) := ⟨d, h, mem_of_find ho, hn, .inl rfl, by simpa using hd⟩
end
end Go.Proofs.Ytnnpmbcamnnfgaa.Sh
