/- Bools compared; a slice compared with nil. -/
import Derived.Test.YtnnpmbcamnnfgaaS25
namespace Go.Proofs.Ytnnpmbcamnnfgaa.Sh
open Go.RowKit
section
variable {P : Program} {tb : Tb} {ops : Array Oper} {o : Oper} {c : Cx} {S : Nat → Prop} {β : Nat → Value} {ν σ s : SS} {a : Act} {w : World}
theorem lstep_eqb (hP : TbOk P tb) {t t' : Nat} {ti : TI} {x y : Operand} (neg : Bool) (ho : o.op = .binOp (cond neg .neq .eql) t x y t') (hgd : gd ops ν o = some true) (hok : okd ν o = true) {i j : Bool} (ht : find t tb = some ti) (hd : ti.d = .bool) (hx : ev ν x = some (.tr (.bool i))) (hy : ev ν y = some (.tr (.bool j))) :
    LStep P ops o ν (some (.tr (.bool (cond neg (!(i == j)) (i == j))), none)) := by
  have hu : P.underlying t = some .bool := by have := (find_ti hP ht).d; rw [hd] at this; exact this
  refine lstep_of_vok hgd hok fun c S β a w hr => ?_
  have hv := ev_ok hr hx
  have hw := ev_ok hr hy
  generalize hy1 : a.eval x = y1 at hv
  generalize hy2 : a.eval y = y2 at hw
  cases hv with | tr _ _ hv => cases hv with | bool =>
  cases hw with | tr _ _ hw => cases hw with | bool =>
  refine .mk (s := (do eqGuard (cond neg .neq .eql) t x y (a.eval x) (a.eval y); binOp (cond neg .neq .eql) t (a.eval x) (a.eval y) : Sem Value)) (u := .bool (cond neg (!(i == j)) (i == j))) (by simp only [execOp, ho]) ?_ (.tr _ _ (.bool _))
  rw [hy1, hy2]
  have h1 := run_equalIn_bool' (P := P) w 9999 t i j hu
  cases neg
  · simp only [cond_false, eqGuard, binOp, Op.equal, Op.maxDepth, Sem.run_bind]
    simp [h1]
  · simp only [cond_true, eqGuard, binOp, Op.equal, Op.maxDepth, Sem.run_bind]
    simp [h1]
end
end Go.Proofs.Ytnnpmbcamnnfgaa.Sh
