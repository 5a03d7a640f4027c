/- Shadow operations that leave the world alone. -/
import Derived.Test.YtnnpmbcamnnfgaaS1
namespace Go.Proofs.Ytnnpmbcamnnfgaa.Sh
open Go.RowKit

inductive TD where
  | int (k : IntKind)
  | bool
  | str
  | slice (e : Nat)
  | array (n e : Nat)
  | struct (fs : List (Nat × Nat))
  | ptr (e : Nat)
  | other
structure TI where
  size : Nat
  bytes : Nat
  d : TD
  zero : List Tr
/-- The zero values' cells. -/
def Tr.zval : Tr → Option Value
  | .int k n => some (.int k n)
  | .bool b => some (.bool b)
  | .str s => if s.size = 0 then some (.string s) else none
  | .sl 0 [] => some (.slice none 0 0)
  | _ => none
def zvals : List Tr → Option (List Value)
  | [] => some []
  | t :: ts => match t.zval, zvals ts with
    | some v, some vs => some (v :: vs)
    | _, _ => none
def structOf (P : Program) (t : TypeId) : Option (List (Nat × Nat)) := match P.underlying t with
  | some (.struct f) => some (f.toList.map fun x => (x.offset, x.type))
  | _ => none
def TDok (P : Program) (t : TypeId) : TD → Prop
  | .int k => P.underlying t = some (.int k)
  | .bool => P.underlying t = some .bool
  | .str => P.underlying t = some .string
  | .slice e => P.underlying t = some (.slice e)
  | .array n e => P.underlying t = some (.array n e)
  | .struct fs => structOf P t = some fs
  | .ptr e => P.underlying t = some (.pointer e)
  | .other => False
abbrev Tb := List (Nat × TI)
def find {α : Type} (k : Nat) : List (Nat × α) → Option α
  | [] => none
  | (i, x) :: r => if i == k then some x else find k r
theorem mem_of_find {α : Type} {k : Nat} {l : List (Nat × α)} {x : α} (h : find k l = some x) : (k, x) ∈ l := by
  induction l with
  | nil => cases h
  | cons y l ih =>
    obtain ⟨i, y⟩ := y
    unfold find at h
    split at h
    · rename_i hi
      have : i = k := by simpa using hi
      subst this
      injection h with h
      subst h
      exact List.mem_cons_self
    · exact List.mem_cons_of_mem _ (ih h)
structure TIok (P : Program) (t : Nat) (i : TI) : Prop where
  info : (P.info? t).map (fun j => (j.size, j.bytes, (j.zero.map fun z => z.cells.toList))) = some (i.size, i.bytes, zvals i.zero)
  d : TDok P t i.d
def TbOk (P : Program) (tb : Tb) : Prop := ∀ t i, (t, i) ∈ tb → TIok P t i
theorem TbOk.nil (P : Program) : TbOk P [] := fun _ _ h => by cases h
theorem TbOk.cons {P : Program} {t : Nat} {i : TI} {tb : Tb} (h : TIok P t i) (k : TbOk P tb) : TbOk P ((t, i) :: tb) := fun t' i' hm => by
  rcases List.mem_cons.1 hm with h' | h'
  · injection h' with h1 h2; subst h1 h2; exact h
  · exact k t' i' h'

def constSV : Value → Option SV
  | .int k n => some (.tr (.int k n))
  | .bool b => some (.tr (.bool b))
  | .string s => if s.size ≤ maxLen then some (.tr (.str s)) else none
  | .slice none 0 0 => some (.tr (.sl 0 []))
  | _ => none
def constL : List Value → Option (List SV)
  | [] => some []
  | v :: vs => match constSV v, constL vs with
    | some x, some xs => some (x :: xs)
    | _, _ => none
def ev (σ : SS) : Operand → Option SV
  | .tmp t => find t σ.t
  | .const (.agg cs) => (constL cs.toList).map .agg
  | .const v => constSV v
  | .func f => some (.clo f [])
  | .global _ => none
def evL (σ : SS) : List Operand → Option (List SV)
  | [] => some []
  | x :: xs => match ev σ x, evL σ xs with
    | some v, some vs => some (v :: vs)
    | _, _ => none
def TD.isAgg : TD → Bool
  | .struct _ | .array _ _ => true
  | _ => false
/-- What is read at cell o of cells cs, at a type. -/
def ldc (i : TI) (cs : List SV) (o : Nat) : Option SV :=
  if i.d.isAgg then (if o + i.size ≤ cs.length then some (.agg ((cs.drop o).take i.size)) else none) else cs[o]?
def bop : BinOp → Tr → Tr → Option Tr
  | .add, .int k x, .int k' y => if k = k' then some (.int k (k.wrap (x + y))) else none
  | .sub, .int k x, .int k' y => if k = k' then some (.int k (k.wrap (x - y))) else none
  | .mul, .int k x, .int k' y => if k = k' then some (.int k (k.wrap (x * y))) else none
  | .eql, .int k x, .int k' y => if k = k' then some (.bool (x == y)) else none
  | .neq, .int k x, .int k' y => if k = k' then some (.bool (x != y)) else none
  | .lss, .int k x, .int k' y => if k = k' then some (.bool (x < y)) else none
  | .leq, .int k x, .int k' y => if k = k' then some (.bool (x ≤ y)) else none
  | .gtr, .int k x, .int k' y => if k = k' then some (.bool (x > y)) else none
  | .geq, .int k x, .int k' y => if k = k' then some (.bool (x ≥ y)) else none
  | .and, .int k x, .int k' y => if k = k' then some (.int k (k.wrap (BitVec.ofInt k.bits x &&& BitVec.ofInt k.bits y).toNat)) else none
  | .or, .int k x, .int k' y => if k = k' then some (.int k (k.wrap (BitVec.ofInt k.bits x ||| BitVec.ofInt k.bits y).toNat)) else none
  | .xor, .int k x, .int k' y => if k = k' then some (.int k (k.wrap (BitVec.ofInt k.bits x ^^^ BitVec.ofInt k.bits y).toNat)) else none
  | .eql, .str x, .str y => some (.bool (x.toList == y.toList))
  | .neq, .str x, .str y => some (.bool (!x.toList == y.toList))
  | .lss, .str x, .str y => some (.bool (Op.bytesLess x.toList y.toList))
  | .leq, .str x, .str y => some (.bool (Op.bytesLess x.toList y.toList || x.toList == y.toList))
  | .gtr, .str x, .str y => some (.bool (!(Op.bytesLess x.toList y.toList || x.toList == y.toList)))
  | .geq, .str x, .str y => some (.bool (!Op.bytesLess x.toList y.toList))
  | _, _, _ => none
/-- Division by a written number that is not 0, and shifts by a written number. -/
def bopc : BinOp → Tr → Value → Option Tr
  | .quo, .int k x, .int k' y => if k = k' ∧ y ≠ 0 then some (.int k (k.wrap (x.tdiv y))) else none
  | .rem, .int k x, .int k' y => if k = k' ∧ y ≠ 0 then some (.int k (x.tmod y)) else none
  | .shl, .int k x, .int _ y => if 0 ≤ y then some (.int k (k.wrap (x * 2 ^ min y.toNat k.bits))) else none
  | .shr, .int k x, .int _ y => if 0 ≤ y then some (.int k (x.fdiv (2 ^ min y.toNat k.bits))) else none
  | _, _, _ => none
def minT : Tr → Tr → Option Tr
  | .int k x, .int k' y => if k = k' then some (.int k (if y < x then y else x)) else none
  | _, _ => none
def maxT : Tr → Tr → Option Tr
  | .int k x, .int k' y => if k = k' then some (.int k (if y > x then y else x)) else none
  | _, _ => none
def lenT : TD → SV → Option Tr
  | .slice _, .tr (.sl n _) => some (.int .i64 n)
  | .str, .tr (.str s) => some (.int .i64 s.size)
  | .array n _, _ => some (.int .i64 n)
  | _, _ => none
/-- The address moved on by some cells. -/
def shiftA : SV → Nat → Option SV
  | .ptr cs o, k => some (.ptr cs (o + k))
  | .ref d o, k => some (.ref d (o + k))
  | .eref d m i j, k => some (.eref d m i (j + k))
  | _, _ => none
def vop (tb : Tb) (σ : SS) : Op → Option SV
  | .move x => ev σ x
  | .assign x => ev σ x
  | .pick c a b => match ev σ c with
    | some (.tr (.bool true)) => ev σ a
    | some (.tr (.bool false)) => ev σ b
    | _ => none
  | .load t x => match find t tb, ev σ x with
    | some i, some (.ptr cs o) => ldc i cs o
    | some i, some (.ref d o) => match find d σ.o with
      | some (.box cs) => ldc i cs o
      | _ => none
    | _, _ => none
  | .fieldAddr t x f => match find t tb, ev σ x with
    | some i, some v => match i.d with
      | .struct fs => match fs[f]? with
        | some (off, ft) => match find ft tb with
          | some j => if j.size = 0 then none else shiftA v off
          | none => none
        | none => none
      | _ => none
    | _, _ => none
  | .field t x f => match find t tb, ev σ x with
    | some i, some (.agg cs) => match i.d with
      | .struct fs => match fs[f]? with
        | some (off, ft) => match find ft tb with
          | some j => ldc j cs off
          | none => none
        | none => none
      | _ => none
    | _, _ => none
  | .index t x y => match find t tb, ev σ x, ev σ y with
    | some i, some (.agg cs), some (.tr (.int _ n)) => match i.d with
      | .array len e => match find e tb with
        | some j => if 0 ≤ n ∧ n < len then ldc j cs (n.toNat * j.size) else none
        | none => none
      | _ => none
    | _, _, _ => none
  | .indexAddr t x y => match find t tb, ev σ x, ev σ y with
    | some i, some v, some (.tr (.int _ n)) => match i.d with
      | .array len e => match find e tb with
        | some j => if 0 ≤ n ∧ n < len then shiftA v (n.toNat * j.size) else none
        | none => none
      | _ => none
    | _, _, _ => none
  | .binOp op _ x y _ => match ev σ x, ev σ y with
    | some (.tr a), some (.tr b) => match bop op a b with
      | some r => some (.tr r)
      | none => match y with
        | .const c => (bopc op a c).map .tr
        | _ => none
    | _, _ => none
  | .unOp op _ x => match op, ev σ x with
    | .not, some (.tr (.bool b)) => some (.tr (.bool !b))
    | .neg, some (.tr (.int k n)) => some (.tr (.int k (k.wrap (0 - n))))
    | _, _ => none
  | .convert src dst x => match find src tb, find dst tb, ev σ x with
    | some _, some j, some (.tr (.int _ n)) => match j.d with
      | .int k => some (.tr (.int k (k.wrap n)))
      | _ => none
    | _, _, _ => none
  | .extract x i => match ev σ x with
    | some (.tup cs) => cs[i]?
    | _ => none
  | .nilCheck x => match ev σ x with
    | some (.ptr cs o) => some (.ptr cs o)
    | some (.ref d o) => some (.ref d o)
    | some (.eref d m i j) => some (.eref d m i j)
    | some (.clo f cs) => some (.clo f cs)
    | _ => none
  | .makeFunc (.func f) first caps => if first.size = 0 then (evL σ caps.toList).map (.clo f) else none
  | .call { callee := .builtin b, args, argTypes } => match b, args.toList with
    | .len, [x] => match argTypes.toList, ev σ x with
      | [t], some (.own d) => match find t tb, find d σ.o with
        | some i, some (.arr _ _ n _) => match i.d with
          | .slice _ => some (.tr (.int .i64 n))
          | _ => none
        | _, _ => none
      | [t], some v => match find t tb with
        | some i => (lenT i.d v).map .tr
        | none => none
      | _, _ => none
    | .min, [x, y] => match ev σ x, ev σ y with
      | some (.tr a), some (.tr b) => (minT a b).map .tr
      | _, _ => none
    | .max, [x, y] => match ev σ x, ev σ y with
      | some (.tr a), some (.tr b) => (maxT a b).map .tr
      | _, _ => none
    | _, _ => none
  | _ => none

section
variable {P : Program} {tb : Tb} {c : Cx} {S : Nat → Prop} {β : Nat → Value} {σ : SS} {a : Act} {w : World}
theorem constSV_ok {v : Value} {x : SV} (h : constSV v = some x) : SVr w S β x v := by
  unfold constSV at h
  split at h
  · injection h with h; subst h; exact .tr _ _ (.int _ _)
  · injection h with h; subst h; exact .tr _ _ (.bool _)
  · split at h
    · injection h with h; subst h; exact .tr _ _ (.str _ (by assumption))
    · cases h
  · injection h with h; subst h; exact .tr _ _ (.sl [] none 0 0 0 (fun _ _ => default) rfl (Nat.le_refl _) (by simp [maxLen]) (by simp) (by simp) (by simp))
  · cases h
theorem constL_ok : ∀ {vs : List Value} {xs : List SV}, constL vs = some xs → xs.length = vs.length ∧ ∀ (j : Nat) x v, xs[j]? = some x → vs[j]? = some v → SVr w S β x v
  | [], xs, h => by injection h with h; subst h; simp
  | v :: vs, xs, h => by
    unfold constL at h
    split at h
    · rename_i y ys hy hys
      injection h with h
      subst h
      obtain ⟨h1, h2⟩ := constL_ok hys
      refine ⟨by simp [h1], fun j x v hx hv => ?_⟩
      cases j with
      | zero => simp at hx hv; subst hx hv; exact constSV_ok hy
      | succ j => exact h2 j x v (by simpa using hx) (by simpa using hv)
    · cases h
theorem ev_ok (hr : Rel c S β σ a w) {x : Operand} {v : SV} (h : ev σ x = some v) : SVr w S β v (a.eval x) := by
  cases x with
  | tmp t => exact (hr.tmp t v (mem_of_find h)).2
  | const u =>
    unfold ev at h
    cases u with
    | agg cs =>
      simp only [Option.map_eq_some_iff] at h
      obtain ⟨xs, h1, rfl⟩ := h
      obtain ⟨h2, h3⟩ := constL_ok (w := w) (S := S) (β := β) h1
      exact .agg xs cs (by simpa using h2) fun j x v hx hv => h3 j x v hx (by simpa using hv)
    | _ => exact constSV_ok h
  | global g => cases h
  | func f => injection h with h; subst h; exact .clo f [] #[] rfl (by simp)
theorem evL_ok (hr : Rel c S β σ a w) : ∀ {xs : List Operand} {vs : List SV}, evL σ xs = some vs → vs.length = xs.length ∧ ∀ (j : Nat) x v, xs[j]? = some x → vs[j]? = some v → SVr w S β v (a.eval x)
  | [], vs, h => by injection h with h; subst h; simp
  | x :: xs, vs, h => by
    unfold evL at h
    split at h
    · rename_i y ys hy hys
      injection h with h
      subst h
      obtain ⟨h1, h2⟩ := evL_ok hr hys
      refine ⟨by simp [h1], fun j x v hx hv => ?_⟩
      cases j with
      | zero => simp at hx hv; subst hx hv; exact ev_ok hr hy
      | succ j => exact h2 j x v (by simpa using hx) (by simpa using hv)
    · cases h
end
end Go.Proofs.Ytnnpmbcamnnfgaa.Sh
