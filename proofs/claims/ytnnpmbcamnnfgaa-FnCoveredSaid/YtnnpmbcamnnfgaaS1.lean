/- Shadow values: trees, frame values, objects, and how they stand in memory. -/
import Derived.Test.YtnnpmbcamnnfgaaRows
import Derived.WalkKit
import Derived.WalkSpells
import Derived.WalkLawsBesides
import Derived.Orders
import Derived.Laws.AppendOwn
import Derived.Laws.OwnMore
import Derived.Laws.MakeOwn
import Derived.KernelRfl
namespace Go.Proofs.Ytnnpmbcamnnfgaa.Sh
open Go.RowKit

/-- One cell's value as a tree: slices by their elements, an element by its cells. -/
inductive Tr where
  | int (k : IntKind) (n : Int)
  | bool (b : Bool)
  | str (s : ByteArray)
  | sl (n : Nat) (es : List (List Tr))

/-- In world w, through blocks of S alone, the value v reads as the tree. -/
inductive TV (w : World) (S : Nat → Prop) : Tr → Value → Prop
  | int (k : IntKind) (n : Int) : TV w S (.int k n) (.int k n)
  | bool (b : Bool) : TV w S (.bool b) (.bool b)
  | str (s : ByteArray) (h : s.size ≤ maxLen) : TV w S (.str s) (.string s)
  | sl (es : List (List Tr)) (A : Option Addr) (n c m : Nat) (u : Nat → Nat → Value) (hl : es.length = n) (hc : n ≤ c) (hm : c ≤ maxLen) (he : ∀ e ∈ es, e.length = m)
      (hu : ∀ (i : Nat) e (j : Nat) t, es[i]? = some e → e[j]? = some t → TV w S t (u i j))
      (ha : es ≠ [] → ∃ b o, A = some ⟨b, o, none⟩ ∧ S b ∧ ∀ (i : Nat) e (j : Nat) t, es[i]? = some e → e[j]? = some t → w.cell? ⟨b, o + i * m + j, none⟩ = some (u i j)) : TV w S (.sl n es) (.slice A n c)

theorem TV.keep {w w' : World} {S S' : Nat → Prop} {t : Tr} {v : Value} (h : TV w S t v) (hk : ∀ b, S b → w'.heap[b]? = w.heap[b]?) (hs : ∀ b, S b → S' b) : TV w' S' t v := by
  induction h with
  | int k n => exact .int k n
  | bool b => exact .bool b
  | str s h => exact .str s h
  | sl es A n c m u hl hc hm he hu ha ih =>
    refine .sl es A n c m u hl hc hm he ih fun h0 => ?_
    obtain ⟨b, o, h1, h2, h3⟩ := ha h0
    exact ⟨b, o, h1, hs b h2, fun i e j t hi hj => (World.cell?_of_block (w := w) (hk b h2)).trans (h3 i e j t hi hj)⟩

/-- A tree that holds no slice needs no memory. -/
def Tr.flat : Tr → Bool
  | .sl _ _ => false
  | _ => true
theorem TV.free {w w' : World} {S S' : Nat → Prop} {t : Tr} {v : Value} (h : TV w S t v) (hf : t.flat = true) : TV w' S' t v := by
  cases h with
  | int k n => exact .int k n
  | bool b => exact .bool b
  | str s h => exact .str s h
  | sl => cases hf

/-- The value that a slot of the frame holds. -/
inductive SV where
  | tr (t : Tr)
  | agg (cs : List SV)
  | tup (cs : List SV)
  | ptr (cs : List SV) (o : Nat)
  | ref (d o : Nat)
  | eref (d m i j : Nat)
  | own (d : Nat)
  | clo (f : FuncId) (caps : List SV)

/-- What the frame's own blocks hold: a variable's cells; a slice of the frame's own. -/
inductive SO where
  | box (cs : List SV)
  | arr (e m n : Nat) (es : List (List Tr))

def blkOf : Value → Option Nat
  | .pointer (some a) => some a.block
  | .slice (some a) _ _ => some a.block
  | _ => none

/-- The value v stands for the frame value; β: the frame's own objects' values. -/
inductive SVr (w : World) (S : Nat → Prop) (β : Nat → Value) : SV → Value → Prop
  | tr (t : Tr) (v : Value) (h : TV w S t v) : SVr w S β (.tr t) v
  | agg (cs : List SV) (vs : Array Value) (hl : cs.length = vs.size) (h : ∀ (j : Nat) c v, cs[j]? = some c → vs[j]? = some v → SVr w S β c v) : SVr w S β (.agg cs) (.agg vs)
  | tup (cs : List SV) (vs : Array Value) (hl : cs.length = vs.size) (h : ∀ (j : Nat) c v, cs[j]? = some c → vs[j]? = some v → SVr w S β c v) : SVr w S β (.tup cs) (.tuple vs)
  | ptr (cs : List SV) (o g b : Nat) (u : Nat → Value) (hs : S g) (h : ∀ (j : Nat) c, cs[j]? = some c → SVr w S β c (u j)) (hc : ∀ (j : Nat) c, cs[j]? = some c → w.cell? ⟨g, b + j, none⟩ = some (u j)) : SVr w S β (.ptr cs o) (.pointer (some ⟨g, b + o, none⟩))
  | ref (d o g : Nat) (h : β d = .pointer (some ⟨g, 0, none⟩)) : SVr w S β (.ref d o) (.pointer (some ⟨g, o, none⟩))
  | eref (d m i j g n c : Nat) (h : β d = .slice (some ⟨g, 0, none⟩) n c) : SVr w S β (.eref d m i j) (.pointer (some ⟨g, i * m + j, none⟩))
  | own (d : Nat) : SVr w S β (.own d) (β d)
  | clo (f : FuncId) (caps : List SV) (vs : Array Value) (hl : caps.length = vs.size) (h : ∀ (j : Nat) c v, caps[j]? = some c → vs[j]? = some v → SVr w S β c v) : SVr w S β (.clo f caps) (.func (.func f) #[] vs)

theorem SVr.keep {w w' : World} {S S' : Nat → Prop} {β : Nat → Value} {t : SV} {v : Value} (h : SVr w S β t v) (hk : ∀ b, S b → w'.heap[b]? = w.heap[b]?) (hs : ∀ b, S b → S' b) : SVr w' S' β t v := by
  induction h with
  | tr t v h => exact .tr t v (h.keep hk hs)
  | agg cs vs hl h ih => exact .agg cs vs hl ih
  | tup cs vs hl h ih => exact .tup cs vs hl ih
  | ptr cs o g b u hg h hc ih => exact .ptr cs o g b u (hs g hg) ih fun j c hj => (World.cell?_of_block (w := w) (hk g hg)).trans (hc j c hj)
  | ref d o g h => exact .ref d o g h
  | eref d m i j g n c h => exact .eref d m i j g n c h
  | own d => exact .own d
  | clo f caps vs hl h ih => exact .clo f caps vs hl ih

/-- The names of own objects that a frame value speaks of. -/
def SV.names : SV → List Nat
  | .tr _ => []
  | .agg cs => namesL cs
  | .tup cs => namesL cs
  | .ptr cs _ => namesL cs
  | .ref d _ => [d]
  | .eref d _ _ _ => [d]
  | .own d => [d]
  | .clo _ cs => namesL cs
where namesL : List SV → List Nat
  | [] => []
  | c :: cs => c.names ++ namesL cs
theorem SV.mem_namesL {c : SV} {cs : List SV} (h : c ∈ cs) {d : Nat} (hd : d ∈ c.names) : d ∈ SV.names.namesL cs := by
  induction cs with
  | nil => cases h
  | cons x xs ih =>
    unfold SV.names.namesL
    rcases List.mem_cons.1 h with rfl | h
    · exact List.mem_append_left _ hd
    · exact List.mem_append_right _ (ih h)

theorem SVr.agree {w : World} {S : Nat → Prop} {β β' : Nat → Value} {t : SV} {v : Value} (h : SVr w S β t v) : (∀ d ∈ t.names, β' d = β d) → SVr w S β' t v := by
  induction h with
  | tr t v h => exact fun _ => .tr t v h
  | agg cs vs hl h ih => exact fun hb => .agg cs vs hl fun j c v hc hv => ih j c v hc hv fun d hd => hb d (SV.mem_namesL (List.mem_of_getElem? hc) hd)
  | tup cs vs hl h ih => exact fun hb => .tup cs vs hl fun j c v hc hv => ih j c v hc hv fun d hd => hb d (SV.mem_namesL (List.mem_of_getElem? hc) hd)
  | ptr cs o g b u hg h hc ih => exact fun hb => .ptr cs o g b u hg (fun j c hj => ih j c hj fun d hd => hb d (SV.mem_namesL (List.mem_of_getElem? hj) hd)) hc
  | ref d o g h => exact fun hb => .ref d o g ((hb d (by simp [SV.names])).trans h)
  | eref d m i j g n c h => exact fun hb => .eref d m i j g n c ((hb d (by simp [SV.names])).trans h)
  | own d => exact fun hb => by rw [← hb d (by simp [SV.names])]; exact .own d
  | clo f caps vs hl h ih => exact fun hb => .clo f caps vs hl fun j c v hc hv => ih j c v hc hv fun d hd => hb d (SV.mem_namesL (List.mem_of_getElem? hc) hd)

structure SS where
  n : Nat
  t : List (Nat × SV)
  o : List (Nat × SO)

/-- Blocks that were there before stand, but for those of X. -/
structure Grew (X : Nat → Prop) (w w' : World) : Prop where
  os : w'.os = w.os
  tape : w'.tape = w.tape
  output : w'.output = w.output
  size : w.heap.size ≤ w'.heap.size
  block : ∀ k, k < w.heap.size → ¬ X k → w'.heap[k]? = w.heap[k]?
theorem Grew.refl (X : Nat → Prop) (w : World) : Grew X w w := ⟨rfl, rfl, rfl, Nat.le_refl _, fun _ _ _ => rfl⟩
theorem Grew.trans {X : Nat → Prop} {a b c : World} (h : Grew X a b) (k : Grew X b c) : Grew X a c :=
  ⟨k.os.trans h.os, k.tape.trans h.tape, k.output.trans h.output, Nat.le_trans h.size k.size, fun i hi hx => (k.block i (Nat.lt_of_lt_of_le hi h.size) hx).trans (h.block i hi hx)⟩
theorem Grew.drew (X : Nat → Prop) (w : World) : Grew X w w.drew := ⟨rfl, rfl, rfl, Nat.le_refl _, fun _ _ _ => rfl⟩
theorem Grew.alloc (X : Nat → Prop) (w : World) (o : Obj) : Grew X w (w.alloc o) := ⟨rfl, rfl, rfl, by simp, fun k hk _ => Below.heap_alloc w o k hk⟩
/-- More may have changed, as long as it was not there. -/
theorem Grew.of {X Y : Nat → Prop} {a b c : World} (h : Grew X a b) (k : Grew Y b c) (hy : ∀ g, Y g → g < a.heap.size → X g) : Grew X a c :=
  ⟨k.os.trans h.os, k.tape.trans h.tape, k.output.trans h.output, Nat.le_trans h.size k.size, fun i hi hx => (k.block i (Nat.lt_of_lt_of_le hi h.size) fun hY => hx (hy i hY hi)).trans (h.block i hi hx)⟩
theorem Grew.below {w w' : World} (h : Grew (fun _ => False) w w') : Below w.heap.size w w' := ⟨h.os, h.tape, h.output, h.size, fun k hk => h.block k hk id⟩
theorem Grew.of_below {w w' : World} (h : Below w.heap.size w w') (X : Nat → Prop) : Grew X w w' := ⟨h.os, h.tape, h.output, h.size, fun k hk _ => h.block k hk⟩
theorem Grew.of_grown {w w' : World} {r : Option Nat} (h : w.grownBy w' r) : Grew (fun g => r = some g) w w' := ⟨h.os, h.tape, h.output, h.size, fun k hk hx => h.block k hk fun e => hx e.symm⟩

/-- An own object in memory. -/
inductive ObjR (w : World) (S : Nat → Prop) (β : Nat → Value) : SO → Value → Prop
  | box (cs : List SV) (g : Nat) (vs : Array Value) (T : TypeId) (hg : w.heap[g]? = some (.cells vs T (0, 0))) (hl : cs.length = vs.size) (h : ∀ (j : Nat) c v, cs[j]? = some c → vs[j]? = some v → SVr w S β c v) : ObjR w S β (.box cs) (.pointer (some ⟨g, 0, none⟩))
  | arr (e m n : Nat) (es : List (List Tr)) (v : Value) (xs : List Value) (hn : es.length = n) (hown : w.ownsRow 0 e m v n xs) (he : ∀ x ∈ es, x.length = m)
      (h : ∀ (i : Nat) x (j : Nat) t u, es[i]? = some x → x[j]? = some t → xs[i * m + j]? = some u → TV w S t u) : ObjR w S β (.arr e m n es) v

theorem ObjR.keep {w w' : World} {S S' : Nat → Prop} {β : Nat → Value} {x : SO} {v : Value} (h : ObjR w S β x v) (hk : ∀ b, S b ∨ blkOf v = some b → w'.heap[b]? = w.heap[b]?) (hs : ∀ b, S b → S' b) : ObjR w' S' β x v := by
  cases h with
  | box cs g vs T hg hl h => exact .box cs g vs T ((hk g (.inr rfl)).trans hg) hl fun j c v hc hv => (h j c v hc hv).keep (fun b hb => hk b (.inl hb)) hs
  | arr e m n es v xs hn hown he h =>
    refine .arr e m n es v xs hn ⟨hown.1, ?_⟩ he fun i x j t u hi hj hu => (h i x j t u hi hj hu).keep (fun b hb => hk b (.inl hb)) hs
    rcases hown.2 with h2 | ⟨g, cap, cur, hv, hb, hg, r⟩
    · exact .inl h2
    · subst hv
      exact .inr ⟨g, cap, cur, rfl, hb, (hk g (.inr rfl)).trans hg, r⟩
theorem ObjR.lt {w : World} {S : Nat → Prop} {β : Nat → Value} {x : SO} {v : Value} (h : ObjR w S β x v) {g : Nat} (hg : blkOf v = some g) : g < w.heap.size := by
  cases h with
  | box cs g' vs T hg' hl h =>
    simp [blkOf] at hg
    subst hg
    exact (Array.getElem?_eq_some_iff.1 hg').1
  | arr e m n es v xs hn hown he h =>
    rcases hown.2 with ⟨rfl, _⟩ | ⟨g', cap, cur, rfl, hb, hg', r⟩
    · simp [blkOf] at hg
    · simp [blkOf] at hg
      subst hg
      exact (Array.getElem?_eq_some_iff.1 hg').1
def SO.names : SO → List Nat
  | .box cs => SV.names.namesL cs
  | .arr .. => []
theorem ObjR.agree {w : World} {S : Nat → Prop} {β β' : Nat → Value} {x : SO} {v : Value} (h : ObjR w S β x v) (hb : ∀ d ∈ x.names, β' d = β d) : ObjR w S β' x v := by
  cases h with
  | box cs g vs T hg hl h => exact .box cs g vs T hg hl fun j c v hc hv => (h j c v hc hv).agree fun d hd => hb d (SV.mem_namesL (List.mem_of_getElem? hc) hd)
  | arr e m n es v xs hn hown he h => exact .arr e m n es v xs hn hown he h

/-- What holds of a call while it runs: w0 is the world at its start, S0 the blocks that its arguments may be read through, pin the objects that it was handed to change. -/
structure Cx where
  w0 : World
  S0 : Nat → Prop
  pin : List (Nat × Value)
def Cx.X (c : Cx) (g : Nat) : Prop := ∃ j v, (j, v) ∈ c.pin ∧ blkOf v = some g

structure Rel (c : Cx) (S : Nat → Prop) (β : Nat → Value) (σ : SS) (a : Act) (w : World) : Prop where
  defers : a.defers = []
  size : a.tmps.size = σ.n
  one : ∀ d, (β d).cells = #[β d]
  grew : Grew c.X c.w0 w
  s0 : ∀ b, c.S0 b → S b
  s1 : ∀ b, S b → c.S0 b ∨ c.w0.heap.size ≤ b
  lt : ∀ b, S b → b < w.heap.size
  tmp : ∀ i v, (i, v) ∈ σ.t → i < a.tmps.size ∧ SVr w S β v (a.tmps.getD i undef)
  obj : ∀ d x, (d, x) ∈ σ.o → ObjR w S β x (β d)
  pin : ∀ j v, (j, v) ∈ c.pin → σ.n ≤ j ∧ ∀ x, (j, x) ∈ σ.o → β j = v
  priv : ∀ d x g, (d, x) ∈ σ.o → blkOf (β d) = some g → ¬ S g ∧ (c.w0.heap.size ≤ g ∨ (σ.n ≤ d ∧ c.X g))
  apart : ∀ d x d' x' g, (d, x) ∈ σ.o → (d', x') ∈ σ.o → blkOf (β d) = some g → blkOf (β d') = some g → d = d'

/-- The frame and the world stand as σ says. -/
def RelE (c : Cx) (σ : SS) (a : Act) (w : World) : Prop := ∃ S β, Rel c S β σ a w

/-- From σ one may go over to σ'. -/
def Le (σ σ' : SS) : Prop := ∀ c a w, RelE c σ a w → RelE c σ' a w
theorem Le.refl (σ : SS) : Le σ σ := fun _ _ _ h => h
theorem Le.trans {a b c : SS} (h : Le a b) (k : Le b c) : Le a c := fun _ _ _ r => k _ _ _ (h _ _ _ r)
theorem Le.sub {σ σ' : SS} (hn : σ'.n = σ.n) (ht : ∀ x ∈ σ'.t, x ∈ σ.t) (ho : ∀ x ∈ σ'.o, x ∈ σ.o) : Le σ σ' := fun _ _ _ ⟨S, β, h⟩ =>
  ⟨S, β, h.defers, h.size.trans hn.symm, h.one, h.grew, h.s0, h.s1, h.lt, fun i v hi => h.tmp i v (ht _ hi), fun d x hd => h.obj d x (ho _ hd), fun j v hj => ⟨hn ▸ (h.pin j v hj).1, fun x hx => (h.pin j v hj).2 x (ho _ hx)⟩, fun d x g hd hg => by have := h.priv d x g (ho _ hd) hg; rwa [← hn] at this, fun d x d' x' g hd hd' => h.apart d x d' x' g (ho _ hd) (ho _ hd')⟩
end Go.Proofs.Ytnnpmbcamnnfgaa.Sh
