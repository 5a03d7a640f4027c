/- General lemmas about slices that read as lists, and about worlds that only grow. -/
import Derived.Test.YtnnpmbcamnnfgaaRows
import Derived.WalkKit
import Derived.WalkSpells
import Derived.WalkLawsBesides
import Derived.Deep.QuietTactic
import Derived.BigQuiet
import Derived.Lib.Hide
namespace Go.Proofs.Ytnnpmbcamnnfgaa
open Go.RowKit

/-- A world that has only grown: every old block is as it was. -/
structure Ext (w : World) where
  W : World
  h : Below w.heap.size w W
def Ext.oth {w : World} (x : Ext w) (b o : Nat) : Option Value := x.W.cell? ⟨b, o, none⟩
def Ext.fro {w : World} (x : Ext w) (b o : Nat) : Bool := x.W.frozen? ⟨b, o, none⟩
theorem Ext.size {w : World} (x : Ext w) : w.heap.size ≤ x.W.heap.size := x.h.size
@[go_sem] theorem Ext.cell_if {w : World} (x : Ext w) (b o : Nat) : x.W.cell? ⟨b, o, none⟩ = if b < w.heap.size then w.cell? ⟨b, o, none⟩ else x.oth b o := by
  split
  · exact x.h.cell (p := ⟨b, o, none⟩) (by assumption)
  · rfl
@[go_sem] theorem Ext.frozen_if {w : World} (x : Ext w) (b o : Nat) : x.W.frozen? ⟨b, o, none⟩ = if b < w.heap.size then w.frozen? ⟨b, o, none⟩ else x.fro b o := by
  split
  · exact x.h.frozen (p := ⟨b, o, none⟩) (by assumption)
  · rfl
def objCell : Obj → Nat → Option Value
  | .cells c _ _, i => c[i]?
  | _, _ => none
@[go_sem] theorem objCell_cells (c : Array Value) (t : Nat) (f : Nat × Nat) (i : Nat) : objCell (.cells c t f) i = c[i]? := rfl
@[go_sem low] theorem cell_alloc_if (w : World) (ob : Obj) (b i : Nat) : (w.alloc ob).cell? ⟨b, i, none⟩ = if b < w.heap.size then w.cell? ⟨b, i, none⟩ else if b = w.heap.size then objCell ob i else none := by
  split
  · exact World.cell?_alloc_lt w ob _ (by assumption)
  · split
    · rename_i h
      subst h
      unfold World.cell?
      rw [show (w.alloc ob).heap[w.heap.size]? = some ob from heap_alloc_new w ob]
      cases ob <;> rfl
    · unfold World.cell?
      rw [Array.getElem?_eq_none (by simp; omega)]
def Ext.refl (w : World) : Ext w := ⟨w, Below.refl _ _⟩
instance (w : World) : Inhabited (Ext w) := ⟨Ext.refl w⟩
theorem ext_mk {w w' : World} (h : Below w.heap.size w w') : ∃ X : Ext w, w' = X.W := ⟨⟨w', h⟩, rfl⟩
theorem ext_of {w w' : World} (h : Below w.heap.size w w') : ∃ X : Ext w, w' = X.W := ⟨⟨w', h⟩, rfl⟩
theorem ext_and {w w' : World} {p : Prop} (h : Below w.heap.size w w') (hp : p) : ∃ X : Ext w, w' = X.W ∧ p := ⟨⟨w', h⟩, rfl, hp⟩
/-- A call of the function value g enters g. -/
def Ents (P : Program) (g : FuncId) : Prop := ∀ (args : Array Value) (w : World), (callFunc g args).run P w = .ok (.enter g args) w
theorem ents_of {P : Program} {f : FuncId} {fn : Func} {c : Code} (hf : P.funcs[f]? = some fn) (hname : (fn.name == "runtime.NumGoroutine") = false) (hb : fn.body = some c) : Ents P f := by
  intro args w
  have h1 : fn.name ≠ "runtime.NumGoroutine" := by simpa using hname
  simp [callFunc, hf, h1, hb, mark]
theorem wp_named {P : Program} {c : Code} {Q : Exit → Act → World → Prop} {a : Act} {w : World} (h : ∀ W0, W0 = w → c.wp P Q a W0) : c.wp P Q a w := h w rfl
theorem Below.ext {B : Nat} {a w : World} (h : Below B a w) (hB : B ≤ w.heap.size) (x : Ext w) : Below B a x.W := h.trans (x.h.mono hB)
theorem ret_bool {a b : Bool} (h : a = b) : Ending.returned (.bool a) = .returned (.bool b) := by rw [h]
theorem ret_int {k : IntKind} {a b : Int} (h : a = b) : Ending.returned (.int k a) = .returned (.int k b) := by rw [h]

/-- A region that draws its order, whose operations read old blocks and whose calls only make memory: one walk serves every order. -/
theorem wp_region_ext {P : Program} {id : Nat} {Q : Exit → Act → World → Prop} {a : Act} {w : World} {l : List Oper} (hm : P.follows .mixedOrders = true) (hB : Region.lexB .any l.toArray = true)
    (h : wpQuiet P l.toArray (fun w' => ∃ x : Ext w, w' = x.W) (fun a' => ∀ x : Ext w, Q .normal a' x.W) l a) : (Code.region id l.toArray true).wp P Q a w := by
  refine wp_region_quiet (C := fun w' => ∃ x : Ext w, w' = x.W) hm hB ⟨⟨_, (Below.refl _ _).drew⟩, rfl⟩ ?_
  have e : (fun a' => ∀ w', (∃ x : Ext w, w' = x.W) → Q .normal a' w') = (fun a' => ∀ x : Ext w, Q .normal a' x.W) := by
    funext a'
    apply propext
    exact ⟨fun h x => h _ ⟨x, rfl⟩, fun h w' ⟨x, hx⟩ => hx ▸ h x⟩
  rw [e]
  exact h
/-- A call inside such a region. -/
theorem calls_ext {P : Program} {f : FuncId} {args : Array Value} {w : World} {x : Ext w} {v : Value}
    (h : Calls P f args x.W fun e w' => e = .returned v ∧ ∃ y : Ext x.W, w' = y.W) : Calls P f args x.W fun e w'' => e = .returned v ∧ ∃ y : Ext w, w'' = y.W :=
  h.mono fun _ _ ⟨he, y, hy⟩ => ⟨he, ⟨y.W, Below.ext x.h x.size y⟩, hy⟩
theorem calls_ext_same {P : Program} {f : FuncId} {args : Array Value} {w : World} {x : Ext w} {v : Value}
    (h : Calls P f args x.W fun e w' => e = .returned v ∧ x.W = w') : Calls P f args x.W fun e w'' => e = .returned v ∧ ∃ y : Ext w, w'' = y.W :=
  h.mono fun _ _ ⟨he, hy⟩ => ⟨he, x, hy.symm⟩

/-- Data in memory: how many cells, and when cells read as the datum; every block that is met satisfies S. 'ok': what the type's own bounds say. -/
class Rep (α : Type) where
  sz : Nat
  rep : World → (Nat → Prop) → α → List Value → Prop
  ok : α → Prop
  len : ∀ {w S x cs}, rep w S x cs → cs.length = sz
  keep : ∀ {w w' S x cs}, rep w S x cs → (∀ b o, S b → w'.cell? ⟨b, o, none⟩ = w.cell? ⟨b, o, none⟩) → rep w' S x cs
  mono : ∀ {w S S' x cs}, rep w S x cs → (∀ b, S b → S' b) → rep w S' x cs

/-- The slice of n elements at address A, of capacity c, reads as the list L. -/
def Rd {α : Type} [Rep α] (w : World) (S : Nat → Prop) (A : Option Addr) (n c : Nat) (L : List α) : Prop :=
  L.length = n ∧ n ≤ c ∧ c ≤ maxLen ∧ ∀ k x, L[k]? = some x → ∃ b o cs, A = some ⟨b, o, none⟩ ∧ S b ∧ Rep.rep w S x cs ∧ ∀ j u, cs[j]? = some u → w.cell? ⟨b, o + k * Rep.sz α + j, none⟩ = some u
def lt (B : Nat) : Nat → Prop := fun b => b < B
def bt (C B : Nat) : Nat → Prop := fun b => C ≤ b ∧ b < B

section
variable {α : Type} [Rep α] {w w' : World} {S S' : Nat → Prop} {A : Option Addr} {n c : Nat} {L : List α}
theorem Rd.eq (h : Rd w S A n c L) : L.length = n := h.1
theorem Rd.cap (h : Rd w S A n c L) : n ≤ c := h.2.1
theorem Rd.len (h : Rd w S A n c L) : n ≤ 9223372036854775807 := Nat.le_trans h.2.1 h.2.2.1
theorem Rd.clen (h : Rd w S A n c L) : c ≤ 9223372036854775807 := h.2.2.1
theorem Rd.get (h : Rd w S A n c L) {k : Nat} (hk : k < n) : ∃ x, L[k]? = some x := ⟨L[k]'(by rw [h.1]; exact hk), List.getElem?_eq_getElem _⟩
theorem Rd.nil : Rd w S A 0 0 ([] : List α) := ⟨rfl, Nat.le_refl _, by simp, fun k x hx => by simp at hx⟩
theorem Rd.keep (h : Rd w S A n c L) (hk : ∀ b o, S b → w'.cell? ⟨b, o, none⟩ = w.cell? ⟨b, o, none⟩) : Rd w' S A n c L := ⟨h.1, h.2.1, h.2.2.1, fun k x hx => by
  obtain ⟨b, o, cs, hA, hb, hr, hc⟩ := h.2.2.2 k x hx
  exact ⟨b, o, cs, hA, hb, Rep.keep hr hk, fun j u hu => (hk _ _ hb).trans (hc j u hu)⟩⟩
theorem Rd.mono (h : Rd w S A n c L) (hk : ∀ b, S b → S' b) : Rd w S' A n c L := ⟨h.1, h.2.1, h.2.2.1, fun k x hx => by
  obtain ⟨b, o, cs, hA, hb, hr, hc⟩ := h.2.2.2 k x hx
  exact ⟨b, o, cs, hA, hk _ hb, Rep.mono hr hk, hc⟩⟩
theorem Rd.below {B : Nat} (h : Rd w (lt B) A n c L) (hb : Below B w w') : Rd w' (lt B) A n c L := h.keep fun _ _ hp => hb.cell (p := ⟨_, _, none⟩) hp
theorem Rd.up {B B' : Nat} (h : Rd w (lt B) A n c L) (hB : B ≤ B') : Rd w (lt B') A n c L := h.mono fun _ hp => Nat.lt_of_lt_of_le hp hB
/-- In a later world, when everything it reads is old. -/
theorem Rd.now {B : Nat} (h : Rd w (lt B) A n c L) (hb : Below B w w') (hB : B ≤ w'.heap.size) : Rd w' (lt w'.heap.size) A n c L := (h.below hb).up hB
theorem Rd.ext (h : Rd w (lt w.heap.size) A n c L) (x : Ext w) : Rd x.W (lt x.W.heap.size) A n c L := (h.below x.h).up x.size
/-- A slice that is cut at its end. -/
theorem Rd.take (h : Rd w S A n c L) {m : Nat} (hm : m ≤ n) : Rd w S A m c (L.take m) := ⟨by rw [List.length_take, h.1]; omega, by have := h.2.1; omega, h.2.2.1, fun k x hx => h.2.2.2 k x (by
  rw [List.getElem?_take] at hx
  split at hx
  · exact hx
  · cases hx)⟩
end

/-- Cells set one behind the other. -/
def setRun (l : List Value) (o : Nat) : List Value → List Value
  | [] => l
  | u :: us => setRun (l.set o u) (o + 1) us
theorem setRun_at (A Z : List Value) : ∀ us : List Value, us.length ≤ Z.length → setRun (A ++ Z) A.length us = A ++ us ++ Z.drop us.length := by
  intro us
  induction us generalizing A Z with
  | nil => intro _; simp [setRun]
  | cons u us ih =>
    intro h
    cases Z with
    | nil => simp at h
    | cons z Z =>
      have e : (A ++ z :: Z).set A.length u = (A ++ [u]) ++ Z := by simp
      have h2 := ih (A ++ [u]) Z (by simpa using h)
      rw [setRun, e, show A.length + 1 = (A ++ [u]).length from by simp, h2]
      simp

theorem setRun_length : ∀ (us l : List Value) (o : Nat), (setRun l o us).length = l.length
  | [], _, _ => rfl
  | u :: us, l, o => by rw [setRun, setRun_length us, List.length_set]
/-- The cells of a list, one datum behind the other. -/
def Enc {α : Type} [Rep α] (w : World) (S : Nat → Prop) : List α → List Value → Prop
  | [], xs => xs = []
  | x :: L, xs => ∃ cs ys, xs = cs ++ ys ∧ Rep.rep w S x cs ∧ Enc w S L ys
section
variable {α : Type} [Rep α] {w w' : World} {S S' : Nat → Prop}
theorem Enc.length : ∀ {L : List α} {xs : List Value}, Enc w S L xs → xs.length = L.length * Rep.sz α
  | [], _, h => by rw [h]; simp
  | x :: L, _, ⟨cs, ys, h, h1, h2⟩ => by rw [h, List.length_append, Rep.len h1, h2.length, List.length_cons, Nat.add_mul]; omega
theorem Enc.keep (hk : ∀ b o, S b → w'.cell? ⟨b, o, none⟩ = w.cell? ⟨b, o, none⟩) : ∀ {L : List α} {xs : List Value}, Enc w S L xs → Enc w' S L xs
  | [], _, h => h
  | x :: L, _, ⟨cs, ys, h, h1, h2⟩ => ⟨cs, ys, h, Rep.keep h1 hk, Enc.keep hk h2⟩
theorem Enc.mono (hk : ∀ b, S b → S' b) : ∀ {L : List α} {xs : List Value}, Enc w S L xs → Enc w S' L xs
  | [], _, h => h
  | x :: L, _, ⟨cs, ys, h, h1, h2⟩ => ⟨cs, ys, h, Rep.mono h1 hk, Enc.mono hk h2⟩
theorem Enc.append : ∀ {L M : List α} {xs ys : List Value}, Enc w S L xs → Enc w S M ys → Enc w S (L ++ M) (xs ++ ys)
  | [], _, _, _, h, h' => by rw [h]; exact h'
  | x :: L, _, _, _, ⟨cs, zs, h, h1, h2⟩, h' => ⟨cs, zs ++ _, by rw [h, List.append_assoc], h1, h2.append h'⟩
theorem Enc.one {x : α} {cs : List Value} (h : Rep.rep w S x cs) : Enc w S [x] cs := ⟨cs, [], by simp, h, rfl⟩
theorem Enc.snoc {L : List α} {xs cs : List Value} {x : α} (h : Enc w S L xs) (h1 : Rep.rep w S x cs) : Enc w S (L ++ [x]) (xs ++ cs) := h.append (.one h1)
/-- One datum more behind the first k, its cells written into the row. -/
theorem Enc.put {L : List α} {l cs : List Value} {k : Nat} {x : α} (h : Enc w S (L.take k) (l.take (k * Rep.sz α))) (hx : L[k]? = some x) (h1 : Rep.rep w S x cs) (hl : (k + 1) * Rep.sz α ≤ l.length) :
    Enc w S (L.take (k + 1)) ((setRun l (k * Rep.sz α) cs).take ((k + 1) * Rep.sz α)) := by
  have e : l = l.take (k * Rep.sz α) ++ l.drop (k * Rep.sz α) := (List.take_append_drop _ _).symm
  have hlen : (l.take (k * Rep.sz α)).length = k * Rep.sz α := by rw [List.length_take]; rw [Nat.add_mul] at hl; omega
  have hcs := Rep.len h1
  rw [Nat.add_mul, Nat.one_mul] at hl ⊢
  have h2 := setRun_at (l.take (k * Rep.sz α)) (l.drop (k * Rep.sz α)) cs (by rw [List.length_drop, hcs]; omega)
  rw [hlen, ← e] at h2
  have h3 : (List.take (k * Rep.sz α) l ++ cs ++ List.drop cs.length (List.drop (k * Rep.sz α) l)).take (k * Rep.sz α + Rep.sz α) = List.take (k * Rep.sz α) l ++ cs := by
    rw [List.take_append_of_le_length (by rw [List.length_append, hlen, hcs]; omega), List.take_of_length_le (by rw [List.length_append, hlen, hcs]; omega)]
  rw [h2, h3]
  obtain ⟨hk, rfl⟩ := List.getElem?_eq_some_iff.1 hx
  rw [List.take_succ_eq_append_getElem hk]
  exact h.snoc h1
theorem Enc.at_ : ∀ {L : List α} {xs : List Value} {k : Nat} {x : α}, Enc w S L xs → L[k]? = some x → ∃ cs, Rep.rep w S x cs ∧ ∀ j u, cs[j]? = some u → xs[k * Rep.sz α + j]? = some u
  | y :: L, _, 0, x, ⟨cs, ys, h, h1, h2⟩, hx => by
    simp only [List.getElem?_cons_zero, Option.some.injEq] at hx
    subst hx
    refine ⟨cs, h1, fun j u hu => ?_⟩
    rw [h, Nat.zero_mul, Nat.zero_add, List.getElem?_append_left (List.getElem?_eq_some_iff.1 hu).1]
    exact hu
  | y :: L, _, k + 1, x, ⟨cs, ys, h, h1, h2⟩, hx => by
    simp only [List.getElem?_cons_succ] at hx
    obtain ⟨ds, hd, hc⟩ := h2.at_ hx
    refine ⟨ds, hd, fun j u hu => ?_⟩
    rw [h, Nat.add_mul, Nat.one_mul, List.getElem?_append_right (by rw [Rep.len h1]; omega), Rep.len h1, show k * Rep.sz α + Rep.sz α + j - Rep.sz α = k * Rep.sz α + j from by omega]
    exact hc j u hu
/-- Cells that lie in memory, read as the list. -/
theorem Enc.rd {L : List α} {xs : List Value} {b o n c : Nat} (h : Enc w S L xs) (hn : L.length = n) (hnc : n ≤ c) (hm : c ≤ maxLen) (hb : S b) (hc : ∀ j u, xs[j]? = some u → w.cell? ⟨b, o + j, none⟩ = some u) : Rd w S (some ⟨b, o, none⟩) n c L :=
  ⟨hn, hnc, hm, fun k x hx => by
    obtain ⟨cs, h1, h2⟩ := h.at_ hx
    exact ⟨b, o, cs, rfl, hb, h1, fun j u hu => by rw [Nat.add_assoc]; exact hc _ _ (h2 j u hu)⟩⟩
end

/-- Data without a slice inside: where it lies makes no difference. -/
class Flat (α : Type) [Rep α] : Prop where
  any : ∀ {w w' : World} {S S' : Nat → Prop} {x : α} {cs : List Value}, Rep.rep w S x cs → Rep.rep w' S' x cs
theorem Enc.flat {α : Type} [Rep α] [Flat α] {w w' : World} {S S' : Nat → Prop} : ∀ {L : List α} {xs : List Value}, Enc w S L xs → Enc w' S' L xs
  | [], _, h => h
  | _ :: _, _, ⟨cs, ys, h, h1, h2⟩ => ⟨cs, ys, h, Flat.any h1, Enc.flat h2⟩
/-- A block that is known whole, none of it frozen. -/
def Blk (w : World) (g t : Nat) (l : List Value) : Prop := w.heap[g]? = some (.cells l.toArray t (0, 0))
section
variable {w w' : World} {g t : Nat} {l : List Value}
theorem Blk.lt (h : Blk w g t l) : g < w.heap.size := by
  rcases Nat.lt_or_ge g w.heap.size with hlt | hge
  · exact hlt
  · unfold Blk at h; rw [Array.getElem?_eq_none hge] at h; cases h
theorem Blk.cell (h : Blk w g t l) (i : Nat) : w.cell? ⟨g, i, none⟩ = l[i]? := by
  have := cell_of_row w g i l.toArray t (0, 0) h
  simpa using this
theorem Blk.frozen (h : Blk w g t l) (i : Nat) : w.frozen? ⟨g, i, none⟩ = false := by
  unfold Blk at h
  simp [World.frozen?, h]
theorem Blk.new (w : World) (t : Nat) (l : List Value) : Blk (w.alloc (.cells l.toArray t)) w.heap.size t l := heap_alloc_new w _
theorem Blk.drew (h : Blk w g t l) : Blk w.drew g t l := h
theorem Blk.alloc (h : Blk w g t l) (o : Obj) : Blk (w.alloc o) g t l := (Below.heap_alloc w o g h.lt).trans h
theorem Blk.set_ (h : Blk w g t l) (i : Nat) (u : Value) : Blk (w.setCell ⟨g, i, none⟩ u) g t (l.set i u) := by
  unfold Blk at h ⊢
  simp [World.setCell, Array.getElem?_modify, h]
theorem Blk.far (h : Blk w g t l) {p : Addr} (hp : g ≠ p.block) (u : Value) : Blk (w.setCell p u) g t l := (Below.heap_setCell w p u g hp).trans h
theorem Blk.below {B : Nat} (h : Blk w g t l) (hb : Below B w w') (hg : g < B) : Blk w' g t l := (hb.block g hg).trans h
theorem Blk.ext (h : Blk w g t l) (x : Ext w) : Blk x.W g t l := h.below x.h h.lt
theorem Blk.rd {α : Type} [Rep α] {S : Nat → Prop} {L : List α} {n c : Nat} (h : Blk w g t l) (he : Enc w S L l) (hn : L.length = n) (hnc : n ≤ c) (hm : c ≤ maxLen) (hb : S g) : Rd w S (some ⟨g, 0, none⟩) n c L :=
  he.rd hn hnc hm hb (fun j u hu => by rw [h.cell]; rw [Nat.zero_add]; exact hu)
theorem Blk.own (h : Blk w g t l) {base size n : Nat} (hb : base ≤ g) (hn : n ≤ maxLen) (hl : l.length = n * size) : w.ownsRow base t size (.slice (some ⟨g, 0, none⟩) n n) n l :=
  ⟨hl, .inr ⟨g, n, l.toArray, rfl, hb, h, Nat.le_refl _, hn, by simpa using hl, by simp [← hl]⟩⟩
/-- make: elements of several cells. -/
theorem make_any {P : Program} (t e : TypeId) {z : Value} {size bytes : Nat} (ht : P.underlying t = some (.slice e)) (hinfo : (P.info? e).map (fun i => (i.zero, i.size, i.bytes)) = some (some z, size, bytes))
    (kl kc : IntKind) (n c : Nat) (hnc : n ≤ c) (hbytes : bytes * c ≤ 281474976710656) (h63 : c ≤ 9223372036854775807) (w : World) :
    (Instr.makeSlice t (.int kl (n : Int)) (.int kc (c : Int))).run P w = .ok (.slice (some ⟨w.heap.size, 0, none⟩) n c) (w.alloc (.cells (madeCells z.cells (c * size)) e)) := by
  obtain ⟨i, hi, hz, hs, hb'⟩ := info_parts hinfo
  have hb : (i.bytes : Int) * (c : Int) ≤ 281474976710656 := by
    have h : ((i.bytes * c : Nat) : Int) ≤ 281474976710656 := by rw [hb']; omega
    rwa [Int.natCast_mul] at h
  have hr := run_make (P := P) w t e i z ht hi hz kl kc n c (by omega) (by omega) hb (by omega)
  simp only [Int.toNat_natCast] at hr
  rw [← hs]
  exact hr
theorem Blk.made (w : World) (t : Nat) (cs : Array Value) : Blk (w.alloc (.cells cs t)) w.heap.size t cs.toList := by
  have := Blk.new w t cs.toList
  simpa using this
theorem Blk.val (h : Blk w g t l) {i : Nat} (hi : i < l.length) : ∃ v, w.cell? ⟨g, i, none⟩ = some v := ⟨l[i], by rw [h.cell]; exact List.getElem?_eq_getElem hi⟩
end
/-- A slice that the call itself is building (nil at first), which reads as L: its block, if there is one, is base or younger. -/
def Acc {α : Type} [Rep α] (w : World) (base e : Nat) (v : Value) (L : List α) : Prop := ∃ xs, w.ownsRow base e (Rep.sz α) v L.length xs ∧ Enc w (fun _ => False) L xs
section
variable {α : Type} [Rep α] {w w' : World} {base e : Nat} {v : Value} {L : List α}
theorem Acc.nil : Acc w base e (.slice none 0 0) ([] : List α) := ⟨[], World.ownsRow_nil _ _ _ _, rfl⟩
theorem Acc.empty (hb : base ≤ w.heap.size) : Acc (w.alloc (.cells #[] e)) base e (.slice (some ⟨w.heap.size, 0, none⟩) 0 0) ([] : List α) := ⟨[], World.ownsRow_made w #[] 0 hb (by simp) (by simp), rfl⟩
theorem Acc.form (h : Acc w base e v L) : ∃ A c, v = .slice A L.length c := by
  obtain ⟨xs, h1, _⟩ := h
  rcases h1.2 with ⟨rfl, hn⟩ | ⟨g, cap, cur, rfl, _⟩
  · exact ⟨none, 0, by rw [hn]⟩
  · exact ⟨_, cap, rfl⟩
theorem Acc.lts (h : Acc w base e v L) : ∀ k, v.ownBlock = some k → base ≤ k ∧ k < w.heap.size := by
  obtain ⟨xs, h1, _⟩ := h
  exact h1.lt
theorem Acc.own {A : Option Addr} {n c : Nat} (h : Acc w base e (.slice A n c) L) : ∃ xs, w.ownsRow base e (Rep.sz α) (.slice A n c) n xs := by
  obtain ⟨A', c', hv⟩ := h.form
  injection hv with h1 h2 h3
  subst h2
  obtain ⟨xs, h1, _⟩ := h
  exact ⟨xs, h1⟩
variable [Flat α]
theorem Acc.grown (h : Acc w base e v L) {row : Option Nat} (hg : w.grownBy w' row) (hne : v.ownBlock = none ∨ v.ownBlock ≠ row) : Acc w' base e v L := by
  obtain ⟨xs, h1, h2⟩ := h
  exact ⟨xs, h1.kept hg hne, h2.flat⟩
theorem Acc.alloc (h : Acc w base e v L) (o : Obj) : Acc (w.alloc o) base e v L := by
  obtain ⟨xs, h1, h2⟩ := h
  exact ⟨xs, h1.alloc o, h2.flat⟩
theorem Acc.drew (h : Acc w base e v L) : Acc w.drew base e v L := by
  obtain ⟨xs, h1, h2⟩ := h
  exact ⟨xs, h1, h2.flat⟩
theorem Acc.ext (h : Acc w base e v L) (x : Ext w) : Acc x.W base e v L := h.grown (row := none) ⟨x.h.os, x.h.tape, x.h.output, x.h.size, fun k hk _ => x.h.block k hk⟩ (by cases hv : v.ownBlock <;> simp)
theorem Acc.below {B : Nat} (h : Acc w base e v L) (hb : Below B w w') (hB : B = w.heap.size) : Acc w' base e v L := h.ext ⟨w', hB ▸ hb⟩
theorem Acc.far (h : Acc w base e v L) {p : Addr} (hp : p.block < base) (u : Value) : Acc (w.setCell p u) base e v L := by
  have hl : ∀ k, v.ownBlock = some k → base ≤ k := by
    obtain ⟨xs, h1, _⟩ := h
    exact fun k hk => (h1.lt k hk).1
  refine h.grown (row := some p.block) ⟨rfl, rfl, rfl, by simp, fun k _ hk => heap_setCell_other w p k u (fun e => hk (by rw [e]))⟩ ?_
  rcases hv : v.ownBlock with _ | k
  · exact .inl rfl
  · refine .inr fun e => ?_
    injection e with e
    have := hl k hv
    omega
theorem Acc.mono {α : Type} [Rep α] {w : World} {base base' e : Nat} {v : Value} {L : List α} (h : Acc w base e v L) (hb : base' ≤ base) : Acc w base' e v L := by
  obtain ⟨xs, ⟨h1, h2⟩, h3⟩ := h
  refine ⟨xs, ⟨h1, ?_⟩, h3⟩
  rcases h2 with h2 | ⟨g, cap, cur, hv, hg, hr⟩
  · exact .inl h2
  · exact .inr ⟨g, cap, cur, hv, by omega, hr⟩
/-- What has been built reads as L. -/
theorem Acc.rd (h : Acc w base e v L) (hs : 0 < Rep.sz α) (hm : L.length ≤ maxLen) : ∃ A c, v = .slice A L.length c ∧ Rd w (bt base w.heap.size) A L.length c L := by
  obtain ⟨xs, h1, h2⟩ := h
  have hlt := h1.lt
  rcases h1.2 with ⟨rfl, hn⟩ | ⟨g, cap, cur, rfl, hb, hg, hnc, hcm, hsz, htk⟩
  · obtain rfl := List.eq_nil_of_length_eq_zero hn
    exact ⟨none, 0, rfl, Rd.nil⟩
  · have hg' := hlt g rfl
    refine ⟨_, cap, rfl, Enc.rd (xs := xs) h2.flat rfl hnc hcm hg' fun j u hu => ?_⟩
    have := h1.cells (g := g) rfl j u hu
    rwa [Addr.add_lit] at this
theorem Acc.read {A : Option Addr} {n c : Nat} (h : Acc w base e (.slice A n c) L) (hs : 0 < Rep.sz α) (hm : L.length ≤ maxLen) : Rd w (Go.Proofs.Ytnnpmbcamnnfgaa.lt w.heap.size) A n c L := by
  obtain ⟨A', c', hv, hr⟩ := h.rd hs hm
  injection hv with h1 h2 h3
  subst h1 h2 h3
  exact hr.mono fun _ hb => hb.2
theorem cell_new (w : World) (t : Nat) (cs : List Value) (j : Nat) (u : Value) (h : cs[j]? = some u) : (w.alloc (.cells cs.toArray t)).cell? ((⟨w.heap.size, 0, none⟩ : Addr).add j) = some u := by
  rw [Addr.add_lit, Nat.zero_add, World.cell?_alloc_new]
  simpa using h
/-- 'out = append(out, x)': one datum more. -/
theorem wpList_push {P : Program} {ops : Array Oper} {rest : List Oper} {o : Oper} {a : Act} {Q : Exit → Act → World → Prop} (hgd : o.guard = none) (s x : Operand) (t : TypeId)
    (ho : o.op = .call { callee := .builtin .append, args := #[s, x], argTypes := #[t, t] }) {z : Value} {size bytes : Nat}
    (ht : P.underlying t = some (.slice e)) (hinfo : (P.info? e).map (fun i => (i.zero, i.size, i.bytes)) = some (some z, size, bytes)) (hsz : size = Rep.sz α) (hz : z.cells.size = size) (hpos : 0 < size)
    (hs : a.eval s = v) (hacc : Acc w base e v L) (y : α) (cs : List Value) (hr : ∀ (W : World) (S : Nat → Prop), Rep.rep W S y cs) (h1 : ∀ u ∈ cs, u.oneCell' = true)
    (hx : a.eval x = .slice (some ⟨w.heap.size, 0, none⟩) 1 1) (hroom : (L.length + 1) * bytes ≤ 140737488355328) (hlen : L.length + 1 ≤ maxLen) (hbase : base ≤ w.heap.size)
    (h : ∀ v' w', Acc w' base e v' (L ++ [y]) → Below base w w' → wpList P ops Q rest (a.put o.dst v') w') : wpList P ops Q (o :: rest) a (w.alloc (.cells cs.toArray e)) := by
  obtain ⟨xs, g1, g2⟩ := hacc
  obtain ⟨i, hi, hz0, hz1, hz2⟩ := info_parts hinfo
  subst hsz
  have hcs : cs.length = Rep.sz α := Rep.len (hr w (fun _ => False))
  have hlt := g1.lt
  refine wpList_append_own _ hgd s x t ho base e i z (Rep.sz α) bytes ht hi hz0 hz1 hz2 hz hpos v L.length xs hs (g1.alloc _) ⟨w.heap.size, 0, none⟩ 1 1 cs hx (by rw [hcs, Nat.one_mul]) (fun j u hu => cell_new w e cs j u hu) h1 hlen hroom (by simp; omega) ?_
  intro v' w' k1 k2 _
  refine h v' w' ⟨xs ++ cs, by simpa using k1, (g2.flat (w' := w') (S' := fun _ => False)).snoc (hr _ _)⟩ ?_
  exact ((Below.refl base w).alloc hbase _).grown k2 (by simp; omega) (fun k hk => (hlt k hk).1)
end

instance : Rep Int where
  sz := 1
  rep _ _ x cs := cs = [.int .i64 x]
  ok x := -9223372036854775808 ≤ x ∧ x ≤ 9223372036854775807
  len h := by rw [h]; rfl
  keep h _ := h
  mono h _ := h
instance : Flat Int := ⟨fun h => h⟩
instance : Rep Bool where
  sz := 1
  rep _ _ x cs := cs = [.bool x]
  ok _ := True
  len h := by rw [h]; rfl
  keep h _ := h
  mono h _ := h
instance : Flat Bool := ⟨fun h => h⟩
instance : Rep ByteArray where
  sz := 1
  rep _ _ x cs := cs = [.string x]
  ok x := x.size ≤ maxLen
  len h := by rw [h]; rfl
  keep h _ := h
  mono h _ := h
instance : Flat ByteArray := ⟨fun h => h⟩
instance : Rep UInt8 where
  sz := 1
  rep _ _ x cs := cs = [.int .u8 x.toNat]
  ok _ := True
  len h := by rw [h]; rfl
  keep h _ := h
  mono h _ := h
instance : Flat UInt8 := ⟨fun h => h⟩
instance {α : Type} [Rep α] : Rep (List α) where
  sz := 1
  rep w S x cs := ∃ A n c, cs = [.slice A n c] ∧ Rd w S A n c x
  ok x := x.length ≤ maxLen ∧ ∀ y ∈ x, Rep.ok y
  len h := by obtain ⟨A, n, c, h, _⟩ := h; rw [h]; rfl
  keep h hk := by obtain ⟨A, n, c, h, hr⟩ := h; exact ⟨A, n, c, h, hr.keep hk⟩
  mono h hk := by obtain ⟨A, n, c, h, hr⟩ := h; exact ⟨A, n, c, h, hr.mono hk⟩

section
variable {w : World} {S : Nat → Prop} {A : Option Addr} {k n c : Nat}
theorem Rd.at_int {L : List Int} {x : Int} (h : Rd w S A n c L) (hx : L[k]? = some x) : ∃ b o, A = some ⟨b, o, none⟩ ∧ S b ∧ w.cell? ⟨b, o + k, none⟩ = some (.int .i64 x) := by
  obtain ⟨b, o, cs, hA, hb, rfl, hc⟩ := h.2.2.2 k x hx
  exact ⟨b, o, hA, hb, by simpa [Rep.sz] using hc 0 _ rfl⟩
theorem Rd.at_str {L : List ByteArray} {x : ByteArray} (h : Rd w S A n c L) (hx : L[k]? = some x) : ∃ b o, A = some ⟨b, o, none⟩ ∧ S b ∧ w.cell? ⟨b, o + k, none⟩ = some (.string x) := by
  obtain ⟨b, o, cs, hA, hb, rfl, hc⟩ := h.2.2.2 k x hx
  exact ⟨b, o, hA, hb, by simpa [Rep.sz] using hc 0 _ rfl⟩
theorem Rd.at_u8 {L : List UInt8} {x : UInt8} (h : Rd w S A n c L) (hx : L[k]? = some x) : ∃ b o, A = some ⟨b, o, none⟩ ∧ S b ∧ w.cell? ⟨b, o + k, none⟩ = some (.int .u8 x.toNat) := by
  obtain ⟨b, o, cs, hA, hb, rfl, hc⟩ := h.2.2.2 k x hx
  exact ⟨b, o, hA, hb, by simpa [Rep.sz] using hc 0 _ rfl⟩
theorem Rd.at_list {α : Type} [Rep α] {L : List (List α)} {x : List α} (h : Rd w S A n c L) (hx : L[k]? = some x) :
    ∃ b o A' n' c', A = some ⟨b, o, none⟩ ∧ S b ∧ w.cell? ⟨b, o + k, none⟩ = some (.slice A' n' c') ∧ Rd w S A' n' c' x := by
  obtain ⟨b, o, cs, hA, hb, ⟨A', n', c', rfl, hr⟩, hc⟩ := h.2.2.2 k x hx
  exact ⟨b, o, A', n', c', hA, hb, by simpa [Rep.sz] using hc 0 _ rfl, hr⟩
theorem drop_of {α : Type} {L : List α} {k : Nat} {x : α} (hx : L[k]? = some x) : L.drop k = x :: L.drop (k + 1) := by
  obtain ⟨h, rfl⟩ := List.getElem?_eq_some_iff.1 hx
  exact List.drop_eq_getElem_cons h
theorem take_of {α : Type} {L : List α} {k : Nat} {x : α} (hx : L[k]? = some x) : L.take (k + 1) = L.take k ++ [x] := by
  obtain ⟨h, rfl⟩ := List.getElem?_eq_some_iff.1 hx
  rw [List.take_succ_eq_append_getElem h]
theorem get_of {α : Type} {L : List α} {k : Nat} (h : k < L.length) : ∃ x, L[k]? = some x := ⟨L[k], List.getElem?_eq_getElem h⟩
theorem lt_of_get {α : Type} {L : List α} {k : Nat} {x : α} (hx : L[k]? = some x) : k < L.length := (List.getElem?_eq_some_iff.1 hx).1
theorem any_hit {α : Type} {L : List α} {k j : Nat} {x : α} {p : α → Bool} (hj : j < k) (hx : L[j]? = some x) (h : p x = true) : (L.take k).any p = true := by
  rw [List.any_eq_true]
  exact ⟨x, List.mem_iff_getElem?.2 ⟨j, by rw [List.getElem?_take_of_lt hj]; exact hx⟩, h⟩
theorem any_step {α : Type} {L : List α} {j : Nat} {x : α} {p : α → Bool} (hx : L[j]? = some x) (h1 : (L.take j).any p = false) (h : p x = false) : (L.take (j + 1)).any p = false := by
  rw [take_of hx, List.any_append, h1]
  simp [h]
end

/-- The marks k, k + 1, .. -/
def mk (k : Int) (N : Nat) : List Value := (List.range N).map fun (i : Nat) => .int .i64 (k + i)
theorem mk_length (k : Int) (N : Nat) : (mk k N).length = N := by simp [mk]
theorem mk_succ (k : Int) (N : Nat) : mk k (N + 1) = mk k N ++ [.int .i64 (k + N)] := by simp [mk, List.range_succ]
theorem mk_get {k : Int} {N i : Nat} (h : i < N) : (mk k N)[i]? = some (.int .i64 (k + i)) := by simp [mk, h]
theorem take_setRun {l us : List Value} {o : Nat} (h : o + us.length ≤ l.length) : (setRun l o us).take (o + us.length) = l.take o ++ us := by
  have hlen : (l.take o).length = o := by rw [List.length_take]; omega
  have h2 := setRun_at (l.take o) (l.drop o) us (by rw [List.length_drop]; omega)
  rw [hlen, List.take_append_drop] at h2
  rw [h2, List.take_append_of_le_length (by rw [List.length_append, hlen]; exact Nat.le_refl _), List.take_of_length_le (by rw [List.length_append, hlen]; exact Nat.le_refl _)]
theorem own_form {w : World} {base e size n c : Nat} {A : Option Addr} {xs : List Value} (h : w.ownsRow base e size (.slice A n c) n xs) (hn : 0 < n) : ∃ g, A = some ⟨g, 0, none⟩ ∧ base ≤ g ∧ g < w.heap.size := by
  have hl := h.lt
  rcases h.2 with ⟨h1, h2⟩ | ⟨g, cap, cur, h1, h2, h3, _⟩
  · omega
  · injection h1 with h1
    subst h1
    exact ⟨g, rfl, hl g rfl⟩
theorem own_val {w : World} {base e size n c g : Nat} {xs : List Value} (h : w.ownsRow base e size (.slice (some ⟨g, 0, none⟩) n c) n xs) {j : Nat} (hj : j < n * size) : ∃ v, w.cell? ⟨g, j, none⟩ = some v :=
  ⟨xs[j]'(by rw [h.1]; exact hj), by rw [h.cellAt j hj]; exact List.getElem?_eq_getElem _⟩
theorem grown_trans {a b c : World} {row : Option Nat} (h : a.grownBy b row) (k : b.grownBy c row) : a.grownBy c row :=
  ⟨k.os.trans h.os, k.tape.trans h.tape, k.output.trans h.output, Nat.le_trans h.size k.size, fun i hi hne => (k.block i (Nat.lt_of_lt_of_le hi h.size) hne).trans (h.block i hi hne)⟩
theorem grown_of_below {a w : World} (h : Below a.heap.size a w) (row : Option Nat) : a.grownBy w row := ⟨h.os, h.tape, h.output, h.size, fun i hi _ => h.block i hi⟩
/-- What does not touch the marked row stands. -/
theorem Rd.grown {α : Type} [Rep α] {w w' : World} {S : Nat → Prop} {A : Option Addr} {n c : Nat} {L : List α} {row : Option Nat} (h : Rd w S A n c L) (hg : w.grownBy w' row) (hS : ∀ b, S b → b < w.heap.size ∧ some b ≠ row) : Rd w' S A n c L :=
  h.keep fun b _ hb => World.cell?_of_block (hg.block b (hS b hb).1 (hS b hb).2)
theorem Rd.grownlt {α : Type} [Rep α] {w w' : World} {B : Nat} {A : Option Addr} {n c : Nat} {L : List α} {g : Nat} (h : Rd w (lt B) A n c L) (hg : w.grownBy w' (some g)) (hB : B ≤ g) (hw : B ≤ w.heap.size) : Rd w' (lt B) A n c L :=
  h.grown hg fun b hb => ⟨Nat.lt_of_lt_of_le hb hw, fun e => by injection e with e; subst e; exact absurd hb (by simp only [lt]; omega)⟩

/-- 'ownsRow', under a name of this text's own. -/
def Owns (w : World) (base e size : Nat) (v : Value) (n : Nat) (xs : List Value) : Prop := w.ownsRow base e size v n xs
theorem Owns.ext {w : World} {base e size n : Nat} {v : Value} {xs : List Value} (h : Owns w base e size v n xs) (x : Ext w) : Owns x.W base e size v n xs :=
  World.ownsRow.kept h (grown_of_below x.h none) (by cases hv : v.ownBlock <;> simp)
theorem Owns.grown {w w' : World} {base e size n : Nat} {v : Value} {xs : List Value} {row : Option Nat} (h : Owns w base e size v n xs) (hg : w.grownBy w' row) (hne : v.ownBlock = none ∨ v.ownBlock ≠ row) : Owns w' base e size v n xs :=
  World.ownsRow.kept h hg hne
/-- A slice that was there before block g was made is not block g; one that was made behind it is not, either. -/
theorem own_old {v : Value} {B b g : Nat} (h : ∀ k, v.ownBlock = some k → b ≤ k ∧ k < B) (hB : B ≤ g) : v.ownBlock = none ∨ v.ownBlock ≠ some g := by
  rcases hv : v.ownBlock with _ | k
  · exact .inl rfl
  · refine .inr fun e => ?_
    injection e with e
    have := (h k hv).2
    omega
theorem own_new {v : Value} {B b g : Nat} (h : ∀ k, v.ownBlock = some k → b ≤ k ∧ k < B) (hB : g < b) : v.ownBlock = none ∨ v.ownBlock ≠ some g := by
  rcases hv : v.ownBlock with _ | k
  · exact .inl rfl
  · refine .inr fun e => ?_
    injection e with e
    have := (h k hv).1
    omega
theorem own_two {v v' : Value} {B b B' b' : Nat} (h : ∀ k, v.ownBlock = some k → b ≤ k ∧ k < B) (h' : ∀ k, v'.ownBlock = some k → b' ≤ k ∧ k < B') (hB : B ≤ b') : v.ownBlock = none ∨ v.ownBlock ≠ v'.ownBlock := by
  rcases hv : v.ownBlock with _ | k
  · exact .inl rfl
  · refine .inr fun e => ?_
    have h1 := (h k hv).2
    have h2 := (h' k e.symm).1
    omega
theorem below_own {w w1 w' : World} {v : Value} {B b : Nat} (hW : Below w.heap.size w w1) (hg : w1.grownBy w' v.ownBlock) (h : ∀ k, v.ownBlock = some k → b ≤ k ∧ k < B) (hb : w.heap.size ≤ b) : Below w.heap.size w w' :=
  hW.grown hg hW.size fun k hk => Nat.le_trans hb (h k hk).1
end Go.Proofs.Ytnnpmbcamnnfgaa
