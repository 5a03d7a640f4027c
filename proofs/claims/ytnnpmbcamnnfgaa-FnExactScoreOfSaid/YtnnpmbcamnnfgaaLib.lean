/- General lemmas about slices that read as lists, and about worlds that only grow. -/
import Derived.Test.YtnnpmbcamnnfgaaRows
import Derived.WalkKit
import Derived.WalkSpells
import Derived.WalkLawsBesides
import Derived.Deep.QuietTactic
import Derived.BigQuiet
import Derived.Lib.Hide
namespace Go.Proofs.Ytnnpmbcamnnfgaa
open Go.RowKit

/-- A world that has only grown: every old block is as it was. -/
structure Ext (w : World) where
  W : World
  h : Below w.heap.size w W
def Ext.oth {w : World} (x : Ext w) (b o : Nat) : Option Value := x.W.cell? ⟨b, o, none⟩
def Ext.fro {w : World} (x : Ext w) (b o : Nat) : Bool := x.W.frozen? ⟨b, o, none⟩
theorem Ext.size {w : World} (x : Ext w) : w.heap.size ≤ x.W.heap.size := x.h.size
@[go_sem] theorem Ext.cell_if {w : World} (x : Ext w) (b o : Nat) : x.W.cell? ⟨b, o, none⟩ = if b < w.heap.size then w.cell? ⟨b, o, none⟩ else x.oth b o := by
  split
  · exact x.h.cell (p := ⟨b, o, none⟩) (by assumption)
  · rfl
@[go_sem] theorem Ext.frozen_if {w : World} (x : Ext w) (b o : Nat) : x.W.frozen? ⟨b, o, none⟩ = if b < w.heap.size then w.frozen? ⟨b, o, none⟩ else x.fro b o := by
  split
  · exact x.h.frozen (p := ⟨b, o, none⟩) (by assumption)
  · rfl
def objCell : Obj → Nat → Option Value
  | .cells c _ _, i => c[i]?
  | _, _ => none
@[go_sem] theorem objCell_cells (c : Array Value) (t : Nat) (f : Nat × Nat) (i : Nat) : objCell (.cells c t f) i = c[i]? := rfl
@[go_sem low] theorem cell_alloc_if (w : World) (ob : Obj) (b i : Nat) : (w.alloc ob).cell? ⟨b, i, none⟩ = if b < w.heap.size then w.cell? ⟨b, i, none⟩ else if b = w.heap.size then objCell ob i else none := by
  split
  · exact World.cell?_alloc_lt w ob _ (by assumption)
  · split
    · rename_i h
      subst h
      unfold World.cell?
      rw [show (w.alloc ob).heap[w.heap.size]? = some ob from heap_alloc_new w ob]
      cases ob <;> rfl
    · unfold World.cell?
      rw [Array.getElem?_eq_none (by simp; omega)]
def Ext.refl (w : World) : Ext w := ⟨w, Below.refl _ _⟩
instance (w : World) : Inhabited (Ext w) := ⟨Ext.refl w⟩
theorem ext_mk {w w' : World} (h : Below w.heap.size w w') : ∃ X : Ext w, w' = X.W := ⟨⟨w', h⟩, rfl⟩
theorem ext_of {w w' : World} (h : Below w.heap.size w w') : ∃ X : Ext w, w' = X.W := ⟨⟨w', h⟩, rfl⟩
theorem ext_and {w w' : World} {p : Prop} (h : Below w.heap.size w w') (hp : p) : ∃ X : Ext w, w' = X.W ∧ p := ⟨⟨w', h⟩, rfl, hp⟩
/-- A call of the function value g enters g. -/
def Ents (P : Program) (g : FuncId) : Prop := ∀ (args : Array Value) (w : World), (callFunc g args).run P w = .ok (.enter g args) w
theorem ents_of {P : Program} {f : FuncId} {fn : Func} {c : Code} (hf : P.funcs[f]? = some fn) (hname : (fn.name == "runtime.NumGoroutine") = false) (hb : fn.body = some c) : Ents P f := by
  intro args w
  have h1 : fn.name ≠ "runtime.NumGoroutine" := by simpa using hname
  simp [callFunc, hf, h1, hb, mark]
theorem wp_named {P : Program} {c : Code} {Q : Exit → Act → World → Prop} {a : Act} {w : World} (h : ∀ W0, W0 = w → c.wp P Q a W0) : c.wp P Q a w := h w rfl
theorem Below.ext {B : Nat} {a w : World} (h : Below B a w) (hB : B ≤ w.heap.size) (x : Ext w) : Below B a x.W := h.trans (x.h.mono hB)
theorem ret_bool {a b : Bool} (h : a = b) : Ending.returned (.bool a) = .returned (.bool b) := by rw [h]
theorem ret_int {k : IntKind} {a b : Int} (h : a = b) : Ending.returned (.int k a) = .returned (.int k b) := by rw [h]

/-- A region that draws its order, whose operations read old blocks and whose calls only make memory: one walk serves every order. -/
theorem wp_region_ext {P : Program} {id : Nat} {Q : Exit → Act → World → Prop} {a : Act} {w : World} {l : List Oper} (hm : P.follows .mixedOrders = true) (hB : Region.lexB .any l.toArray = true)
    (h : wpQuiet P l.toArray (fun w' => ∃ x : Ext w, w' = x.W) (fun a' => ∀ x : Ext w, Q .normal a' x.W) l a) : (Code.region id l.toArray true).wp P Q a w := by
  refine wp_region_quiet (C := fun w' => ∃ x : Ext w, w' = x.W) hm hB ⟨⟨_, (Below.refl _ _).drew⟩, rfl⟩ ?_
  have e : (fun a' => ∀ w', (∃ x : Ext w, w' = x.W) → Q .normal a' w') = (fun a' => ∀ x : Ext w, Q .normal a' x.W) := by
    funext a'
    apply propext
    exact ⟨fun h x => h _ ⟨x, rfl⟩, fun h w' ⟨x, hx⟩ => hx ▸ h x⟩
  rw [e]
  exact h
/-- A call inside such a region. -/
theorem calls_ext {P : Program} {f : FuncId} {args : Array Value} {w : World} {x : Ext w} {v : Value}
    (h : Calls P f args x.W fun e w' => e = .returned v ∧ ∃ y : Ext x.W, w' = y.W) : Calls P f args x.W fun e w'' => e = .returned v ∧ ∃ y : Ext w, w'' = y.W :=
  h.mono fun _ _ ⟨he, y, hy⟩ => ⟨he, ⟨y.W, Below.ext x.h x.size y⟩, hy⟩
theorem calls_ext_same {P : Program} {f : FuncId} {args : Array Value} {w : World} {x : Ext w} {v : Value}
    (h : Calls P f args x.W fun e w' => e = .returned v ∧ x.W = w') : Calls P f args x.W fun e w'' => e = .returned v ∧ ∃ y : Ext w, w'' = y.W :=
  h.mono fun _ _ ⟨he, hy⟩ => ⟨he, x, hy.symm⟩

/-- Data in memory: how many cells, and when cells read as the datum; every block that is met satisfies S. 'ok': what the type's own bounds say. -/
class Rep (α : Type) where
  sz : Nat
  rep : World → (Nat → Prop) → α → List Value → Prop
  ok : α → Prop
  len : ∀ {w S x cs}, rep w S x cs → cs.length = sz
  keep : ∀ {w w' S x cs}, rep w S x cs → (∀ b o, S b → w'.cell? ⟨b, o, none⟩ = w.cell? ⟨b, o, none⟩) → rep w' S x cs
  mono : ∀ {w S S' x cs}, rep w S x cs → (∀ b, S b → S' b) → rep w S' x cs

/-- The slice of n elements at address A, of capacity c, reads as the list L. -/
def Rd {α : Type} [Rep α] (w : World) (S : Nat → Prop) (A : Option Addr) (n c : Nat) (L : List α) : Prop :=
  L.length = n ∧ n ≤ c ∧ c ≤ maxLen ∧ ∀ k x, L[k]? = some x → ∃ b o cs, A = some ⟨b, o, none⟩ ∧ S b ∧ Rep.rep w S x cs ∧ ∀ j u, cs[j]? = some u → w.cell? ⟨b, o + k * Rep.sz α + j, none⟩ = some u
def lt (B : Nat) : Nat → Prop := fun b => b < B
def bt (C B : Nat) : Nat → Prop := fun b => C ≤ b ∧ b < B

section
variable {α : Type} [Rep α] {w w' : World} {S S' : Nat → Prop} {A : Option Addr} {n c : Nat} {L : List α}
theorem Rd.eq (h : Rd w S A n c L) : L.length = n := h.1
theorem Rd.cap (h : Rd w S A n c L) : n ≤ c := h.2.1
theorem Rd.len (h : Rd w S A n c L) : n ≤ 9223372036854775807 := Nat.le_trans h.2.1 h.2.2.1
theorem Rd.clen (h : Rd w S A n c L) : c ≤ 9223372036854775807 := h.2.2.1
theorem Rd.get (h : Rd w S A n c L) {k : Nat} (hk : k < n) : ∃ x, L[k]? = some x := ⟨L[k]'(by rw [h.1]; exact hk), List.getElem?_eq_getElem _⟩
theorem Rd.nil : Rd w S A 0 0 ([] : List α) := ⟨rfl, Nat.le_refl _, by simp, fun k x hx => by simp at hx⟩
theorem Rd.keep (h : Rd w S A n c L) (hk : ∀ b o, S b → w'.cell? ⟨b, o, none⟩ = w.cell? ⟨b, o, none⟩) : Rd w' S A n c L := ⟨h.1, h.2.1, h.2.2.1, fun k x hx => by
  obtain ⟨b, o, cs, hA, hb, hr, hc⟩ := h.2.2.2 k x hx
  exact ⟨b, o, cs, hA, hb, Rep.keep hr hk, fun j u hu => (hk _ _ hb).trans (hc j u hu)⟩⟩
theorem Rd.mono (h : Rd w S A n c L) (hk : ∀ b, S b → S' b) : Rd w S' A n c L := ⟨h.1, h.2.1, h.2.2.1, fun k x hx => by
  obtain ⟨b, o, cs, hA, hb, hr, hc⟩ := h.2.2.2 k x hx
  exact ⟨b, o, cs, hA, hk _ hb, Rep.mono hr hk, hc⟩⟩
theorem Rd.below {B : Nat} (h : Rd w (lt B) A n c L) (hb : Below B w w') : Rd w' (lt B) A n c L := h.keep fun _ _ hp => hb.cell (p := ⟨_, _, none⟩) hp
theorem Rd.up {B B' : Nat} (h : Rd w (lt B) A n c L) (hB : B ≤ B') : Rd w (lt B') A n c L := h.mono fun _ hp => Nat.lt_of_lt_of_le hp hB
/-- In a later world, when everything it reads is old. -/
theorem Rd.now {B : Nat} (h : Rd w (lt B) A n c L) (hb : Below B w w') (hB : B ≤ w'.heap.size) : Rd w' (lt w'.heap.size) A n c L := (h.below hb).up hB
theorem Rd.ext (h : Rd w (lt w.heap.size) A n c L) (x : Ext w) : Rd x.W (lt x.W.heap.size) A n c L := (h.below x.h).up x.size
/-- A slice that is cut at its end. -/
theorem Rd.take (h : Rd w S A n c L) {m : Nat} (hm : m ≤ n) : Rd w S A m c (L.take m) := ⟨by rw [List.length_take, h.1]; omega, by have := h.2.1; omega, h.2.2.1, fun k x hx => h.2.2.2 k x (by
  rw [List.getElem?_take] at hx
  split at hx
  · exact hx
  · cases hx)⟩
end

/-- Cells set one behind the other. -/
def setRun (l : List Value) (o : Nat) : List Value → List Value
  | [] => l
  | u :: us => setRun (l.set o u) (o + 1) us
theorem setRun_at (A Z : List Value) : ∀ us : List Value, us.length ≤ Z.length → setRun (A ++ Z) A.length us = A ++ us ++ Z.drop us.length := by
  intro us
  induction us generalizing A Z with
  | nil => intro _; simp [setRun]
  | cons u us ih =>
    intro h
    cases Z with
    | nil => simp at h
    | cons z Z =>
      have e : (A ++ z :: Z).set A.length u = (A ++ [u]) ++ Z := by simp
      have h2 := ih (A ++ [u]) Z (by simpa using h)
      rw [setRun, e, show A.length + 1 = (A ++ [u]).length from by simp, h2]
      simp

theorem setRun_length : ∀ (us l : List Value) (o : Nat), (setRun l o us).length = l.length
  | [], _, _ => rfl
  | u :: us, l, o => by rw [setRun, setRun_length us, List.length_set]
/-- The cells of a list, one datum behind the other. -/
def Enc {α : Type} [Rep α] (w : World) (S : Nat → Prop) : List α → List Value → Prop
  | [], xs => xs = []
  | x :: L, xs => ∃ cs ys, xs = cs ++ ys ∧ Rep.rep w S x cs ∧ Enc w S L ys
section
variable {α : Type} [Rep α] {w w' : World} {S S' : Nat → Prop}
theorem Enc.length : ∀ {L : List α} {xs : List Value}, Enc w S L xs → xs.length = L.length * Rep.sz α
  | [], _, h => by rw [h]; simp
  | x :: L, _, ⟨cs, ys, h, h1, h2⟩ => by rw [h, List.length_append, Rep.len h1, h2.length, List.length_cons, Nat.add_mul]; omega
theorem Enc.keep (hk : ∀ b o, S b → w'.cell? ⟨b, o, none⟩ = w.cell? ⟨b, o, none⟩) : ∀ {L : List α} {xs : List Value}, Enc w S L xs → Enc w' S L xs
  | [], _, h => h
  | x :: L, _, ⟨cs, ys, h, h1, h2⟩ => ⟨cs, ys, h, Rep.keep h1 hk, Enc.keep hk h2⟩
theorem Enc.mono (hk : ∀ b, S b → S' b) : ∀ {L : List α} {xs : List Value}, Enc w S L xs → Enc w S' L xs
  | [], _, h => h
  | x :: L, _, ⟨cs, ys, h, h1, h2⟩ => ⟨cs, ys, h, Rep.mono h1 hk, Enc.mono hk h2⟩
theorem Enc.append : ∀ {L M : List α} {xs ys : List Value}, Enc w S L xs → Enc w S M ys → Enc w S (L ++ M) (xs ++ ys)
  | [], _, _, _, h, h' => by rw [h]; exact h'
  | x :: L, _, _, _, ⟨cs, zs, h, h1, h2⟩, h' => ⟨cs, zs ++ _, by rw [h, List.append_assoc], h1, h2.append h'⟩
theorem Enc.one {x : α} {cs : List Value} (h : Rep.rep w S x cs) : Enc w S [x] cs := ⟨cs, [], by simp, h, rfl⟩
theorem Enc.snoc {L : List α} {xs cs : List Value} {x : α} (h : Enc w S L xs) (h1 : Rep.rep w S x cs) : Enc w S (L ++ [x]) (xs ++ cs) := h.append (.one h1)
/-- One datum more behind the first k, its cells written into the row. -/
theorem Enc.put {L : List α} {l cs : List Value} {k : Nat} {x : α} (h : Enc w S (L.take k) (l.take (k * Rep.sz α))) (hx : L[k]? = some x) (h1 : Rep.rep w S x cs) (hl : (k + 1) * Rep.sz α ≤ l.length) :
    Enc w S (L.take (k + 1)) ((setRun l (k * Rep.sz α) cs).take ((k + 1) * Rep.sz α)) := by
  have e : l = l.take (k * Rep.sz α) ++ l.drop (k * Rep.sz α) := (List.take_append_drop _ _).symm
  have hlen : (l.take (k * Rep.sz α)).length = k * Rep.sz α := by rw [List.length_take]; rw [Nat.add_mul] at hl; omega
  have hcs := Rep.len h1
  rw [Nat.add_mul, Nat.one_mul] at hl ⊢
  have h2 := setRun_at (l.take (k * Rep.sz α)) (l.drop (k * Rep.sz α)) cs (by rw [List.length_drop, hcs]; omega)
  rw [hlen, ← e] at h2
  have h3 : (List.take (k * Rep.sz α) l ++ cs ++ List.drop cs.length (List.drop (k * Rep.sz α) l)).take (k * Rep.sz α + Rep.sz α) = List.take (k * Rep.sz α) l ++ cs := by
    rw [List.take_append_of_le_length (by rw [List.length_append, hlen, hcs]; omega), List.take_of_length_le (by rw [List.length_append, hlen, hcs]; omega)]
  rw [h2, h3]
  obtain ⟨hk, rfl⟩ := List.getElem?_eq_some_iff.1 hx
  rw [List.take_succ_eq_append_getElem hk]
  exact h.snoc h1
theorem Enc.at_ : ∀ {L : List α} {xs : List Value} {k : Nat} {x : α}, Enc w S L xs → L[k]? = some x → ∃ cs, Rep.rep w S x cs ∧ ∀ j u, cs[j]? = some u → xs[k * Rep.sz α + j]? = some u
  | y :: L, _, 0, x, ⟨cs, ys, h, h1, h2⟩, hx => by
    simp only [List.getElem?_cons_zero, Option.some.injEq] at hx
    subst hx
    refine ⟨cs, h1, fun j u hu => ?_⟩
    rw [h, Nat.zero_mul, Nat.zero_add, List.getElem?_append_left (List.getElem?_eq_some_iff.1 hu).1]
    exact hu
  | y :: L, _, k + 1, x, ⟨cs, ys, h, h1, h2⟩, hx => by
    simp only [List.getElem?_cons_succ] at hx
    obtain ⟨ds, hd, hc⟩ := h2.at_ hx
    refine ⟨ds, hd, fun j u hu => ?_⟩
    rw [h, Nat.add_mul, Nat.one_mul, List.getElem?_append_right (by rw [Rep.len h1]; omega), Rep.len h1, show k * Rep.sz α + Rep.sz α + j - Rep.sz α = k * Rep.sz α + j from by omega]
    exact hc j u hu
/-- Cells that lie in memory, read as the list. -/
theorem Enc.rd {L : List α} {xs : List Value} {b o n c : Nat} (h : Enc w S L xs) (hn : L.length = n) (hnc : n ≤ c) (hm : c ≤ maxLen) (hb : S b) (hc : ∀ j u, xs[j]? = some u → w.cell? ⟨b, o + j, none⟩ = some u) : Rd w S (some ⟨b, o, none⟩) n c L :=
  ⟨hn, hnc, hm, fun k x hx => by
    obtain ⟨cs, h1, h2⟩ := h.at_ hx
    exact ⟨b, o, cs, rfl, hb, h1, fun j u hu => by rw [Nat.add_assoc]; exact hc _ _ (h2 j u hu)⟩⟩
end

/-- Data without a slice inside: where it lies makes no difference. -/
class Flat (α : Type) [Rep α] : Prop where
  any : ∀ {w w' : World} {S S' : Nat → Prop} {x : α} {cs : List Value}, Rep.rep w S x cs → Rep.rep w' S' x cs
theorem Enc.flat {α : Type} [Rep α] [Flat α] {w w' : World} {S S' : Nat → Prop} : ∀ {L : List α} {xs : List Value}, Enc w S L xs → Enc w' S' L xs
  | [], _, h => h
  | _ :: _, _, ⟨cs, ys, h, h1, h2⟩ => ⟨cs, ys, h, Flat.any h1, Enc.flat h2⟩
/-- A block that is known whole, none of it frozen. -/
def Blk (w : World) (g t : Nat) (l : List Value) : Prop := w.heap[g]? = some (.cells l.toArray t (0, 0))
section
variable {w w' : World} {g t : Nat} {l : List Value}
theorem Blk.lt (h : Blk w g t l) : g < w.heap.size := by
  rcases Nat.lt_or_ge g w.heap.size with hlt | hge
  · exact hlt
  · unfold Blk at h; rw [Array.getElem?_eq_none hge] at h; cases h
theorem Blk.cell (h : Blk w g t l) (i : Nat) : w.cell? ⟨g, i, none⟩ = l[i]? := by
  have := cell_of_row w g i l.toArray t (0, 0) h
  simpa using this
theorem Blk.frozen (h : Blk w g t l) (i : Nat) : w.frozen? ⟨g, i, none⟩ = false := by
  unfold Blk at h
  simp [World.frozen?, h]
theorem Blk.new (w : World) (t : Nat) (l : List Value) : Blk (w.alloc (.cells l.toArray t)) w.heap.size t l := heap_alloc_new w _
theorem Blk.drew (h : Blk w g t l) : Blk w.drew g t l := h
theorem Blk.alloc (h : Blk w g t l) (o : Obj) : Blk (w.alloc o) g t l := (Below.heap_alloc w o g h.lt).trans h
theorem Blk.set_ (h : Blk w g t l) (i : Nat) (u : Value) : Blk (w.setCell ⟨g, i, none⟩ u) g t (l.set i u) := by
  unfold Blk at h ⊢
  simp [World.setCell, Array.getElem?_modify, h]
theorem Blk.far (h : Blk w g t l) {p : Addr} (hp : g ≠ p.block) (u : Value) : Blk (w.setCell p u) g t l := (Below.heap_setCell w p u g hp).trans h
theorem Blk.below {B : Nat} (h : Blk w g t l) (hb : Below B w w') (hg : g < B) : Blk w' g t l := (hb.block g hg).trans h
theorem Blk.ext (h : Blk w g t l) (x : Ext w) : Blk x.W g t l := h.below x.h h.lt
theorem Blk.rd {α : Type} [Rep α] {S : Nat → Prop} {L : List α} {n c : Nat} (h : Blk w g t l) (he : Enc w S L l) (hn : L.length = n) (hnc : n ≤ c) (hm : c ≤ maxLen) (hb : S g) : Rd w S (some ⟨g, 0, none⟩) n c L :=
  he.rd hn hnc hm hb (fun j u hu => by rw [h.cell]; rw [Nat.zero_add]; exact hu)
theorem Blk.own (h : Blk w g t l) {base size n : Nat} (hb : base ≤ g) (hn : n ≤ maxLen) (hl : l.length = n * size) : w.ownsRow base t size (.slice (some ⟨g, 0, none⟩) n n) n l :=
  ⟨hl, .inr ⟨g, n, l.toArray, rfl, hb, h, Nat.le_refl _, hn, by simpa using hl, by simp [← hl]⟩⟩
/-- make: elements of several cells. -/
theorem make_any {P : Program} (t e : TypeId) {z : Value} {size bytes : Nat} (ht : P.underlying t = some (.slice e)) (hinfo : (P.info? e).map (fun i => (i.zero, i.size, i.bytes)) = some (some z, size, bytes))
    (kl kc : IntKind) (n c : Nat) (hnc : n ≤ c) (hbytes : bytes * c ≤ 281474976710656) (h63 : c ≤ 9223372036854775807) (w : World) :
    (Instr.makeSlice t (.int kl (n : Int)) (.int kc (c : Int))).run P w = .ok (.slice (some ⟨w.heap.size, 0, none⟩) n c) (w.alloc (.cells (madeCells z.cells (c * size)) e)) := by
  obtain ⟨i, hi, hz, hs, hb'⟩ := info_parts hinfo
  have hb : (i.bytes : Int) * (c : Int) ≤ 281474976710656 := by
    have h : ((i.bytes * c : Nat) : Int) ≤ 281474976710656 := by rw [hb']; omega
    rwa [Int.natCast_mul] at h
  have hr := run_make (P := P) w t e i z ht hi hz kl kc n c (by omega) (by omega) hb (by omega)
  simp only [Int.toNat_natCast] at hr
  rw [← hs]
  exact hr
theorem Blk.made (w : World) (t : Nat) (cs : Array Value) : Blk (w.alloc (.cells cs t)) w.heap.size t cs.toList := by
  have := Blk.new w t cs.toList
  simpa using this
theorem Blk.val (h : Blk w g t l) {i : Nat} (hi : i < l.length) : ∃ v, w.cell? ⟨g, i, none⟩ = some v := ⟨l[i], by rw [h.cell]; exact List.getElem?_eq_getElem hi⟩
end
instance : Rep Int where
  sz := 1
  rep _ _ x cs := cs = [.int .i64 x]
  ok x := -9223372036854775808 ≤ x ∧ x ≤ 9223372036854775807
  len h := by rw [h]; rfl
  keep h _ := h
  mono h _ := h
instance : Flat Int := ⟨fun h => h⟩
instance : Rep Bool where
  sz := 1
  rep _ _ x cs := cs = [.bool x]
  ok _ := True
  len h := by rw [h]; rfl
  keep h _ := h
  mono h _ := h
instance : Flat Bool := ⟨fun h => h⟩
instance : Rep ByteArray where
  sz := 1
  rep _ _ x cs := cs = [.string x]
  ok x := x.size ≤ maxLen
  len h := by rw [h]; rfl
  keep h _ := h
  mono h _ := h
instance : Flat ByteArray := ⟨fun h => h⟩
instance : Rep UInt8 where
  sz := 1
  rep _ _ x cs := cs = [.int .u8 x.toNat]
  ok _ := True
  len h := by rw [h]; rfl
  keep h _ := h
  mono h _ := h
instance : Flat UInt8 := ⟨fun h => h⟩
instance {α : Type} [Rep α] : Rep (List α) where
  sz := 1
  rep w S x cs := ∃ A n c, cs = [.slice A n c] ∧ Rd w S A n c x
  ok x := x.length ≤ maxLen ∧ ∀ y ∈ x, Rep.ok y
  len h := by obtain ⟨A, n, c, h, _⟩ := h; rw [h]; rfl
  keep h hk := by obtain ⟨A, n, c, h, hr⟩ := h; exact ⟨A, n, c, h, hr.keep hk⟩
  mono h hk := by obtain ⟨A, n, c, h, hr⟩ := h; exact ⟨A, n, c, h, hr.mono hk⟩

section
variable {w : World} {S : Nat → Prop} {A : Option Addr} {k n c : Nat}
theorem Rd.at_int {L : List Int} {x : Int} (h : Rd w S A n c L) (hx : L[k]? = some x) : ∃ b o, A = some ⟨b, o, none⟩ ∧ S b ∧ w.cell? ⟨b, o + k, none⟩ = some (.int .i64 x) := by
  obtain ⟨b, o, cs, hA, hb, rfl, hc⟩ := h.2.2.2 k x hx
  exact ⟨b, o, hA, hb, by simpa [Rep.sz] using hc 0 _ rfl⟩
theorem Rd.at_str {L : List ByteArray} {x : ByteArray} (h : Rd w S A n c L) (hx : L[k]? = some x) : ∃ b o, A = some ⟨b, o, none⟩ ∧ S b ∧ w.cell? ⟨b, o + k, none⟩ = some (.string x) := by
  obtain ⟨b, o, cs, hA, hb, rfl, hc⟩ := h.2.2.2 k x hx
  exact ⟨b, o, hA, hb, by simpa [Rep.sz] using hc 0 _ rfl⟩
theorem Rd.at_u8 {L : List UInt8} {x : UInt8} (h : Rd w S A n c L) (hx : L[k]? = some x) : ∃ b o, A = some ⟨b, o, none⟩ ∧ S b ∧ w.cell? ⟨b, o + k, none⟩ = some (.int .u8 x.toNat) := by
  obtain ⟨b, o, cs, hA, hb, rfl, hc⟩ := h.2.2.2 k x hx
  exact ⟨b, o, hA, hb, by simpa [Rep.sz] using hc 0 _ rfl⟩
theorem Rd.at_list {α : Type} [Rep α] {L : List (List α)} {x : List α} (h : Rd w S A n c L) (hx : L[k]? = some x) :
    ∃ b o A' n' c', A = some ⟨b, o, none⟩ ∧ S b ∧ w.cell? ⟨b, o + k, none⟩ = some (.slice A' n' c') ∧ Rd w S A' n' c' x := by
  obtain ⟨b, o, cs, hA, hb, ⟨A', n', c', rfl, hr⟩, hc⟩ := h.2.2.2 k x hx
  exact ⟨b, o, A', n', c', hA, hb, by simpa [Rep.sz] using hc 0 _ rfl, hr⟩
theorem drop_of {α : Type} {L : List α} {k : Nat} {x : α} (hx : L[k]? = some x) : L.drop k = x :: L.drop (k + 1) := by
  obtain ⟨h, rfl⟩ := List.getElem?_eq_some_iff.1 hx
  exact List.drop_eq_getElem_cons h
theorem take_of {α : Type} {L : List α} {k : Nat} {x : α} (hx : L[k]? = some x) : L.take (k + 1) = L.take k ++ [x] := by
  obtain ⟨h, rfl⟩ := List.getElem?_eq_some_iff.1 hx
  rw [List.take_succ_eq_append_getElem h]
theorem get_of {α : Type} {L : List α} {k : Nat} (h : k < L.length) : ∃ x, L[k]? = some x := ⟨L[k], List.getElem?_eq_getElem h⟩
theorem lt_of_get {α : Type} {L : List α} {k : Nat} {x : α} (hx : L[k]? = some x) : k < L.length := (List.getElem?_eq_some_iff.1 hx).1
theorem any_hit {α : Type} {L : List α} {k j : Nat} {x : α} {p : α → Bool} (hj : j < k) (hx : L[j]? = some x) (h : p x = true) : (L.take k).any p = true := by
  rw [List.any_eq_true]
  exact ⟨x, List.mem_iff_getElem?.2 ⟨j, by rw [List.getElem?_take_of_lt hj]; exact hx⟩, h⟩
theorem any_step {α : Type} {L : List α} {j : Nat} {x : α} {p : α → Bool} (hx : L[j]? = some x) (h1 : (L.take j).any p = false) (h : p x = false) : (L.take (j + 1)).any p = false := by
  rw [take_of hx, List.any_append, h1]
  simp [h]
end
end Go.Proofs.Ytnnpmbcamnnfgaa
