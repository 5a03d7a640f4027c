/- Library functions as typed calls: Clone, Trim, Grow; bounds on sizes alone. -/
import Derived.Test.YtppehghiiahabaaGreatDoorSB
import Derived.Shelf.SlicesE.Clone
import Derived.Shelf.Strings.SlTrimAscii
import Derived.Shelf.Spec.SlicesGrow
namespace Go.Proofs.YtppehghiiahabaaGreatDoor.Sh
open Go.RowKit Go.Shelf Go.Lib
variable {P : Program} {ρ : Ren}
end Go.Proofs.YtppehghiiahabaaGreatDoor.Sh
namespace Go.Proofs.YtppehghiiahabaaGreatDoor.Sh
open Go.RowKit Go.Shelf Go.Lib
def Tr.val : Tr → Value
  | .int k n => .int k n
  | .bool b => .bool b
  | .str s => .string s
  | .sl _ _ => undef
  | .nil => .slice none 0 0
  | .nilf => .nilFunc
theorem tv_val {w : World} {S : Nat → Prop} {t : Tr} {v : Value} (h : TV w S t v) (hf : t.flat = true) : v = t.val := by
  cases h with
  | int => rfl
  | bool => rfl
  | str => rfl
  | sl => cases hf
  | nil => rfl
  | nilf => rfl
def Tr.small : Tr → Prop
  | .str s => s.size ≤ maxLen
  | _ => True
theorem val_tv {w : World} {S : Nat → Prop} {t : Tr} (hf : t.flat = true) (hs : t.small) : TV w S t t.val := by
  cases t with
  | int k n => exact .int k n
  | bool b => exact .bool b
  | str s => exact .str s hs
  | sl => cases hf
  | nil => exact .nil
  | nilf => exact .nilf
theorem flat_args {w : World} {S : Nat → Prop} {ts : List Tr} (hf : ∀ t ∈ ts, t.flat = true) {vs : Array Value} (hn : vs.size = ts.length) (hv : ∀ (j : Nat) x v, (ts.map fun t => SIn.v (.tr t))[j]? = some (SIn.v x) → vs[j]? = some v → SVr w S bz x v) : vs = (ts.map Tr.val).toArray := by
  apply Array.ext
  · simp [hn]
  · intro i h1 h2
    have h3 : i < ts.length := by omega
    have h4 := hv i (.tr ts[i]) vs[i] (by simp [List.getElem?_eq_getElem h3]) (Array.getElem?_eq_getElem h1)
    cases h4 with
    | tr _ _ h4 =>
      rw [tv_val h4 (hf _ (List.getElem_mem h3))]
      simp
/-- A call that takes flat values and gives one. -/
theorem scall_flat {P : Program} {k : FuncId} (ts : List Tr) (hf : ∀ t ∈ ts, t.flat = true) (r : Tr) (hr : r.flat = true) (hs : r.small) (h : ∀ w, Calls P k (ts.map Tr.val).toArray w fun e w' => e = .returned r.val ∧ Below w.heap.size w w') : SCall P k (ts.map fun t => SIn.v (.tr t)) ⟨[.v (.tr r)], [], false⟩ := by
  intro w S vs hn hS hv _ _ _
  rw [flat_args hf (by simpa using hn) hv]
  refine (h w).mono fun e w' h => ?_
  obtain ⟨rfl, hb⟩ := h
  exact ⟨_, fun _ => False, rfl, Grew.of_below hb _, fun b hb => hb.elim, fun b hb => hb.elim, ⟨rfl, .tr _ _ (val_tv hr hs)⟩, fun j x u hj => by simp at hj⟩
/-- strings.Trim at a cutset of ASCII letters. -/
def strings_Trim (s c : ByteArray) : Option ByteArray := bif c.data.toList.all (fun b => decide (b.toNat < 128)) && (decide (c.size ≤ 1000) && decide (s.size ≤ maxLen)) then some ⟨(trimS s.data.toList c.data.toList).toArray⟩ else none
theorem trim_size (l c : List UInt8) : (trimS l c).length ≤ l.length := by
  have hd : ∀ (p : UInt8 → Bool) (l : List UInt8), (l.dropWhile p).length ≤ l.length := fun p l => List.Sublist.length_le (List.dropWhile_sublist p)
  unfold trimS trimRightS trimLeftS
  have h1 := hd (fun b => c.contains b) l.reverse
  have h2 := hd (fun b => c.contains b) ((l.reverse.dropWhile (fun b => c.contains b)).reverse)
  simp only [List.length_reverse] at h1 h2 ⊢
  omega
theorem trim_run {P : Program} {ρ : Ren} (L : Lays.n160 P ρ) (h116 : (P.info? (ρ.t 116)).map (fun i => (i.zero, i.size)) = some (some (.agg (Array.replicate 256 (.bool false))), 256)) (k : FuncId) (hk : ρ.f 160 = k) (s c r : ByteArray) (h : strings_Trim s c = some r) : SCall P k [.v (.tr (.str s)), .v (.tr (.str c))] ⟨[.v (.tr (.str r))], [], false⟩ := by
  unfold strings_Trim at h
  cases hb : (c.data.toList.all (fun b => decide (b.toNat < 128)) && (decide (c.size ≤ 1000) && decide (s.size ≤ maxLen)))
  · rw [hb] at h; cases h
  · rw [hb] at h
    injection h with h
    subst h
    simp only [Bool.and_eq_true, decide_eq_true_eq] at hb
    obtain ⟨h1, h2, h3⟩ := hb
    subst hk
    refine scall_flat [.str s, .str c] (by simp [Tr.flat]) _ rfl ?_ fun w => Any.strings_Trim_laid L h116 s c w (by unfold maxLen at h3; omega) (by omega) (ascii_of_all h1)
    show (List.toArray _).size ≤ maxLen
    rw [List.size_toArray]
    have := trim_size s.data.toList c.data.toList
    have h4 : s.data.toList.length = s.size := by rw [Array.length_toList]; rfl
    omega
end Go.Proofs.YtppehghiiahabaaGreatDoor.Sh
namespace Go.Proofs.YtppehghiiahabaaGreatDoor.Sh
open Go.RowKit Go.Shelf Go.Lib
theorem alloc_new (w : World) (o : Obj) : (w.alloc o).heap[w.heap.size]? = some o := by
  show (w.heap.push o)[w.heap.size]? = _
  simp
end Go.Proofs.YtppehghiiahabaaGreatDoor.Sh
