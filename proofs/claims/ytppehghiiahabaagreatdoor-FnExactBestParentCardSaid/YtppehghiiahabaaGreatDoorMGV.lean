/- Answers of which something holds: rules for the draws. -/
import Derived.Test.YtppehghiiahabaaGreatDoorMD1
namespace Go.Proofs.YtppehghiiahabaaGreatDoor.Sh
open Go.RowKit
/-- An answer of which something holds. -/
def Gv {α : Type} (o : Option α) (P : α → Prop) : Prop := ∃ y, o = some y ∧ P y
theorem Gv.bind {α β : Type} {o : Option α} {P : α → Prop} {f : α → Option β} {Q : β → Prop} (h : Gv o P) (k : ∀ y, P y → Gv (f y) Q) : Gv (o.bind f) Q := by
  obtain ⟨y, rfl, hy⟩ := h
  exact k y hy
theorem Gv.some {α : Type} {y : α} {P : α → Prop} (h : P y) : Gv (some y) P := ⟨y, rfl, h⟩
theorem Gv.cond {α : Type} {b : Bool} {x y : Option α} {P : α → Prop} (h : b = true → Gv x P) (k : b = false → Gv y P) : Gv (bif b then x else y) P := by
  cases b
  · exact k rfl
  · exact h rfl
theorem Gv.imp {α : Type} {o : Option α} {P Q : α → Prop} (h : Gv o P) (k : ∀ y, P y → Q y) : Gv o Q := by
  obtain ⟨y, e, hy⟩ := h
  exact ⟨y, e, k y hy⟩
theorem Gv.pick {s : l01Source} (hs : SrcOk s) {l : List Int} (hl : l ≠ []) (hl2 : l.length ≤ 4096) : Gv (spec_l01Pick s l) (fun r => r.1 ∈ l ∧ SrcOk r.2) := by
  obtain ⟨x, s', h1, h2, h3⟩ := pick_ok hs hl hl2
  exact ⟨_, h1, h2, h3⟩
theorem Gv.at {α : Type} {L : List α} {P : α → Prop} {i : Int} (h0 : 0 ≤ i ∧ (i < L.length ∨ i = 0)) (hL : 0 < L.length) (hP : ∀ x ∈ L, P x) : Gv (at' L i) P := by
  obtain ⟨y, e, hy⟩ := one_of L h0.1 h0.2 hL
  exact ⟨y, e, hP y hy⟩
theorem Gv.app {α : Type} {L M : List α} (h : L.length + M.length ≤ 1000000) : Gv (app' L M) (fun r => r = L ++ M) := ⟨_, app_ok (by omega), rfl⟩
theorem Gv.sub {u : ByteArray} {l h : Int} (h0 : 0 ≤ l) (h1 : l ≤ h) (h2 : h ≤ u.size) : Gv (sub' u l h) (fun w => w.size ≤ u.size) := by
  refine ⟨_, by unfold sub'; rw [if_pos ⟨h0, h1, h2⟩], ?_⟩
  show (u.extract l.toNat h.toNat).size ≤ u.size
  rw [ByteArray.size_extract]
  omega
theorem Gv.from {c : List Int} (hc : CodeOk c) : Gv (spec_l01From c) SrcOk := by
  obtain ⟨s, h1, h2⟩ := from_ok hc
  exact ⟨_, h1, h2⟩
end Go.Proofs.YtppehghiiahabaaGreatDoor.Sh
