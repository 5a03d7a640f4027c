/- Answers of which something holds: rules for the draws. -/
import Derived.Test.YtpohkmbkohjahaaGreatDoorMD1
namespace Go.Proofs.YtpohkmbkohjahaaGreatDoor.Sh
open Go.RowKit
/-- An answer of which something holds. -/
def Gv {α : Type} (o : Option α) (P : α → Prop) : Prop := ∃ y, o = some y ∧ P y
theorem Gv.bind {α β : Type} {o : Option α} {P : α → Prop} {f : α → Option β} {Q : β → Prop} (h : Gv o P) (k : ∀ y, P y → Gv (f y) Q) : Gv (o.bind f) Q := by
  obtain ⟨y, rfl, hy⟩ := h
  exact k y hy
theorem Gv.some {α : Type} {y : α} {P : α → Prop} (h : P y) : Gv (some y) P := ⟨y, rfl, h⟩
theorem Gv.cond {α : Type} {b : Bool} {x y : Option α} {P : α → Prop} (h : b = true → Gv x P) (k : b = false → Gv y P) : Gv (bif b then x else y) P := by
  cases b
  · exact k rfl
  · exact h rfl
theorem Gv.imp {α : Type} {o : Option α} {P Q : α → Prop} (h : Gv o P) (k : ∀ y, P y → Q y) : Gv o Q := by
  obtain ⟨y, e, hy⟩ := h
  exact ⟨y, e, k y hy⟩
theorem Gv.lp {α A : Type} {body : α → Option (α ⊕ A)} (I : α → Prop) (μ : α → Nat) {Q : A → Prop} (h : ∀ s, I s → Gv (body s) (fun r => match r with
    | .inl s' => I s' ∧ μ s' < μ s
    | .inr r => Q r)) {s : α} (hs : I s) : Gv (loop body s) Q := by
  obtain ⟨r, e, hr⟩ := loop_inv I μ Q (fun s hs => by
    obtain ⟨y, e, hy⟩ := h s hs
    cases y with
    | inl s' => exact .inl ⟨s', e, hy⟩
    | inr r => exact .inr ⟨r, e, hy⟩) hs
  exact ⟨r, e, hr⟩
theorem Gv.fors {S A : Type} {n : Nat} (hn : n ≤ 1000000000) {B : Int → S → Option S} {D : S → A} (I : Nat → S → Prop) (hB : ∀ (i : Nat) s, i < n → I i s → Gv (B (i : Int) s) (I (i + 1))) {s : S} (hs : I 0 s) {Q : A → Prop} (hQ : ∀ s, I n s → Q (D s)) : Gv (forS (n : Int) B D 0 s) Q := by
  have key : ∀ (m i : Nat) s, i + m = n → I i s → Gv (forS (n : Int) B D (i : Int) s) Q := by
    intro m
    induction m with
    | zero =>
      intro i s him hi
      obtain rfl : i = n := by omega
      unfold forS
      rw [loop_eq]
      simp only [decide_eq_false (show ¬ (i : Int) < i by omega), cond_false]
      exact ⟨_, rfl, hQ s hi⟩
    | succ m ih =>
      intro i s him hi
      obtain ⟨s', e, hs'⟩ := hB i s (by omega) hi
      have := ih (i + 1) s' (by omega) hs'
      unfold forS at this ⊢
      rw [loop_eq]
      simp only [decide_eq_true (show (i : Int) < n by omega), cond_true, e, Option.bind_some]
      rw [w64_id (by omega) (by omega)]
      simpa using this
  exact key n 0 s (by omega) hs
theorem Gv.next {s : l01Source} (hs : SrcOk s) (n : Int) (hn : n < 9223372036854775808) : Gv (spec_l01Next s n) (fun r => (0 ≤ r.1 ∧ (r.1 < n ∨ r.1 = 0)) ∧ SrcOk r.2) := by
  obtain ⟨x, s', h1, h2, h3, h4⟩ := next_ok hs n hn
  exact ⟨_, h1, ⟨h2, h3⟩, h4⟩
theorem Gv.pick {s : l01Source} (hs : SrcOk s) {l : List Int} (hl : l ≠ []) (hl2 : l.length ≤ 4096) : Gv (spec_l01Pick s l) (fun r => r.1 ∈ l ∧ SrcOk r.2) := by
  obtain ⟨x, s', h1, h2, h3⟩ := pick_ok hs hl hl2
  exact ⟨_, h1, h2, h3⟩
theorem Gv.at {α : Type} {L : List α} {P : α → Prop} {i : Int} (h0 : 0 ≤ i ∧ (i < L.length ∨ i = 0)) (hL : 0 < L.length) (hP : ∀ x ∈ L, P x) : Gv (at' L i) P := by
  obtain ⟨y, e, hy⟩ := one_of L h0.1 h0.2 hL
  exact ⟨y, e, hP y hy⟩
theorem Gv.cat {u v : ByteArray} (h : u.size + v.size ≤ 1000000) : Gv (cat' u v) (fun w => w.size = u.size + v.size) := by
  refine ⟨u ++ v, ?_, ByteArray.size_append⟩
  unfold cat'
  rw [if_pos (by omega)]
theorem Gv.app {α : Type} {L M : List α} (h : L.length + M.length ≤ 1000000) : Gv (app' L M) (fun r => r = L ++ M) := ⟨_, app_ok (by omega), rfl⟩
theorem Gv.sub {u : ByteArray} {l h : Int} (h0 : 0 ≤ l) (h1 : l ≤ h) (h2 : h ≤ u.size) : Gv (sub' u l h) (fun w => w.size ≤ u.size) := by
  refine ⟨_, by unfold sub'; rw [if_pos ⟨h0, h1, h2⟩], ?_⟩
  show (u.extract l.toNat h.toNat).size ≤ u.size
  rw [ByteArray.size_extract]
  omega
theorem Gv.from {c : List Int} (hc : CodeOk c) : Gv (spec_l01From c) SrcOk := by
  obtain ⟨s, h1, h2⟩ := from_ok hc
  exact ⟨_, h1, h2⟩
end Go.Proofs.YtpohkmbkohjahaaGreatDoor.Sh
