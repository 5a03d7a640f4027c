/- The draws of regions and questions come to an answer; no condition but a short code. -/
import Derived.Test.YtodgenjlhiiieaaGreatDoorBD4
import Derived.Test.YtodgenjlhiiieaaGreatDoorBQS
import Derived.Test.YtodgenjlhiiieaaGreatDoorBLC2
namespace Go.Proofs.YtodgenjlhiiieaaGreatDoor.Sh
open Go.RowKit
/-- An answer of which something holds. -/
def Gv {α : Type} (o : Option α) (P : α → Prop) : Prop := ∃ y, o = some y ∧ P y
theorem Gv.bind {α β : Type} {o : Option α} {P : α → Prop} {f : α → Option β} {Q : β → Prop} (h : Gv o P) (k : ∀ y, P y → Gv (f y) Q) : Gv (o.bind f) Q := by
  obtain ⟨y, rfl, hy⟩ := h
  exact k y hy
theorem Gv.some {α : Type} {y : α} {P : α → Prop} (h : P y) : Gv (some y) P := ⟨y, rfl, h⟩
theorem Gv.cond {α : Type} {b : Bool} {x y : Option α} {P : α → Prop} (h : b = true → Gv x P) (k : b = false → Gv y P) : Gv (bif b then x else y) P := by
  cases b
  · exact k rfl
  · exact h rfl
theorem Gv.imp {α : Type} {o : Option α} {P Q : α → Prop} (h : Gv o P) (k : ∀ y, P y → Q y) : Gv o Q := by
  obtain ⟨y, e, hy⟩ := h
  exact ⟨y, e, k y hy⟩
theorem Gv.lp {α A : Type} {body : α → Option (α ⊕ A)} (I : α → Prop) (μ : α → Nat) {Q : A → Prop} (h : ∀ s, I s → Gv (body s) (fun r => match r with
    | .inl s' => I s' ∧ μ s' < μ s
    | .inr r => Q r)) {s : α} (hs : I s) : Gv (loop body s) Q := by
  obtain ⟨r, e, hr⟩ := loop_inv I μ Q (fun s hs => by
    obtain ⟨y, e, hy⟩ := h s hs
    cases y with
    | inl s' => exact .inl ⟨s', e, hy⟩
    | inr r => exact .inr ⟨r, e, hy⟩) hs
  exact ⟨r, e, hr⟩
theorem Gv.fors {S A : Type} {n : Nat} (hn : n ≤ 1000000000) {B : Int → S → Option S} {D : S → A} (I : Nat → S → Prop) (hB : ∀ (i : Nat) s, i < n → I i s → Gv (B (i : Int) s) (I (i + 1))) {s : S} (hs : I 0 s) {Q : A → Prop} (hQ : ∀ s, I n s → Q (D s)) : Gv (forS (n : Int) B D 0 s) Q := by
  have key : ∀ (m i : Nat) s, i + m = n → I i s → Gv (forS (n : Int) B D (i : Int) s) Q := by
    intro m
    induction m with
    | zero =>
      intro i s him hi
      obtain rfl : i = n := by omega
      unfold forS
      rw [loop_eq]
      simp only [decide_eq_false (show ¬ (i : Int) < i by omega), cond_false]
      exact ⟨_, rfl, hQ s hi⟩
    | succ m ih =>
      intro i s him hi
      obtain ⟨s', e, hs'⟩ := hB i s (by omega) hi
      have := ih (i + 1) s' (by omega) hs'
      unfold forS at this ⊢
      rw [loop_eq]
      simp only [decide_eq_true (show (i : Int) < n by omega), cond_true, e, Option.bind_some]
      rw [w64_id (by omega) (by omega)]
      simpa using this
  exact key n 0 s (by omega) hs
theorem Gv.next {s : l01Source} (hs : SrcOk s) (n : Int) (hn : n < 9223372036854775808) : Gv (spec_l01Next s n) (fun r => (0 ≤ r.1 ∧ (r.1 < n ∨ r.1 = 0)) ∧ SrcOk r.2) := by
  obtain ⟨x, s', h1, h2, h3, h4⟩ := next_ok hs n hn
  exact ⟨_, h1, ⟨h2, h3⟩, h4⟩
theorem Gv.pick {s : l01Source} (hs : SrcOk s) {l : List Int} (hl : l ≠ []) (hl2 : l.length ≤ 4096) : Gv (spec_l01Pick s l) (fun r => r.1 ∈ l ∧ SrcOk r.2) := by
  obtain ⟨x, s', h1, h2, h3⟩ := pick_ok hs hl hl2
  exact ⟨_, h1, h2, h3⟩
theorem Gv.at {α : Type} {L : List α} {P : α → Prop} {i : Int} (h0 : 0 ≤ i ∧ (i < L.length ∨ i = 0)) (hL : 0 < L.length) (hP : ∀ x ∈ L, P x) : Gv (at' L i) P := by
  obtain ⟨y, e, hy⟩ := one_of L h0.1 h0.2 hL
  exact ⟨y, e, hP y hy⟩
theorem Gv.cat {u v : ByteArray} (h : u.size + v.size ≤ 1000000) : Gv (cat' u v) (fun w => w.size = u.size + v.size) := by
  refine ⟨u ++ v, ?_, ByteArray.size_append⟩
  unfold cat'
  rw [if_pos (by omega)]
theorem Gv.app {α : Type} {L M : List α} (h : L.length + M.length ≤ 1000000) : Gv (app' L M) (fun r => r = L ++ M) := ⟨_, app_ok (by omega), rfl⟩
theorem Gv.sub {u : ByteArray} {l h : Int} (h0 : 0 ≤ l) (h1 : l ≤ h) (h2 : h ≤ u.size) : Gv (sub' u l h) (fun w => w.size ≤ u.size) := by
  refine ⟨_, by unfold sub'; rw [if_pos ⟨h0, h1, h2⟩], ?_⟩
  show (u.extract l.toNat h.toNat).size ≤ u.size
  rw [ByteArray.size_extract]
  omega
theorem Gv.phrase {s : l01Source} (hs : SrcOk s) : Gv (spec_l01DrawPhrase s) (fun r => r.1.size ≤ 2000 ∧ SrcOk r.2) := by
  obtain ⟨t, s', h1, h2, h3⟩ := drawPhrase_ok hs
  exact ⟨_, h1, h2, h3⟩
theorem Gv.goodPhrase {s : l01Source} (hs : SrcOk s) : Gv (spec_l01GoodPhrase s) (fun r => r.1.size ≤ 1000 ∧ SrcOk r.2) := by
  obtain ⟨t, s', h1, h2, h3⟩ := goodPhrase_ok hs
  exact ⟨_, h1, h2, h3⟩
theorem Gv.from {c : List Int} (hc : CodeOk c) : Gv (spec_l01From c) SrcOk := by
  obtain ⟨s, h1, h2⟩ := from_ok hc
  exact ⟨_, h1, h2⟩
theorem l15Good_G {s : l01Source} (hs : SrcOk s) : Gv (spec_l15Good s) (fun r => SrcOk r.2) := by
  unfold spec_l15Good
  refine (Gv.next hs 3 (by omega)).bind fun y hy => Gv.cond (fun _ => ?_) fun _ => ?_
  · exact (Gv.next hy.2 _ (by omega)).bind fun a ha => (Gv.next ha.2 _ (by omega)).bind fun b hb => .some hb.2
  · exact (Gv.next hy.2 _ (by omega)).bind fun a ha => (Gv.next ha.2 _ (by omega)).bind fun b hb => .some hb.2
theorem l15Draw_G {s : l01Source} (hs : SrcOk s) : Gv (spec_l15Draw s) (fun r => SrcOk r.2) := by
  unfold spec_l15Draw
  refine (l15Good_G hs).bind fun y hy => (Gv.next hy _ (by omega)).bind fun a ha => Gv.bind (P := fun r : Point × l01Source => SrcOk r.2) (Gv.cond (fun _ => ?_) fun _ => .some ha.2) fun j hj => .some hj
  exact (Gv.pick ha.2 (by simp) (by simp)).bind fun b hb => .some hb.2
/-- A list of sites that is not long, with short codes. -/
def ShortS (n : Nat) (L : List Site) : Prop := L.length ≤ n ∧ ∀ x ∈ L, x.Code.size ≤ 100
theorem ShortS.snoc {n : Nat} {L : List Site} {x : Site} (h : ShortS n L) (hx : x.Code.size ≤ 100) : ShortS (n + 1) (L ++ [x]) := by
  refine ⟨by simp; exact h.1, fun y hy => ?_⟩
  rcases List.mem_append.1 hy with hy | hy
  · exact h.2 y hy
  · rw [List.mem_singleton.1 hy]; exact hx
theorem ShortS.mono {n m : Nat} {L : List Site} (h : ShortS n L) (k : n ≤ m) : ShortS m L := ⟨Nat.le_trans h.1 k, h.2⟩
theorem l29Sites_G {s : l01Source} (hs : SrcOk s) : Gv (spec_l29Sites s) (fun r => ShortS 30 r.1 ∧ SrcOk r.2) := by
  unfold spec_l29Sites
  refine Gv.bind (P := fun r : (List Site) × l01Source => ShortS 5 r.1 ∧ SrcOk r.2) ?_ fun j hj => ?_
  · refine Gv.fors (n := 5) (by omega) (fun i (s : (List Site) × l01Source) => ShortS i s.1 ∧ SrcOk s.2) (fun i s hi h => ?_) ⟨⟨Nat.le_refl _, by simp⟩, hs⟩ fun s h => h
    refine (Gv.next h.2 _ (by omega)).bind fun y hy => Gv.cond (fun _ => ?_) fun _ => .some ⟨h.1.mono (by omega), hy.2⟩
    refine Gv.bind (Gv.at (P := fun x : ByteArray => x.size ≤ 100) ⟨by omega, .inl (by simp; omega)⟩ (by simp) (by decide)) fun c hc => ?_
    refine (Gv.next hy.2 _ (by omega)).bind fun a ha => (Gv.next ha.2 _ (by omega)).bind fun b hb => (Gv.app (by have := h.1.1; simp; omega)).bind fun r hr => ?_
    subst hr
    exact .some ⟨h.1.snoc hc, hb.2⟩
  · refine (Gv.next hj.2 _ (by omega)).bind fun y hy => Gv.bind (P := fun r : (List Site) × l01Source => ShortS 30 r.1 ∧ SrcOk r.2) (Gv.cond (fun _ => ?_) fun _ => Gv.cond (fun _ => ?_) fun _ => .some ⟨hj.1.mono (by omega), hy.2⟩) fun r hr => .some hr
    · refine (Gv.next hy.2 3 (by omega)).bind fun a ha => Gv.bind (Gv.at (P := fun x : ByteArray => x.size ≤ 100) ⟨ha.1.1, by simpa using ha.1.2⟩ (by simp) (by decide)) fun c hc => (l15Draw_G ha.2).bind fun p hp => (Gv.app (by have := hj.1.1; simp; omega)).bind fun r hr => ?_
      subst hr
      exact .some ⟨(hj.1.snoc hc).mono (by omega), hp⟩
    · refine Gv.lp (fun s : Int × (List Site) × l01Source => (0 ≤ s.1 ∧ s.1 ≤ 12) ∧ ShortS (5 + s.1.toNat) s.2.1 ∧ SrcOk s.2.2) (fun s => 12 - s.1.toNat) (fun s h => ?_) ⟨⟨Int.le_refl _, by omega⟩, hj.1, hy.2⟩
      obtain ⟨⟨h0, h1⟩, h2, h3⟩ := h
      refine Gv.bind (P := fun r : Bool × l01Source => (r.1 = true → s.1 < 12) ∧ SrcOk r.2) ?_ fun j24 h24 => Gv.cond (fun ht => ?_) fun _ => .some ⟨h2.mono (by omega), h24.2⟩
      · refine (Gv.next h3 _ (by omega)).bind fun a ha => Gv.cond (fun _ => .some ⟨fun h => by simpa using h, ha.2⟩) fun _ => .some ⟨fun h => (by cases h), ha.2⟩
      · have hlt := h24.1 ht
        rw [w64_id (n := s.1 + 1) (by omega) (by omega)]
        refine Gv.bind (P := fun r : List Site => ShortS (5 + (s.1 + 1).toNat) r) ?_ fun r hr => .some ⟨⟨⟨by show 0 ≤ s.1 + 1; omega, by show s.1 + 1 ≤ 12; omega⟩, hr, h24.2⟩, by show 12 - (s.1 + 1).toNat < 12 - s.1.toNat; omega⟩
        have z : (ByteArray.mk #[97, 98, 99, 100, 101, 102, 103, 104, 105, 106, 107, 108]).size = 12 := rfl
        have z1 : (ByteArray.mk #[122]).size = 1 := rfl
        refine (Gv.sub h0 (by omega) (by omega)).bind fun u hu => (Gv.cat (by omega)).bind fun v hv => (Gv.app (by have := h2.1; simp; omega)).bind fun r hr => ?_
        subst hr
        refine .some ((h2.snoc (x := Site.mk v (Point.mk 0 0)) (by show v.size ≤ 100; omega)).mono (by omega))
/-- A description with short texts. -/
def ShortD (d : Description) : Prop := d.Unit.size ≤ 100 ∧ d.A.size ≤ 100 ∧ d.B.size ≤ 100
theorem l28Good_G {s : l01Source} (hs : SrcOk s) : Gv (spec_l28Good s) (fun r => ShortD r.1 ∧ SrcOk r.2) := by
  unfold spec_l28Good
  refine (Gv.next hs 4 (by omega)).bind fun x1 h1 => (Gv.next h1.2 3 (by omega)).bind fun x2 h2 => Gv.bind (Gv.at (P := fun x : ByteArray => x.size ≤ 100) ⟨h2.1.1, by simp; omega⟩ (by simp) (by decide)) fun a ha => ?_
  refine Gv.bind (P := fun r : Description × l01Source => ShortD r.1 ∧ SrcOk r.2) (Gv.cond (fun _ => ?_) fun _ => Gv.cond (fun _ => ?_) fun _ => .some ⟨⟨Nat.zero_le _, ha, Nat.zero_le _⟩, h2.2⟩) fun r hr => .some hr
  · refine (Gv.next h2.2 12 (by omega)).bind fun x6 h6 => (Gv.pick h6.2 (by simp) (by simp)).bind fun x7 h7 => (Gv.next h7.2 3 (by omega)).bind fun x8 h8 => Gv.bind (Gv.at (P := fun x : ByteArray => x.size ≤ 10) ⟨h8.1.1, by simpa using h8.1.2⟩ (by simp) (by decide)) fun u hu => ?_
    have z1 : (ByteArray.mk #[115]).size = 1 := rfl
    refine Gv.bind (P := ShortD) (Gv.cond (fun _ => (Gv.cat (by omega)).bind fun v hv => .some ⟨by show v.size ≤ 100; omega, ha, Nat.zero_le _⟩) fun _ => .some ⟨by show u.size ≤ 100; omega, ha, Nat.zero_le _⟩) fun d hd => ?_
    exact (Gv.next h8.2 8 (by omega)).bind fun x13 h13 => .some ⟨hd, h13.2⟩
  · exact Gv.bind (Gv.at (P := fun x : ByteArray => x.size ≤ 100) ⟨by omega, .inl (by simp)⟩ (by simp) (by decide)) fun b hb => .some ⟨⟨Nat.zero_le _, ha, hb⟩, h2.2⟩
theorem l28Draw_G {s : l01Source} (hs : SrcOk s) : Gv (spec_l28Draw s) (fun r => ShortD r.1 ∧ SrcOk r.2) := by
  unfold spec_l28Draw
  refine (l28Good_G hs).bind fun x1 h1 => (Gv.next h1.2 30 (by omega)).bind fun x2 h2 => Gv.bind (P := fun r : Description × l01Source => ShortD r.1 ∧ SrcOk r.2) ?_ fun r hr => .some hr
  refine Gv.cond (fun _ => ?_) fun _ => Gv.cond (fun _ => ?_) fun _ => Gv.cond (fun _ => ?_) fun _ => Gv.cond (fun _ => ?_) fun _ => Gv.cond (fun _ => ?_) fun _ => .some ⟨h1.1, h2.2⟩
  · exact (Gv.pick h2.2 (by simp) (by simp)).bind fun x5 h5 => .some ⟨h1.1, h5.2⟩
  · exact (Gv.next h2.2 5 (by omega)).bind fun x6 h6 => Gv.bind (Gv.at (P := fun x : ByteArray => x.size ≤ 100) ⟨h6.1.1, by simpa using h6.1.2⟩ (by simp) (by decide)) fun b hb => .some ⟨⟨h1.1.1, hb, h1.1.2.2⟩, h6.2⟩
  · exact (Gv.next h2.2 6 (by omega)).bind fun x8 h8 => .some ⟨h1.1, h8.2⟩
  · exact (Gv.next h2.2 3 (by omega)).bind fun x9 h9 => Gv.bind (Gv.at (P := fun x : ByteArray => x.size ≤ 100) ⟨h9.1.1, by simpa using h9.1.2⟩ (by simp) (by decide)) fun b hb => .some ⟨⟨h1.1.1, h1.1.2.1, hb⟩, h9.2⟩
  · exact (Gv.pick h2.2 (by simp) (by simp)).bind fun x5 h5 => .some ⟨h1.1, h5.2⟩
def ShortDs (n : Nat) (L : List Description) : Prop := L.length ≤ n ∧ ∀ x ∈ L, ShortD x
theorem ShortDs.snoc {n : Nat} {L : List Description} {x : Description} (h : ShortDs n L) (hx : ShortD x) : ShortDs (n + 1) (L ++ [x]) := by
  refine ⟨by simp; exact h.1, fun y hy => ?_⟩
  rcases List.mem_append.1 hy with hy | hy
  · exact h.2 y hy
  · rw [List.mem_singleton.1 hy]; exact hx
theorem ShortDs.mono {n m : Nat} {L : List Description} (h : ShortDs n L) (k : n ≤ m) : ShortDs m L := ⟨Nat.le_trans h.1 k, h.2⟩
theorem l29Desc_G {s : l01Source} (hs : SrcOk s) : Gv (spec_l29Descriptions s) (fun r => ShortDs 30 r.1 ∧ SrcOk r.2) := by
  unfold spec_l29Descriptions
  refine (Gv.next hs 4 (by omega)).bind fun x1 h1 => ?_
  refine Gv.bind (P := fun r : (List Description) × l01Source => ShortDs 4 r.1 ∧ SrcOk r.2) ?_ fun j hj => ?_
  · refine Gv.lp (fun s : Int × (List Description) × l01Source => (0 ≤ s.1 ∧ s.1 ≤ 4) ∧ ShortDs (4 - s.1.toNat) s.2.1 ∧ SrcOk s.2.2) (fun s => s.1.toNat) (fun s h => ?_) ⟨⟨h1.1.1, by show x1.1 ≤ 4; omega⟩, ⟨Nat.zero_le _, by simp⟩, h1.2⟩
    obtain ⟨⟨h0, h4⟩, h2, h3⟩ := h
    refine Gv.cond (fun hp => ?_) fun _ => .some ⟨h2.mono (by omega), h3⟩
    have hp' : s.1 > 0 := by simpa using hp
    rw [w64_id (n := s.1 - 1) (by omega) (by omega)]
    refine Gv.bind (P := fun r : (List Description) × l01Source => ShortDs (4 - (s.1 - 1).toNat) r.1 ∧ SrcOk r.2) ?_ fun r hr => .some ⟨⟨⟨by show 0 ≤ s.1 - 1; omega, by show s.1 - 1 ≤ 4; omega⟩, hr.1, hr.2⟩, by show (s.1 - 1).toNat < s.1.toNat; omega⟩
    refine (l28Good_G h3).bind fun x8 h8 => (Gv.next h8.2 30 (by omega)).bind fun x9 h9 => ?_
    refine Gv.bind (P := fun r : Description × l01Source => ShortD r.1 ∧ SrcOk r.2) (Gv.cond (fun _ => (l28Draw_G h9.2).bind fun d hd => .some hd) fun _ => .some ⟨h8.1, h9.2⟩) fun d hd => (Gv.app (by have := h2.1; simp; omega)).bind fun r hr => ?_
    subst hr
    exact .some ⟨(h2.snoc hd.1).mono (by omega), hd.2⟩
  · refine (Gv.next hj.2 30 (by omega)).bind fun x14 h14 => Gv.bind (P := fun r : (List Description) × l01Source => ShortDs 30 r.1 ∧ SrcOk r.2) (Gv.cond (fun _ => ?_) fun _ => .some ⟨hj.1.mono (by omega), h14.2⟩) fun r hr => .some hr
    refine Gv.lp (fun s : (List Description) × l01Source => ShortDs 30 s.1 ∧ s.1.length ≤ 9 ∧ SrcOk s.2) (fun s => 9 - s.1.length) (fun s h => ?_) ⟨hj.1.mono (by omega), by have := hj.1.1; show j.1.length ≤ 9; omega, h14.2⟩
    obtain ⟨h1, h2, h3⟩ := h
    refine (Gv.next h3 2 (by omega)).bind fun x19 h19 => Gv.cond (fun hc => ?_) fun _ => .some ⟨h1, h19.2⟩
    rw [w64_id (n := 8 + x19.1) (by omega) (by omega)] at hc
    have hc' : (s.1.length : Int) < 8 + x19.1 := by simpa using hc
    refine (Gv.app (by simp; omega)).bind fun r hr => ?_
    subst hr
    have hx : ShortD (Description.mk 1 0 (ByteArray.mk #[]) 0 (ByteArray.mk #[97, 115, 104]) (ByteArray.mk #[])) := ⟨Nat.zero_le _, by show 3 ≤ 100; omega, Nat.zero_le _⟩
    have hl : (s.1 ++ [Description.mk 1 0 (ByteArray.mk #[]) 0 (ByteArray.mk #[97, 115, 104]) (ByteArray.mk #[])]).length = s.1.length + 1 := by simp
    exact .some ⟨⟨⟨by rw [hl]; omega, (h1.snoc hx).2⟩, by rw [hl]; omega, h19.2⟩, by rw [hl]; omega⟩
theorem l19Empty_G (m : Mask) (h1 : 0 ≤ m.Width ∧ m.Width ≤ 100) (h2 : 0 ≤ m.Height ∧ m.Height ≤ 100) : Gv (spec_l19Empty m) (fun r => r.Cells.length ≤ 10000) := by
  unfold spec_l19Empty make'
  have h3 : 0 ≤ m.Width * m.Height := Int.mul_nonneg h1.1 h2.1
  have h4 : m.Width * m.Height ≤ 100 * 100 := Int.mul_le_mul h1.2 h2.2 h2.1 (by omega)
  rw [w64_id (by omega) (by omega), if_pos ⟨h3, by omega⟩]
  refine ⟨_, rfl, ?_⟩
  simp
  omega
theorem l19Good_G {s : l01Source} (hs : SrcOk s) : Gv (spec_l19Good s) (fun r => r.1.Cells.length ≤ 10000 ∧ SrcOk r.2) := by
  unfold spec_l19Good
  refine (Gv.next hs 9 (by omega)).bind fun x1 h1 => (Gv.next h1.2 9 (by omega)).bind fun x2 h2 => (Gv.next h2.2 9 (by omega)).bind fun x3 h3 => (Gv.next h3.2 9 (by omega)).bind fun x4 h4 => ?_
  have e3 : w64 (1 + x3.1) = 1 + x3.1 := w64_id (by omega) (by omega)
  have e4 : w64 (1 + x4.1) = 1 + x4.1 := w64_id (by omega) (by omega)
  refine (l19Empty_G _ (by simp only [e3]; omega) (by simp only [e4]; omega)).bind fun x5 h5 => (Gv.next h4.2 4 (by omega)).bind fun x6 h6 => ?_
  refine Gv.bind (P := fun r : Int × Int × Int × Int × (List Bool) × l01Source => r.2.2.2.2.1.length ≤ 10000 ∧ SrcOk r.2.2.2.2.2) ?_ fun j hj => .some hj
  refine Gv.fors (by omega) (fun _ (s : Int × Int × Int × Int × (List Bool) × l01Source) => s.2.2.2.2.1.length = x5.Cells.length ∧ SrcOk s.2.2.2.2.2) (fun i s hi h => ?_) ⟨rfl, h6.2⟩ fun s h => ⟨by rw [h.1]; exact h5, h.2⟩
  refine (Gv.next h.2 5 (by omega)).bind fun x13 h13 => Gv.bind (P := fun _ => True) ⟨s.2.2.2.2.1[i]'(by omega), by rw [at_nat]; exact List.getElem?_eq_getElem _, trivial⟩ fun _ _ => .some ⟨by simp; exact h.1, h13.2⟩
theorem l19Draw_G {s : l01Source} (hs : SrcOk s) : Gv (spec_l19Draw s) (fun r => SrcOk r.2) := by
  unfold spec_l19Draw
  refine (l19Good_G hs).bind fun x1 h1 => (Gv.next h1.2 30 (by omega)).bind fun x2 h2 => Gv.bind (P := fun r : Int × Int × Int × Int × (List Bool) × l01Source => SrcOk r.2.2.2.2.2) ?_ fun r hr => .some hr
  refine Gv.cond (fun _ => ?_) fun _ => Gv.cond (fun _ => ?_) fun _ => Gv.cond (fun _ => ?_) fun _ => Gv.cond (fun _ => ?_) fun _ => .some h2.2
  · exact (Gv.pick h2.2 (by simp) (by simp)).bind fun x5 h5 => .some h5.2
  · exact (Gv.pick h2.2 (by simp) (by simp)).bind fun x5 h5 => .some h5.2
  · exact (Gv.app (by simp; omega)).bind fun x7 h7 => .some h2.2
  · refine (Gv.next h2.2 2 (by omega)).bind fun x8 h8 => ?_
    have e : w64 (24 + x8.1) = 24 + x8.1 := w64_id (by omega) (by omega)
    exact (l19Empty_G _ (by simp only [e]; omega) (by simp)).bind fun x9 h9 => .some h8.2
theorem l29Mask_G {s : l01Source} (hs : SrcOk s) : Gv (spec_l29Mask s) (fun _ => True) := by
  unfold spec_l29Mask
  refine (Gv.next hs 12 (by omega)).bind fun x1 h1 => Gv.cond (fun _ => (l19Draw_G h1.2).bind fun _ _ => .some trivial) fun _ => ?_
  refine (Gv.next h1.2 9 (by omega)).bind fun x3 h3 => (Gv.next h3.2 9 (by omega)).bind fun x4 h4 => (Gv.next h4.2 9 (by omega)).bind fun x5 h5 => (Gv.next h5.2 9 (by omega)).bind fun x6 h6 => ?_
  have e5 : w64 (6 + x5.1) = 6 + x5.1 := w64_id (by omega) (by omega)
  have e6 : w64 (6 + x6.1) = 6 + x6.1 := w64_id (by omega) (by omega)
  refine (l19Empty_G _ (by simp only [e5]; omega) (by simp only [e6]; omega)).bind fun x7 h7 => ?_
  refine Gv.bind (P := fun _ => True) ?_ fun _ _ => .some trivial
  refine Gv.fors (by omega) (fun _ (s : Int × Int × Int × Int × (List Bool) × l01Source) => s.2.2.2.2.1.length = x7.Cells.length ∧ SrcOk s.2.2.2.2.2) (fun i s hi h => ?_) ⟨rfl, h6.2⟩ fun s h => trivial
  refine (Gv.next h.2 3 (by omega)).bind fun x13 h13 => Gv.bind (P := fun _ => True) ⟨s.2.2.2.2.1[i]'(by omega), by rw [at_nat]; exact List.getElem?_eq_getElem _, trivial⟩ fun _ _ => .some ⟨by simp; exact h.1, h13.2⟩
theorem region_G {c : List Int} (hc : CodeOk c) : Gv (spec_DrawRegionOf c) (fun r => ShortS 30 r.1 ∧ ShortDs 30 r.2.1) := by
  unfold spec_DrawRegionOf
  exact (Gv.from hc).bind fun s hs => (l29Sites_G hs).bind fun x2 h2 => (l29Desc_G h2.2).bind fun x3 h3 => (l29Mask_G h3.2).bind fun x4 _ => .some ⟨h2.1, h3.1⟩
/-- A list of candidates that is not long, with short texts. -/
def ShortC (n : Nat) (L : List Candidate) : Prop := L.length ≤ n ∧ ∀ x ∈ L, x.Code.size ≤ 100 ∧ x.Text.size ≤ 2000
theorem ShortC.snoc {n : Nat} {L : List Candidate} {x : Candidate} (h : ShortC n L) (hx : x.Code.size ≤ 100 ∧ x.Text.size ≤ 2000) : ShortC (n + 1) (L ++ [x]) := by
  refine ⟨by simp; exact h.1, fun y hy => ?_⟩
  rcases List.mem_append.1 hy with hy | hy
  · exact h.2 y hy
  · rw [List.mem_singleton.1 hy]; exact hx
theorem ShortC.mono {n m : Nat} {L : List Candidate} (h : ShortC n L) (k : n ≤ m) : ShortC m L := ⟨Nat.le_trans h.1 k, h.2⟩
theorem l30List_G {s : l01Source} (hs : SrcOk s) {S : List Site} (hS : S.length ≤ 1000) : Gv (spec_l30List s S) (fun r => ShortC 30 r.1 ∧ SrcOk r.2) := by
  unfold spec_l30List
  refine Gv.bind (P := fun r : (List Candidate) × l01Source => ShortC 5 r.1 ∧ SrcOk r.2) ?_ fun j hj => ?_
  · refine Gv.fors (n := 5) (by omega) (fun i (s : (List Candidate) × l01Source) => ShortC i s.1 ∧ SrcOk s.2) (fun i s hi h => ?_) ⟨⟨Nat.le_refl _, by simp⟩, hs⟩ fun s h => h
    refine (Gv.next h.2 _ (by omega)).bind fun y hy => Gv.cond (fun _ => ?_) fun _ => .some ⟨h.1.mono (by omega), hy.2⟩
    refine Gv.bind (Gv.at (P := fun x : ByteArray => x.size ≤ 100) ⟨by omega, .inl (by simp; omega)⟩ (by simp) (by decide)) fun c hc => ?_
    refine (Gv.goodPhrase hy.2).bind fun g hg => (Gv.next hg.2 4 (by omega)).bind fun a ha => ?_
    have z1 : (ByteArray.mk #[111, 108, 100, 32, 97, 115, 104]).size ≤ 1000 := by decide
    have z2 : (ByteArray.mk #[97, 115, 104]).size ≤ 1000 := by decide
    have z3 : (ByteArray.mk #[110, 101, 119, 116, 111, 110]).size ≤ 1000 := by decide
    refine Gv.bind (Gv.at (P := fun x : ByteArray => x.size ≤ 1000) ⟨ha.1.1, by simpa using ha.1.2⟩ (by simp) (by simp [z1, z2, z3, hg.1])) fun t ht => ?_
    refine (Gv.next ha.2 31 (by omega)).bind fun x12 h12 => (Gv.next h12.2 31 (by omega)).bind fun x13 h13 => ?_
    refine Gv.bind (P := fun r : Bool × l01Source => (r.1 = true → 0 < S.length) ∧ SrcOk r.2) (Gv.cond (fun hp => (Gv.next h13.2 3 (by omega)).bind fun x14 h14 => .some ⟨fun _ => by have : (S.length : Int) > 0 := (by simpa using hp); omega, h14.2⟩) fun _ => .some ⟨fun h => (by cases h), h13.2⟩) fun j15 h15 => ?_
    refine Gv.bind (P := fun r : Candidate × l01Source => (r.1.Code.size ≤ 100 ∧ r.1.Text.size ≤ 2000) ∧ SrcOk r.2) (Gv.cond (fun ht2 => (Gv.next h15.2 _ (by omega)).bind fun x19 h19 => (Gv.at (P := fun _ => True) h19.1 (h15.1 ht2) (fun _ _ => trivial)).bind fun x20 _ => .some ⟨⟨hc, by show t.size ≤ 2000; omega⟩, h19.2⟩) fun _ => .some ⟨⟨hc, by show t.size ≤ 2000; omega⟩, h15.2⟩) fun j17 h17 => ?_
    refine (Gv.app (by have := h.1.1; simp; omega)).bind fun r hr => ?_
    subst hr
    exact .some ⟨h.1.snoc h17.1, h17.2⟩
  · refine (Gv.next hj.2 _ (by omega)).bind fun y hy => Gv.bind (P := fun r : (List Candidate) × l01Source => ShortC 30 r.1 ∧ SrcOk r.2) (Gv.cond (fun _ => ?_) fun _ => Gv.cond (fun _ => ?_) fun _ => .some ⟨hj.1.mono (by omega), hy.2⟩) fun r hr => .some hr
    · refine (Gv.next hy.2 3 (by omega)).bind fun a ha => Gv.bind (Gv.at (P := fun x : ByteArray => x.size ≤ 100) ⟨ha.1.1, by simpa using ha.1.2⟩ (by simp) (by decide)) fun c hc => (Gv.phrase ha.2).bind fun p hp => (Gv.app (by have := hj.1.1; simp; omega)).bind fun r hr => ?_
      subst hr
      exact .some ⟨(hj.1.snoc (x := Candidate.mk c p.1 (Point.mk 0 0)) ⟨hc, hp.1⟩).mono (by omega), hp.2⟩
    · refine Gv.lp (fun s : Int × (List Candidate) × l01Source => (0 ≤ s.1 ∧ s.1 ≤ 12) ∧ ShortC (5 + s.1.toNat) s.2.1 ∧ SrcOk s.2.2) (fun s => 12 - s.1.toNat) (fun s h => ?_) ⟨⟨Int.le_refl _, by omega⟩, hj.1, hy.2⟩
      obtain ⟨⟨h0, h1⟩, h2, h3⟩ := h
      refine Gv.bind (P := fun r : Bool × l01Source => (r.1 = true → s.1 < 12) ∧ SrcOk r.2) ?_ fun j24 h24 => Gv.cond (fun ht => ?_) fun _ => .some ⟨h2.mono (by omega), h24.2⟩
      · refine (Gv.next h3 _ (by omega)).bind fun a ha => Gv.cond (fun _ => .some ⟨fun h => by simpa using h, ha.2⟩) fun _ => .some ⟨fun h => (by cases h), ha.2⟩
      · have hlt := h24.1 ht
        rw [w64_id (n := s.1 + 1) (by omega) (by omega)]
        refine Gv.bind (P := fun r : List Candidate => ShortC (5 + (s.1 + 1).toNat) r) ?_ fun r hr => .some ⟨⟨⟨by show 0 ≤ s.1 + 1; omega, by show s.1 + 1 ≤ 12; omega⟩, hr, h24.2⟩, by show 12 - (s.1 + 1).toNat < 12 - s.1.toNat; omega⟩
        have z : (ByteArray.mk #[97, 98, 99, 100, 101, 102, 103, 104, 105, 106, 107, 108]).size = 12 := rfl
        have z1 : (ByteArray.mk #[122]).size = 1 := rfl
        refine (Gv.sub h0 (by omega) (by omega)).bind fun u hu => (Gv.cat (by omega)).bind fun v hv => (Gv.app (by have := h2.1; simp; omega)).bind fun r hr => ?_
        subst hr
        exact .some ((h2.snoc (x := Candidate.mk v (ByteArray.mk #[97, 115, 104]) (Point.mk 0 0)) ⟨by show v.size ≤ 100; omega, by show 3 ≤ 2000; omega⟩).mono (by omega))
theorem l30Draw_G {c : List Int} (hc : CodeOk c) : Gv (spec_l30Draw c) (fun r => ShortC 30 r.1 ∧ r.2.1.size ≤ 2000 ∧ ShortS 30 r.2.2.1 ∧ ShortDs 30 r.2.2.2) := by
  unfold spec_l30Draw
  refine (Gv.from hc).bind fun s hs => (region_G hc).bind fun x2 h2 => (l30List_G hs (by have := h2.1.1; omega)).bind fun x3 h3 => (Gv.phrase h3.2).bind fun x4 h4 => (Gv.next h4.2 4 (by omega)).bind fun x5 h5 => ?_
  have z1 : (ByteArray.mk #[111, 108, 100, 32, 97, 115, 104]).size ≤ 2000 := by decide
  have z2 : (ByteArray.mk #[97, 115, 104]).size ≤ 2000 := by decide
  have z3 : (ByteArray.mk #[111, 108, 100, 32, 97, 115, 104, 101]).size ≤ 2000 := by decide
  exact Gv.bind (Gv.at (P := fun x : ByteArray => x.size ≤ 2000) ⟨h5.1.1, by simpa using h5.1.2⟩ (by simp) (by simp [z1, z2, z3, h4.1])) fun t ht => .some ⟨h3.1, ht, h2.1, h2.2⟩
end Go.Proofs.YtodgenjlhiiieaaGreatDoor.Sh
