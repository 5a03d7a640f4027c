/- The draws of claims come to an answer; no condition but a short code. -/
import Derived.Test.YtppehghiiahabaaGreatDoorMN7
namespace Go.Proofs.YtppehghiiahabaaGreatDoor.Sh
open Go.RowKit Go.Lib
/-- A claim with short texts. -/
def ShortK (c : Claim) : Prop := c.Source.size ≤ 100 ∧ c.Place.size ≤ 100 ∧ c.Value.size ≤ 100
theorem ShortK.sm {c : Claim} (h : ShortK c) : smClaim c := ⟨by have := h.1; omega, by have := h.2.1; omega, by have := h.2.2; omega⟩
def ShortL (n : Nat) (L : List Claim) : Prop := L.length ≤ n ∧ ∀ x ∈ L, ShortK x
theorem ShortL.snoc {n : Nat} {L : List Claim} {x : Claim} (h : ShortL n L) (hx : ShortK x) : ShortL (n + 1) (L ++ [x]) := by
  refine ⟨by simp; exact h.1, fun y hy => ?_⟩
  rcases List.mem_append.1 hy with hy | hy
  · exact h.2 y hy
  · rw [List.mem_singleton.1 hy]; exact hx
theorem ShortL.mono {n m : Nat} {L : List Claim} (h : ShortL n L) (k : n ≤ m) : ShortL m L := ⟨Nat.le_trans h.1 k, h.2⟩
theorem ShortL.sm {n : Nat} {L : List Claim} (h : ShortL n L) : ∀ x ∈ L, smClaim x := fun x hx => (h.2 x hx).sm
theorem l20Good_G {s : l01Source} (hs : SrcOk s) : Gv (spec_l20Good s) (fun r => ShortK r.1 ∧ SrcOk r.2) := by
  unfold spec_l20Good
  refine (Gv.next hs 4 (by omega)).bind fun x1 h1 => Gv.bind (Gv.at (P := fun x : ByteArray => x.size ≤ 100) ⟨h1.1.1, by simpa using h1.1.2⟩ (by simp) (by decide)) fun a ha => ?_
  refine (Gv.pick h1.2 (by simp) (by simp)).bind fun x3 h3 => (Gv.next h3.2 3 (by omega)).bind fun x4 h4 => Gv.bind (Gv.at (P := fun x : ByteArray => x.size ≤ 100) ⟨h4.1.1, by simpa using h4.1.2⟩ (by simp) (by decide)) fun b hb => ?_
  refine (Gv.next h4.2 60 (by omega)).bind fun x6 h6 => (Gv.next h6.2 9 (by omega)).bind fun x7 h7 => (Gv.next h7.2 60 (by omega)).bind fun x8 h8 => ?_
  refine Gv.bind (P := fun r : Claim × l01Source => ShortK r.1 ∧ SrcOk r.2) (Gv.cond (fun _ => ?_) fun _ => Gv.cond (fun _ => ?_) fun _ => .some ⟨⟨ha, hb, Nat.zero_le _⟩, h8.2⟩) fun r hr => .some hr
  · exact (Gv.next h8.2 3 (by omega)).bind fun x11 h11 => Gv.bind (Gv.at (P := fun x : ByteArray => x.size ≤ 100) ⟨h11.1.1, by simpa using h11.1.2⟩ (by simp) (by decide)) fun v hv => .some ⟨⟨ha, hb, hv⟩, h11.2⟩
  · have z : (ByteArray.mk #[100, 101, 118, 97]).size ≤ 100 := by decide
    exact (Gv.next h8.2 4 (by omega)).bind fun x11 h11 => Gv.bind (Gv.at (P := fun x : ByteArray => x.size ≤ 100) ⟨h11.1.1, by simpa using h11.1.2⟩ (by simp) (by decide)) fun v hv => Gv.cond (fun _ => .some ⟨⟨ha, hb, z⟩, h11.2⟩) fun _ => .some ⟨⟨ha, hb, hv⟩, h11.2⟩
theorem l02Good_G {s : l01Source} (hs : SrcOk s) : Gv (spec_l02Good s) (fun r => SrcOk r.2) := by
  unfold spec_l02Good
  exact (Gv.next hs _ (by omega)).bind fun x1 h1 => (Gv.next h1.2 _ (by omega)).bind fun x2 h2 => (Gv.next h2.2 _ (by omega)).bind fun x3 h3 => (Gv.pick h3.2 (by simp) (by simp)).bind fun x4 h4 => .some h4.2
theorem l02Draw_G {s : l01Source} (hs : SrcOk s) : Gv (spec_l02Draw s) (fun r => SrcOk r.2) := by
  unfold spec_l02Draw
  refine (l02Good_G hs).bind fun x1 h1 => (Gv.next h1 20 (by omega)).bind fun x2 h2 => Gv.bind (P := fun r : Span × l01Source => SrcOk r.2) ?_ fun r hr => .some hr
  refine Gv.cond (fun _ => .some h2.2) fun _ => Gv.cond (fun _ => ?_) fun _ => Gv.cond (fun _ => ?_) fun _ => .some h2.2
  · exact (Gv.pick h2.2 (by simp) (by simp)).bind fun x5 h5 => .some h5.2
  · exact (Gv.pick h2.2 (by simp) (by simp)).bind fun x5 h5 => .some h5.2
theorem l20Draw_G {s : l01Source} (hs : SrcOk s) : Gv (spec_l20Draw s) (fun r => ShortK r.1 ∧ SrcOk r.2) := by
  unfold spec_l20Draw
  refine (l20Good_G hs).bind fun x1 h1 => (Gv.next h1.2 24 (by omega)).bind fun x2 h2 => Gv.bind (P := fun r : Claim × l01Source => ShortK r.1 ∧ SrcOk r.2) ?_ fun r hr => .some hr
  refine Gv.cond (fun _ => ?_) fun _ => Gv.cond (fun _ => ?_) fun _ => Gv.cond (fun _ => ?_) fun _ => Gv.cond (fun _ => ?_) fun _ => .some ⟨h1.1, h2.2⟩
  · exact (Gv.pick h2.2 (by simp) (by simp)).bind fun x5 h5 => .some ⟨h1.1, h5.2⟩
  · exact (Gv.next h2.2 3 (by omega)).bind fun x6 h6 => Gv.bind (Gv.at (P := fun x : ByteArray => x.size ≤ 100) ⟨h6.1.1, by simpa using h6.1.2⟩ (by simp) (by decide)) fun b hb => .some ⟨⟨h1.1.1, h1.1.2.1, hb⟩, h6.2⟩
  · exact (Gv.next h2.2 6 (by omega)).bind fun x8 h8 => .some ⟨h1.1, h8.2⟩
  · exact (l02Draw_G h2.2).bind fun x9 h9 => .some ⟨h1.1, h9⟩
theorem l20List_G {s : l01Source} (hs : SrcOk s) : Gv (spec_l20List s) (fun r => ShortL 20 r.1 ∧ SrcOk r.2) := by
  unfold spec_l20List
  refine (Gv.next hs 9 (by omega)).bind fun x1 h1 => ?_
  refine Gv.bind (P := fun r : (List Claim) × l01Source => ShortL 9 r.1 ∧ SrcOk r.2) ?_ fun j hj => ?_
  · refine Gv.lp (fun s : Int × (List Claim) × l01Source => (0 ≤ s.1 ∧ s.1 ≤ 9) ∧ ShortL (9 - s.1.toNat) s.2.1 ∧ SrcOk s.2.2) (fun s => s.1.toNat) (fun s h => ?_) ⟨⟨h1.1.1, by show x1.1 ≤ 9; omega⟩, ⟨Nat.zero_le _, by simp⟩, h1.2⟩
    obtain ⟨⟨h0, h4⟩, h2, h3⟩ := h
    refine Gv.cond (fun hp => ?_) fun _ => .some ⟨h2.mono (by omega), h3⟩
    have hp' : s.1 > 0 := by simpa using hp
    rw [w64_id (n := s.1 - 1) (by omega) (by omega)]
    refine Gv.bind (P := fun r : (List Claim) × l01Source => ShortL (9 - (s.1 - 1).toNat) r.1 ∧ SrcOk r.2) ?_ fun r hr => .some ⟨⟨⟨by show 0 ≤ s.1 - 1; omega, by show s.1 - 1 ≤ 9; omega⟩, hr.1, hr.2⟩, by show (s.1 - 1).toNat < s.1.toNat; omega⟩
    refine (l20Good_G h3).bind fun x8 h8 => (Gv.app (by have := h2.1; simp; omega)).bind fun r hr => ?_
    subst hr
    exact .some ⟨(h2.snoc h8.1).mono (by omega), h8.2⟩
  · refine (Gv.next hj.2 24 (by omega)).bind fun x10 h10 => Gv.bind (P := fun r : (List Claim) × l01Source => ShortL 20 r.1 ∧ SrcOk r.2) (Gv.cond (fun _ => ?_) fun _ => Gv.cond (fun _ => ?_) fun _ => .some ⟨hj.1.mono (by omega), h10.2⟩) fun r hr => .some hr
    · refine (l20Draw_G h10.2).bind fun x13 h13 => (Gv.app (by have := hj.1.1; simp; omega)).bind fun r hr => ?_
      subst hr
      exact .some ⟨(hj.1.snoc h13.1).mono (by omega), h13.2⟩
    · refine Gv.lp (fun s : (List Claim) × l01Source => ShortL 14 s.1 ∧ SrcOk s.2) (fun s => 20 - s.1.length) (fun s h => ?_) ⟨hj.1.mono (by omega), h10.2⟩
      refine (Gv.next h.2 2 (by omega)).bind fun x17 h17 => Gv.cond (fun hc => ?_) fun _ => .some ⟨h.1.mono (by omega), h17.2⟩
      rw [w64_id (n := 12 + x17.1) (by omega) (by omega)] at hc
      have hc' : (s.1.length : Int) < 12 + x17.1 := by simpa using hc
      refine (l20Good_G h17.2).bind fun x18 h18 => (Gv.app (by simp; omega)).bind fun r hr => ?_
      subst hr
      have hl : (s.1 ++ [x18.1]).length = s.1.length + 1 := by simp
      exact .some ⟨⟨⟨by rw [hl]; omega, (h.1.snoc h18.1).2⟩, h18.2⟩, by show 20 - (s.1 ++ [x18.1]).length < 20 - s.1.length; rw [hl]; omega⟩
theorem Gv.forh {S A : Type} {C : Int → S → Bool} {B : Int → S → Option S} {D : S → A} (n : Nat) (hn : n ≤ 1000000000) (I : Nat → S → Prop) (hC : ∀ (i : Nat) s, I i s → C (i : Int) s = true → i < n) (hB : ∀ (i : Nat) s, I i s → C (i : Int) s = true → Gv (B (i : Int) s) (I (i + 1))) {s : S} (hs : I 0 s) {Q : A → Prop} (hQ : ∀ (i : Nat) s, I i s → Q (D s)) : Gv (forH C B D 0 s) Q := by
  unfold forH
  have := Gv.lp (body := fun (p : Int × S) => (bif C p.1 p.2 then (B p.1 p.2).bind fun s' => Option.some (Sum.inl ((w64 (p.1 + 1)), s')) else Option.some (Sum.inr (D p.2)) : Option ((Int × S) ⊕ A))) (fun p => 0 ≤ p.1 ∧ I p.1.toNat p.2) (fun p => n - p.1.toNat) (Q := Q) (fun p h => by
    obtain ⟨h0, h1⟩ := h
    have e : p.1 = ((p.1.toNat : Nat) : Int) := by omega
    refine Gv.cond (fun hc => ?_) fun _ => .some (hQ _ _ h1)
    rw [e] at hc
    have hlt := hC _ _ h1 hc
    have hb := hB _ _ h1 hc
    rw [← e] at hb
    refine hb.bind fun s' hs' => .some ?_
    rw [w64_id (n := p.1 + 1) (by omega) (by omega)]
    have e2 : (p.1 + 1).toNat = p.1.toNat + 1 := by omega
    exact ⟨⟨by show 0 ≤ p.1 + 1; omega, by show I (p.1 + 1).toNat s'; rw [e2]; exact hs'⟩, by show n - (p.1 + 1).toNat < n - p.1.toNat; omega⟩) (s := ((0 : Int), s)) ⟨Int.le_refl _, hs⟩
  exact this
theorem l21List_G {s : l01Source} (hs : SrcOk s) : Gv (spec_l21List s) (fun r => ShortL 30 r.1 ∧ SrcOk r.2) := by
  unfold spec_l21List
  refine (Gv.next hs 3 (by omega)).bind fun x1 h1 => ?_
  refine Gv.bind (P := fun r : (List Claim) × l01Source => ShortL 9 r.1 ∧ SrcOk r.2) (Gv.cond (fun _ => ?_) fun _ => .some ⟨⟨Nat.zero_le _, by simp⟩, h1.2⟩) fun j hj => ?_
  · refine Gv.fors (n := 3) (by omega) (fun i (s : (List Claim) × l01Source) => ShortL i s.1 ∧ SrcOk s.2) (fun i s hi h => ?_) ⟨⟨Nat.le_refl _, by simp⟩, h1.2⟩ fun s h => ⟨h.1.mono (by omega), h.2⟩
    rw [w64_id (n := (i : Int) + 1) (by omega) (by omega)]
    refine Gv.bind (Gv.at (P := fun x : ByteArray => x.size ≤ 100) ⟨by omega, .inl (by simp; omega)⟩ (by simp) (by decide)) fun a ha => Gv.bind (Gv.at (P := fun x : ByteArray => x.size ≤ 100) ⟨by omega, .inl (by simp; omega)⟩ (by simp) (by decide)) fun b hb => Gv.bind (Gv.at (P := fun x : ByteArray => x.size ≤ 100) ⟨by omega, .inl (by simp; omega)⟩ (by simp) (by decide)) fun c hc => ?_
    refine (Gv.next h.2 20 (by omega)).bind fun x11 h11 => (Gv.next h11.2 30 (by omega)).bind fun x12 h12 => (Gv.next h12.2 9 (by omega)).bind fun x13 h13 => ?_
    have hk : ∀ (k : Int) (y : Span) (w : Int), ShortK (Claim.mk a k b c y w) := fun _ _ _ => ⟨ha, hb, hc⟩
    rw [spec_isClaim _ (hk _ _ _).sm, Option.bind_some]
    refine Gv.cond (fun _ => (Gv.app (by have := h.1.1; simp; omega)).bind fun r hr => ?_) fun _ => .some ⟨h.1.mono (by omega), h13.2⟩
    subst hr
    exact .some ⟨h.1.snoc (hk _ _ _), h13.2⟩
  · refine (l20List_G hj.2).bind fun x16 h16 => Gv.bind (P := ShortL 30) ?_ fun r hr => .some ⟨hr, h16.2⟩
    refine Gv.forh 20 (by omega) (fun i s => i ≤ 20 ∧ ShortL 30 s) (fun i s h hc => ?_) (fun i s h hc => ?_) ⟨Nat.zero_le _, hj.1.mono (by omega)⟩ fun i s h => h.2
    · have := h16.1.1
      simp only [Bool.and_eq_true, decide_eq_true_eq] at hc
      omega
    · have := h16.1.1
      simp only [Bool.and_eq_true, decide_eq_true_eq] at hc
      rw [at_nat, List.getElem?_eq_getElem (by omega), Option.bind_some]
      refine (Gv.app (by simp; omega)).bind fun r hr => ?_
      subst hr
      exact .some ⟨by omega, by simp; omega, (h.2.snoc (h16.1.2 _ (List.getElem_mem _))).2⟩
theorem l21Year_G {s : l01Source} (hs : SrcOk s) : Gv (spec_l21Year s) (fun r => SrcOk r.2) := by
  unfold spec_l21Year
  exact (Gv.next hs 50 (by omega)).bind fun x1 h1 => (Gv.next h1.2 110 (by omega)).bind fun x2 h2 => (Gv.pick h2.2 (by simp) (by simp)).bind fun x3 h3 => .some h3.2
end Go.Proofs.YtppehghiiahabaaGreatDoor.Sh
