/- The draws of places come to an answer; no condition but a short code. -/
import Derived.Test.YtpohkmbkohjahaaGreatDoorMPL9
import Derived.Test.YtpohkmbkohjahaaGreatDoorMD4
namespace Go.Proofs.YtpohkmbkohjahaaGreatDoor.Sh
open Go.RowKit Go.Lib
def ShN (n : Name) : Prop := n.Text.size ≤ 2000 ∧ n.Language.size ≤ 100
theorem ShN.r {n : Name} (h : ShN n) : NmR n := ⟨by have := h.1; omega, by have := h.2; omega⟩
def ShNs (k : Nat) (L : List Name) : Prop := L.length ≤ k ∧ ∀ x ∈ L, ShN x
theorem ShNs.snoc {k : Nat} {L : List Name} {x : Name} (h : ShNs k L) (hx : ShN x) : ShNs (k + 1) (L ++ [x]) := by
  refine ⟨by simp; exact h.1, fun y hy => ?_⟩
  rcases List.mem_append.1 hy with hy | hy
  · exact h.2 y hy
  · rw [List.mem_singleton.1 hy]; exact hx
theorem ShNs.mono {k l : Nat} {L : List Name} (h : ShNs k L) (hk : k ≤ l) : ShNs l L := ⟨Nat.le_trans h.1 hk, h.2⟩
def ShP (p : Place) : Prop := p.Code.size ≤ 100 ∧ ShNs 40 p.Names
theorem ShP.r {p : Place} (h : ShP p) : PlR p := ⟨by have := h.1; omega, by have := h.2.1; omega, fun x hx => (h.2.2 x hx).r⟩
def ShPs (k : Nat) (L : List Place) : Prop := L.length ≤ k ∧ ∀ x ∈ L, ShP x
theorem ShPs.snoc {k : Nat} {L : List Place} {x : Place} (h : ShPs k L) (hx : ShP x) : ShPs (k + 1) (L ++ [x]) := by
  refine ⟨by simp; exact h.1, fun y hy => ?_⟩
  rcases List.mem_append.1 hy with hy | hy
  · exact h.2 y hy
  · rw [List.mem_singleton.1 hy]; exact hx
theorem ShPs.mono {k l : Nat} {L : List Place} (h : ShPs k L) (hk : k ≤ l) : ShPs l L := ⟨Nat.le_trans h.1 hk, h.2⟩
theorem ShPs.r {k : Nat} {L : List Place} (h : ShPs k L) : ∀ x ∈ L, PlR x := fun x hx => (h.2 x hx).r
theorem gv_gp {s : l01Source} (hs : SrcOk s) : Gv (spec_l01GoodPhrase s) (fun r => r.1.size ≤ 1000 ∧ SrcOk r.2) := by
  obtain ⟨t, s', h1, h2, h3⟩ := goodPhrase_ok hs
  exact ⟨_, h1, h2, h3⟩
theorem gv_ph {s : l01Source} (hs : SrcOk s) : Gv (spec_l01DrawPhrase s) (fun r => r.1.size ≤ 2000 ∧ SrcOk r.2) := by
  obtain ⟨t, s', h1, h2, h3⟩ := drawPhrase_ok hs
  exact ⟨_, h1, h2, h3⟩
theorem gv_wd {s : l01Source} (hs : SrcOk s) : Gv (spec_l01DrawWord s) (fun r => r.1.size ≤ 100 ∧ SrcOk r.2) := by
  obtain ⟨t, s', h1, h2, h3⟩ := drawWord_ok hs
  exact ⟨_, h1, h2, h3⟩
theorem l02Good_GP {s : l01Source} (hs : SrcOk s) : Gv (spec_l02Good s) (fun r => SrcOk r.2) := by
  unfold spec_l02Good
  exact (Gv.next hs _ (by omega)).bind fun x1 h1 => (Gv.next h1.2 _ (by omega)).bind fun x2 h2 => (Gv.next h2.2 _ (by omega)).bind fun x3 h3 => (Gv.pick h3.2 (by simp) (by simp)).bind fun x4 h4 => .some h4.2
theorem l02Draw_GP {s : l01Source} (hs : SrcOk s) : Gv (spec_l02Draw s) (fun r => SrcOk r.2) := by
  unfold spec_l02Draw
  refine (l02Good_GP hs).bind fun x1 h1 => (Gv.next h1 20 (by omega)).bind fun x2 h2 => Gv.bind (P := fun r : Span × l01Source => SrcOk r.2) ?_ fun r hr => .some hr
  refine Gv.cond (fun _ => .some h2.2) fun _ => Gv.cond (fun _ => ?_) fun _ => Gv.cond (fun _ => ?_) fun _ => .some h2.2
  · exact (Gv.pick h2.2 (by simp) (by simp)).bind fun x5 h5 => .some h5.2
  · exact (Gv.pick h2.2 (by simp) (by simp)).bind fun x5 h5 => .some h5.2
theorem l09Draw_G {s : l01Source} (hs : SrcOk s) : Gv (spec_l09Draw s) (fun r => ShN r.1 ∧ SrcOk r.2) := by
  unfold spec_l09Draw
  refine (gv_gp hs).bind fun x1 h1 => (Gv.next h1.2 4 (by omega)).bind fun x2 h2 => Gv.bind (Gv.at (P := fun x : ByteArray => x.size ≤ 100) ⟨h2.1.1, by simpa using h2.1.2⟩ (by simp) (by decide)) fun l hl => ?_
  refine (Gv.pick h2.2 (by simp) (by simp)).bind fun x4 h4 => (l02Good_GP h4.2).bind fun x5 h5 => (Gv.next h5 30 (by omega)).bind fun x6 h6 => ?_
  have ht : x1.1.size ≤ 2000 := by have := h1.1; omega
  refine Gv.bind (P := fun r : Name × l01Source => ShN r.1 ∧ SrcOk r.2) (Gv.cond (fun _ => ?_) fun _ => Gv.cond (fun _ => ?_) fun _ => Gv.cond (fun _ => ?_) fun _ => Gv.cond (fun _ => ?_) fun _ => .some ⟨⟨ht, hl⟩, h6.2⟩) fun r hr => .some hr
  · exact (gv_ph h6.2).bind fun x9 h9 => .some ⟨⟨h9.1, hl⟩, h9.2⟩
  · exact (Gv.next h6.2 4 (by omega)).bind fun x10 h10 => Gv.bind (Gv.at (P := fun x : ByteArray => x.size ≤ 100) ⟨h10.1.1, by simpa using h10.1.2⟩ (by simp) (by decide)) fun m hm => .some ⟨⟨ht, hm⟩, h10.2⟩
  · exact (Gv.pick h6.2 (by simp) (by simp)).bind fun x12 h12 => .some ⟨⟨ht, hl⟩, h12.2⟩
  · exact (l02Draw_GP h6.2).bind fun x13 h13 => .some ⟨⟨ht, hl⟩, h13⟩
theorem l09List_G {s : l01Source} (hs : SrcOk s) : Gv (spec_l09List s) (fun r => ShNs 30 r.1 ∧ SrcOk r.2) := by
  unfold spec_l09List
  refine (Gv.next hs 6 (by omega)).bind fun x1 h1 => ?_
  refine Gv.bind (P := fun r : (List Name) × l01Source => ShNs 6 r.1 ∧ SrcOk r.2) ?_ fun j hj => ?_
  · refine Gv.lp (fun s : Int × (List Name) × l01Source => (0 ≤ s.1 ∧ s.1 ≤ 6) ∧ ShNs (6 - s.1.toNat) s.2.1 ∧ SrcOk s.2.2) (fun s => s.1.toNat) (fun s h => ?_) ⟨⟨h1.1.1, by show x1.1 ≤ 6; omega⟩, ⟨Nat.zero_le _, by simp⟩, h1.2⟩
    obtain ⟨⟨h0, h4⟩, h2, h3⟩ := h
    refine Gv.cond (fun hp => ?_) fun _ => .some ⟨h2.mono (by omega), h3⟩
    have hp' : s.1 > 0 := by simpa using hp
    have hl := h2.1
    rw [w64_id (n := s.1 - 1) (by omega) (by omega)]
    refine Gv.bind (P := fun r : (List Name) × l01Source => ShNs (6 - (s.1 - 1).toNat) r.1 ∧ SrcOk r.2) ?_ fun r hr => .some ⟨⟨⟨by show 0 ≤ s.1 - 1; omega, by show s.1 - 1 ≤ 6; omega⟩, hr.1, hr.2⟩, by show (s.1 - 1).toNat < s.1.toNat; omega⟩
    refine (Gv.app (by simp; omega)).bind fun a ha => (l09Draw_G h3).bind fun x9 h9 => ?_
    rw [List.nil_append] at ha
    subst ha
    refine (Gv.app (by simp; omega)).bind fun b hb => ?_
    subst hb
    have hsn := h2.snoc h9.1
    rw [spec_areNames (by have := hsn.1; omega) (fun x hx => (hsn.2 x hx).r), Option.bind_some]
    exact Gv.cond (fun _ => .some ⟨hsn.mono (by omega), h9.2⟩) fun _ => .some ⟨h2.mono (by omega), h9.2⟩
  · refine (Gv.next hj.2 24 (by omega)).bind fun x12 h12 => Gv.bind (P := fun r : (List Name) × l01Source => ShNs 30 r.1 ∧ SrcOk r.2) (Gv.cond (fun _ => ?_) fun _ => Gv.cond (fun _ => ?_) fun _ => .some ⟨hj.1.mono (by omega), h12.2⟩) fun r hr => .some hr
    · refine (l09Draw_G h12.2).bind fun x15 h15 => (Gv.app (by have := hj.1.1; simp; omega)).bind fun r hr => ?_
      subst hr
      exact .some ⟨(hj.1.snoc h15.1).mono (by omega), h15.2⟩
    · refine Gv.lp (fun s : (List Name) × l01Source => ShNs 14 s.1 ∧ SrcOk s.2) (fun s => 20 - s.1.length) (fun s h => ?_) ⟨hj.1.mono (by omega), h12.2⟩
      refine (Gv.next h.2 2 (by omega)).bind fun x19 h19 => Gv.cond (fun hc => ?_) fun _ => .some ⟨h.1.mono (by omega), h19.2⟩
      rw [w64_id (n := 12 + x19.1) (by omega) (by omega)] at hc
      have hc' : (s.1.length : Int) < 12 + x19.1 := by simpa using hc
      refine (Gv.app (by simp; omega)).bind fun r hr => ?_
      subst hr
      have hl : ∀ x : Name, (s.1 ++ [x]).length = s.1.length + 1 := fun x => by simp
      have z1 : (ByteArray.mk #[111, 108, 100, 32, 97, 115, 104]).size ≤ 2000 := by decide
      have z2 : (ByteArray.mk #[108, 97, 116]).size ≤ 100 := by decide
      exact .some ⟨⟨⟨by rw [hl]; omega, (h.1.snoc (x := Name.mk (ByteArray.mk #[111, 108, 100, 32, 97, 115, 104]) (ByteArray.mk #[108, 97, 116]) 2 (Span.mk 1 9)) ⟨z1, z2⟩).2⟩, h19.2⟩, by show 20 - (s.1 ++ [_]).length < 20 - s.1.length; rw [hl]; omega⟩
theorem l11Good_G {s : l01Source} (hs : SrcOk s) : Gv (spec_l11Good s) (fun r => ShP r.1 ∧ SrcOk r.2) := by
  unfold spec_l11Good
  refine (Gv.next hs 8 (by omega)).bind fun x1 h1 => Gv.bind (Gv.at (P := fun x : ByteArray => x.size ≤ 100) ⟨h1.1.1, by simpa using h1.1.2⟩ (by simp) (by decide)) fun c hc => ?_
  refine (Gv.next h1.2 6 (by omega)).bind fun x3 h3 => (Gv.next h3.2 600 (by omega)).bind fun x4 h4 => (Gv.next h4.2 1000 (by omega)).bind fun x5 h5 => (Gv.next h5.2 4 (by omega)).bind fun x6 h6 => ?_
  refine Gv.bind (P := fun r : ByteArray × Int × Int × Int × (List Name) × l01Source => r.1.size ≤ 100 ∧ ShNs 4 r.2.2.2.2.1 ∧ SrcOk r.2.2.2.2.2) ?_ fun r hr => .some ⟨⟨hr.1, hr.2.1.mono (by omega)⟩, hr.2.2⟩
  refine Gv.lp (fun s : Int × ByteArray × Int × Int × Int × (List Name) × l01Source => (0 ≤ s.1 ∧ s.1 ≤ 4) ∧ s.2.1.size ≤ 100 ∧ ShNs (4 - s.1.toNat) s.2.2.2.2.2.1 ∧ SrcOk s.2.2.2.2.2.2) (fun s => s.1.toNat) (fun s h => ?_) ⟨⟨h6.1.1, by show x6.1 ≤ 4; omega⟩, hc, ⟨Nat.zero_le _, by simp⟩, h6.2⟩
  obtain ⟨⟨h0, h4'⟩, hc', h2, h3'⟩ := h
  refine Gv.cond (fun hp => ?_) fun _ => .some ⟨hc', h2.mono (by omega), h3'⟩
  have hp' : s.1 > 0 := by simpa using hp
  have hl := h2.1
  rw [w64_id (n := s.1 - 1) (by omega) (by omega)]
  refine Gv.bind (P := fun r : ByteArray × Int × Int × Int × (List Name) × l01Source => r.1.size ≤ 100 ∧ ShNs (4 - (s.1 - 1).toNat) r.2.2.2.2.1 ∧ SrcOk r.2.2.2.2.2) ?_ fun r hr => .some ⟨⟨⟨by show 0 ≤ s.1 - 1; omega, by show s.1 - 1 ≤ 4; omega⟩, hr.1, hr.2.1, hr.2.2⟩, by show (s.1 - 1).toNat < s.1.toNat; omega⟩
  refine (l09Draw_G h3').bind fun x13 h13 => (Gv.next h13.2 60 (by omega)).bind fun x14 h14 => (Gv.next h14.2 30 (by omega)).bind fun x15 h15 => (Gv.pick h15.2 (by simp) (by simp)).bind fun x16 h16 => (Gv.next h16.2 3 (by omega)).bind fun x17 h17 => ?_
  refine Gv.bind (P := fun r : Name × l01Source => ShN r.1 ∧ SrcOk r.2) (Gv.cond (fun _ => ?_) fun _ => .some ⟨⟨h13.1.1, h13.1.2⟩, h17.2⟩) fun j18 h18 => ?_
  · exact (Gv.next h17.2 2 (by omega)).bind fun x20 h20 => Gv.bind (Gv.at (P := fun x : ByteArray => x.size ≤ 2000) ⟨h20.1.1, by simpa using h20.1.2⟩ (by simp) (by decide)) fun t ht => .some ⟨⟨ht, h13.1.2⟩, h20.2⟩
  · refine (Gv.app (by simp; omega)).bind fun a ha => ?_
    rw [List.nil_append] at ha
    subst ha
    refine (Gv.app (by simp; omega)).bind fun b hb => ?_
    subst hb
    have hsn := h2.snoc h18.1
    rw [spec_areNames (by have := hsn.1; omega) (fun x hx => (hsn.2 x hx).r), Option.bind_some]
    exact Gv.bind (P := fun _ : Bool => True) (Gv.cond (fun _ => .some trivial) fun _ => .some trivial) fun j _ => Gv.cond (fun _ => .some ⟨hc', hsn.mono (by omega), h18.2⟩) fun _ => .some ⟨hc', h2.mono (by omega), h18.2⟩
theorem l11Draw_G {s : l01Source} (hs : SrcOk s) : Gv (spec_l11Draw s) (fun r => ShP r.1 ∧ SrcOk r.2) := by
  unfold spec_l11Draw
  refine (l11Good_G hs).bind fun x1 h1 => (Gv.next h1.2 24 (by omega)).bind fun x2 h2 => Gv.bind (P := fun r : ByteArray × Int × Int × Int × (List Name) × l01Source => r.1.size ≤ 100 ∧ ShNs 40 r.2.2.2.2.1 ∧ SrcOk r.2.2.2.2.2) (Gv.cond (fun _ => ?_) fun _ => Gv.cond (fun _ => ?_) fun _ => Gv.cond (fun _ => ?_) fun _ => Gv.cond (fun _ => ?_) fun _ => .some ⟨h1.1.1, h1.1.2, h2.2⟩) fun r hr => .some ⟨⟨hr.1, hr.2.1⟩, hr.2.2⟩
  · exact (gv_wd h2.2).bind fun x5 h5 => .some ⟨h5.1, h1.1.2, h5.2⟩
  · exact (Gv.pick h2.2 (by simp) (by simp)).bind fun x6 h6 => .some ⟨h1.1.1, h1.1.2, h6.2⟩
  · exact (l02Draw_GP h2.2).bind fun x7 h7 => .some ⟨h1.1.1, h1.1.2, h7⟩
  · exact (l09List_G h2.2).bind fun x8 h8 => .some ⟨h1.1.1, h8.1.mono (by omega), h8.2⟩
/-- What AddPlace of both gives, whole. -/
theorem addPlace_full {L : List Place} (hL : L.length ≤ 1048576) (hR : ∀ x ∈ L, PlR x) {p : Place} (hpR : PlR p) : ∃ r, impl_AddPlace L p = some r ∧ spec_AddPlace L p = some r ∧ ((r.2 ≠ 0 ∧ r.1 = []) ∨ (r.2 = 0 ∧ regB L = true ∧ placeB p = true ∧ ∃ k, k ≤ L.length ∧ r.1 = insL L k p ∧ regB (insL L k p) = true)) := by
  unfold impl_AddPlace spec_AddPlace
  rw [impl_isReg hL hR, spec_isReg hL hR, impl_isPlace hpR, spec_isPlace hpR]
  cases hreg : regB L
  · exact ⟨_, rfl, rfl, .inl ⟨by decide, rfl⟩⟩
  cases hpl : placeB p
  · exact ⟨_, rfl, rfl, .inl ⟨by decide, rfl⟩⟩
  obtain ⟨hs, hpb, h10⟩ := regB_iff.1 hreg
  obtain ⟨k, k1, k2, k3, k4, _⟩ := findP_impl h10 hs p.Code
  have hlen := insL_len k2 (p := p)
  have hRi : ∀ x ∈ insL L k p, PlR x := fun x hx => by
    rcases insL_mem.1 hx with rfl | hx
    · exact hpR
    · exact hR x hx
  have hregi : regB (insL L k p) = (!(L.any (codeP p.Code)) && !((L.length : Int) == 10)) := by
    rw [Bool.eq_iff_iff, regB_iff, ins_sorted hs k3 k4, hlen, Bool.and_eq_true, Bool.not_eq_true', Bool.not_eq_true', beq_eq_false_iff_ne]
    constructor
    · rintro ⟨h1, _, h3⟩
      exact ⟨h1, by omega⟩
    · rintro ⟨h1, h3⟩
      refine ⟨h1, fun x hx => ?_, by omega⟩
      rcases insL_mem.1 hx with rfl | hx
      · exact hpl
      · exact hpb x hx
  simp only [Option.bind_some, Bool.not_true, cond_false, k1]
  rw [skip_loop hL k2 k3 k4, Option.bind_some, part_ok (by omega) (by omega) (by omega), Option.bind_some]
  simp only [Int.toNat_zero, List.drop_zero, Int.toNat_natCast, Nat.sub_zero]
  rw [app_ok (by simp; omega), Option.bind_some, List.nil_append, app_ok (by simp; omega), Option.bind_some, part_ok (by omega) (by omega) (by omega), Option.bind_some]
  simp only [Int.toNat_natCast]
  rw [List.take_of_length_le (l := L.drop k) (by rw [List.length_drop]; omega), app_ok (by simp; omega), Option.bind_some]
  show ∃ r, _ ∧ ((spec_IsRegister (insL L k p)).bind fun x17 => (bif (!x17) then some (([] : List Place), 5) else ((spec_l11Own (insL L k p)).bind fun x18 => some (x18, 0)))) = some r ∧ _
  rw [spec_isReg (by omega) hRi, Option.bind_some, hregi]
  cases hany : L.any (codeP p.Code)
  · cases h10b : ((L.length : Int) == 10)
    · rw [own_eq (by omega) hRi, cloneReg_eq hL hR, Option.bind_some, clone_eq hpR, Option.bind_some]
      unfold slices_Insert_Place
      rw [if_pos ⟨by omega, by omega, by omega, rfl⟩]
      refine ⟨_, rfl, rfl, .inr ⟨rfl, trivial, trivial, k, k2, rfl, ?_⟩⟩
      rw [hany, h10b] at hregi
      exact hregi
    · exact ⟨_, rfl, rfl, .inl ⟨by decide, rfl⟩⟩
  · exact ⟨_, rfl, rfl, .inl ⟨by decide, rfl⟩⟩
theorem l11List_G {s : l01Source} (hs : SrcOk s) : Gv (spec_l11List s) (fun r => ShPs 30 r.1 ∧ SrcOk r.2) := by
  unfold spec_l11List
  refine (Gv.next hs 7 (by omega)).bind fun x1 h1 => ?_
  refine Gv.bind (P := fun r : (List Place) × l01Source => ShPs 7 r.1 ∧ SrcOk r.2) ?_ fun j hj => ?_
  · refine Gv.lp (fun s : Int × (List Place) × l01Source => (0 ≤ s.1 ∧ s.1 ≤ 7) ∧ ShPs (7 - s.1.toNat) s.2.1 ∧ SrcOk s.2.2) (fun s => s.1.toNat) (fun s h => ?_) ⟨⟨h1.1.1, by show x1.1 ≤ 7; omega⟩, ⟨Nat.zero_le _, by simp⟩, h1.2⟩
    obtain ⟨⟨h0, h4⟩, h2, h3⟩ := h
    refine Gv.cond (fun hp => ?_) fun _ => .some ⟨h2.mono (by omega), h3⟩
    have hp' : s.1 > 0 := by simpa using hp
    have hl := h2.1
    rw [w64_id (n := s.1 - 1) (by omega) (by omega)]
    refine Gv.bind (P := fun r : (List Place) × l01Source => ShPs (7 - (s.1 - 1).toNat) r.1 ∧ SrcOk r.2) ?_ fun r hr => .some ⟨⟨⟨by show 0 ≤ s.1 - 1; omega, by show s.1 - 1 ≤ 7; omega⟩, hr.1, hr.2⟩, by show (s.1 - 1).toNat < s.1.toNat; omega⟩
    have hle : s.2.1.length + 1 ≤ 7 - (s.1 - 1).toNat := by omega
    have hle2 : 7 - s.1.toNat ≤ 7 - (s.1 - 1).toNat := by omega
    refine (l11Good_G h3).bind fun x8 h8 => ?_
    obtain ⟨r, _, r2, hr⟩ := addPlace_full (L := s.2.1) (by omega) h2.r h8.1.r
    rw [r2, Option.bind_some]
    refine Gv.cond (fun he => .some ⟨?_, h8.2⟩) fun _ => .some ⟨h2.mono hle2, h8.2⟩
    rcases hr with ⟨h5, _⟩ | ⟨_, _, _, k, hk, h6, _⟩
    · exact absurd (beq_iff_eq.1 he) h5
    · show ShPs _ r.1
      rw [h6]
      refine ⟨by rw [insL_len hk]; exact hle, fun x hx => ?_⟩
      rcases insL_mem.1 hx with rfl | hx
      · exact h8.1
      · exact h2.2 x hx
  · refine (Gv.next hj.2 24 (by omega)).bind fun x10 h10 => Gv.bind (P := fun r : (List Place) × l01Source => ShPs 30 r.1 ∧ SrcOk r.2) (Gv.cond (fun _ => ?_) fun _ => Gv.cond (fun _ => ?_) fun _ => .some ⟨hj.1.mono (by omega), h10.2⟩) fun r hr => .some hr
    · refine (l11Draw_G h10.2).bind fun x13 h13 => (Gv.app (by have := hj.1.1; simp; omega)).bind fun r hr => ?_
      subst hr
      exact .some ⟨(hj.1.snoc h13.1).mono (by omega), h13.2⟩
    · refine Gv.lp (fun s : Int × (List Place) × l01Source => (0 ≤ s.1 ∧ s.1 ≤ 12) ∧ ShPs (7 + s.1.toNat) s.2.1 ∧ SrcOk s.2.2) (fun s => 12 - s.1.toNat) (fun s h => ?_) ⟨⟨Int.le_refl _, by omega⟩, hj.1, h10.2⟩
      obtain ⟨⟨h0, h1'⟩, h2, h3⟩ := h
      refine Gv.bind (P := fun r : Bool × l01Source => (r.1 = true → s.1 < 12) ∧ SrcOk r.2) ?_ fun j18 h18 => Gv.cond (fun ht => ?_) fun _ => .some ⟨h2.mono (by omega), h18.2⟩
      · exact (Gv.next h3 2 (by omega)).bind fun a ha => Gv.cond (fun _ => .some ⟨fun h => by simpa using h, ha.2⟩) fun _ => .some ⟨fun h => (by cases h), ha.2⟩
      · have hlt := h18.1 ht
        have z : (ByteArray.mk #[97, 98, 99, 100, 101, 102, 103, 104, 105, 106, 107, 108]).size = 12 := rfl
        have z1 : (ByteArray.mk #[122]).size = 1 := rfl
        rw [w64_id (n := s.1 + 1) (by omega) (by omega)]
        refine Gv.bind (P := fun r : List Place => ShPs (7 + (s.1 + 1).toNat) r) ?_ fun r hr => .some ⟨⟨⟨by show 0 ≤ s.1 + 1; omega, by show s.1 + 1 ≤ 12; omega⟩, hr, h18.2⟩, by show 12 - (s.1 + 1).toNat < 12 - s.1.toNat; omega⟩
        refine (Gv.sub h0 (by omega) (by omega)).bind fun u hu => (Gv.cat (by omega)).bind fun v hv => (Gv.app (by have := h2.1; simp; omega)).bind fun r hr => ?_
        subst hr
        exact .some ((h2.snoc (x := Place.mk v 0 (Span.mk 1500 1600) []) ⟨by show v.size ≤ 100; omega, Nat.zero_le _, by simp⟩).mono (by omega))
theorem drawAdd_G {c : List Int} (hc : CodeOk c) : Gv (spec_DrawAddPlace c) (fun r => ShPs 30 r.1 ∧ ShP r.2) := by
  unfold spec_DrawAddPlace
  exact (Gv.from hc).bind fun s hs => (l11List_G hs).bind fun x2 h2 => (l11Draw_G h2.2).bind fun x3 h3 => .some ⟨h2.1, h3.1⟩
theorem codeOf_G {s : l01Source} (hs : SrcOk s) {L : List Place} (hL : ShPs 30 L) : Gv (spec_l11CodeOf s L) (fun r => r.1.size ≤ 100 ∧ SrcOk r.2) := by
  have hl := hL.1
  unfold spec_l11CodeOf
  refine Gv.bind (P := fun r : Bool × l01Source => (r.1 = true → 0 < L.length) ∧ SrcOk r.2) (Gv.cond (fun hp => (Gv.next hs 6 (by omega)).bind fun x1 h1 => .some ⟨fun _ => by have : (L.length : Int) > 0 := (by simpa using hp); omega, h1.2⟩) fun _ => .some ⟨fun h => (by cases h), hs⟩) fun j2 h2 => Gv.cond (fun ht => ?_) fun _ => ?_
  · exact (Gv.next h2.2 _ (by omega)).bind fun x4 h4 => Gv.bind (Gv.at (P := fun x : Place => x.Code.size ≤ 100) h4.1 (h2.1 ht) (fun x hx => (hL.2 x hx).1)) fun x5 h5 => .some ⟨h5, h4.2⟩
  · exact (Gv.next h2.2 4 (by omega)).bind fun x6 h6 => Gv.bind (Gv.at (P := fun x : ByteArray => x.size ≤ 100) ⟨h6.1.1, by simpa using h6.1.2⟩ (by simp) (by decide)) fun x7 h7 => .some ⟨h7, h6.2⟩
theorem yearOf_G {s : l01Source} (hs : SrcOk s) : Gv (spec_l11YearOf s) (fun r => SrcOk r.2) := by
  unfold spec_l11YearOf
  exact (Gv.next hs _ (by omega)).bind fun x1 h1 => (Gv.next h1.2 _ (by omega)).bind fun x2 h2 => (Gv.next h2.2 _ (by omega)).bind fun x3 h3 => (Gv.next h3.2 _ (by omega)).bind fun x4 h4 => (Gv.pick h4.2 (by simp) (by simp)).bind fun x5 h5 => .some h5.2
theorem drawFind_G {c : List Int} (hc : CodeOk c) : Gv (spec_DrawFindPlace c) (fun r => ShPs 30 r.1 ∧ r.2.size ≤ 100) := by
  unfold spec_DrawFindPlace
  exact (Gv.from hc).bind fun s hs => (l11List_G hs).bind fun x2 h2 => (codeOf_G h2.2 h2.1).bind fun x3 h3 => .some ⟨h2.1, h3.1⟩
theorem drawIn_G {c : List Int} (hc : CodeOk c) : Gv (spec_DrawPlacesIn c) (fun r => ShPs 30 r.1) := by
  unfold spec_DrawPlacesIn
  exact (Gv.from hc).bind fun s hs => (l11List_G hs).bind fun x2 h2 => (yearOf_G h2.2).bind fun x3 _ => .some h2.1
theorem drawEnd_G {c : List Int} (hc : CodeOk c) : Gv (spec_DrawEndPlace c) (fun r => ShPs 30 r.1 ∧ r.2.1.size ≤ 100) := by
  unfold spec_DrawEndPlace
  refine (Gv.from hc).bind fun s hs => (drawFind_G hc).bind fun x2 h2 => ?_
  have hl := h2.1.1
  rw [findP_spec (by omega), Option.bind_some]
  have hlt := idxP_lt (codeP x2.2) x2.1
  refine Gv.bind (P := fun r : Bool × l01Source => (r.1 = true → 0 ≤ idxP (codeP x2.2) x2.1) ∧ SrcOk r.2) (Gv.cond (fun hp => (Gv.next hs 4 (by omega)).bind fun x4 h4 => .some ⟨fun _ => by simpa using hp, h4.2⟩) fun _ => .some ⟨fun h => (by cases h), hs⟩) fun j5 h5 => Gv.cond (fun ht => ?_) fun _ => (yearOf_G h5.2).bind fun x13 _ => .some h2
  have h0 := h5.1 ht
  obtain ⟨q, hq⟩ : ∃ q, at' x2.1 (idxP (codeP x2.2) x2.1) = some q := by
    have := at_nat (L := x2.1) (idxP (codeP x2.2) x2.1).toNat
    rw [show (((idxP (codeP x2.2) x2.1).toNat : Nat) : Int) = idxP (codeP x2.2) x2.1 by omega] at this
    exact ⟨_, this.trans (List.getElem?_eq_getElem (by omega))⟩
  rw [hq, Option.bind_some]
  refine (Gv.next h5.2 100 (by omega)).bind fun x8 h8 => ?_
  rw [Option.bind_some, Option.bind_some, Option.bind_some]
  exact (Gv.pick h8.2 (by simp) (by simp)).bind fun x12 _ => .some h2
end Go.Proofs.YtpohkmbkohjahaaGreatDoor.Sh
