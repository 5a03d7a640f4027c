/- The law FnLabels answers true; no condition but the bounds of its argument's type. -/
import Derived.Test.YtlhllbiikideeaaLB9
import Derived.Test.YtlhllbiikideeaaR1
namespace Go.Proofs.Ytlhllbiikideeaa.Sh
open Go.RowKit Go.Lib
theorem l33Draw_G {s : l01Source} (hs : SrcOk s) : Gv (spec_l33Draw s) (fun r => r.1.length ≤ 7 ∧ SrcOk r.2) := by
  unfold spec_l33Draw
  refine (Gv.next hs 7 (by omega)).bind fun x1 h1 => ?_
  refine Gv.bind (P := fun r : (List Label) × l01Source => r.1.length ≤ 6 ∧ SrcOk r.2) ?_ fun j hj => ?_
  · refine Gv.lp (fun s : Int × (List Label) × l01Source => (0 ≤ s.1 ∧ s.1 ≤ 6) ∧ s.2.1.length ≤ 6 - s.1.toNat ∧ SrcOk s.2.2) (fun s => s.1.toNat) (fun s h => ?_) ⟨⟨h1.1.1, by show x1.1 ≤ 6; omega⟩, Nat.zero_le _, h1.2⟩
    obtain ⟨⟨h0, h4⟩, h2, h3⟩ := h
    refine Gv.cond (fun hp => ?_) fun _ => .some ⟨by show s.2.1.length ≤ 6; omega, h3⟩
    have hp' : s.1 > 0 := by simpa using hp
    rw [w64_id (n := s.1 - 1) (by omega) (by omega)]
    refine Gv.bind (P := fun r : (List Label) × l01Source => r.1.length ≤ 6 - (s.1 - 1).toNat ∧ SrcOk r.2) ?_ fun r hr => .some ⟨⟨⟨by show 0 ≤ s.1 - 1; omega, by show s.1 - 1 ≤ 6; omega⟩, hr.1, hr.2⟩, by show (s.1 - 1).toNat < s.1.toNat; omega⟩
    refine (Gv.next h3 9 (by omega)).bind fun x8 h8 => (Gv.next h8.2 4 (by omega)).bind fun x9 h9 => (Gv.next h9.2 6 (by omega)).bind fun x10 h10 => (Gv.next h10.2 4 (by omega)).bind fun x11 h11 => ?_
    refine (Gv.app (by simp; omega)).bind fun a ha => (Gv.app (by rw [ha]; simp; omega)).bind fun b hb => ?_
    have hbl : b.length = s.2.1.length + 1 := by rw [hb, ha]; simp
    rw [spec_labs (by omega), Option.bind_some]
    exact Gv.cond (fun _ => .some ⟨by show b.length ≤ 6 - (s.1 - 1).toNat; omega, h11.2⟩) fun _ => .some ⟨by show s.2.1.length ≤ 6 - (s.1 - 1).toNat; omega, h11.2⟩
  · refine Gv.bind (P := fun r : (List Label) × l01Source => r.1.length ≤ 7 ∧ SrcOk r.2) (Gv.cond (fun hp => ?_) fun _ => .some ⟨by show j.1.length ≤ 7; omega, hj.2⟩) fun r hr => .some hr
    have hp' : 0 < j.1.length := by simpa using hp
    refine (Gv.next hj.2 _ (by omega)).bind fun x17 h17 => (Gv.next h17.2 30 (by omega)).bind fun x18 h18 => ?_
    refine Gv.cond (fun _ => ?_) fun _ => Gv.cond (fun _ => ?_) fun _ => Gv.cond (fun _ => ?_) fun _ => Gv.cond (fun _ => ?_) fun _ => .some ⟨by show j.1.length ≤ 7; omega, h18.2⟩
    · exact (Gv.pick h18.2 (by simp) (by simp)).bind fun x19 h19 => (Gv.at (P := fun _ => True) h17.1 hp' (fun _ _ => trivial)).bind fun x20 _ => .some ⟨by show (List.set _ _ _).length ≤ 7; simp; omega, h19.2⟩
    · exact (Gv.pick h18.2 (by simp) (by simp)).bind fun x19 h19 => (Gv.at (P := fun _ => True) h17.1 hp' (fun _ _ => trivial)).bind fun x20 _ => .some ⟨by show (List.set _ _ _).length ≤ 7; simp; omega, h19.2⟩
    · exact (Gv.at (P := fun _ => True) h17.1 hp' (fun _ _ => trivial)).bind fun x23 _ => (Gv.app (by simp; omega)).bind fun r hr => .some ⟨by show r.length ≤ 7; rw [hr]; simp; omega, h18.2⟩
    · exact (Gv.pick h18.2 (by simp) (by simp)).bind fun x19 h19 => (Gv.at (P := fun _ => True) h17.1 hp' (fun _ _ => trivial)).bind fun x20 _ => .some ⟨by show (List.set _ _ _).length ≤ 7; simp; omega, h19.2⟩
theorem drawBestP_G {c : List Int} (hc : CodeOk c) : Gv (spec_DrawBestPlacement c) (fun r => r.length ≤ 7) := by
  unfold spec_DrawBestPlacement
  exact (Gv.from hc).bind fun s hs => (l33Draw_G hs).bind fun x h => .some h.1
theorem drawClear_G {c : List Int} (hc : CodeOk c) : Gv (spec_DrawIsClear c) (fun r => r.1.length ≤ 7 ∧ r.2.length ≤ 20) := by
  unfold spec_DrawIsClear spec_l33Positions
  refine Gv.bind (P := fun r : (List Label) × (List Int) => r.1.length ≤ 7 ∧ r.2.length ≤ 20) ?_ fun r hr => .some hr
  refine (Gv.from hc).bind fun s hs => (l33Draw_G hs).bind fun x2 h2 => ?_
  rw [spec_bestV (by omega), Option.bind_some]
  have hb : ∀ b : Bool, (b = true → ((bestV x2.1).2 == 0) = true) → b = true → (bestV x2.1).1.length = x2.1.length := fun b h hbt => by
    have h3 := h hbt
    unfold bestV at h3 ⊢
    cases hl : labsB x2.1
    · rw [hl] at h3; cases h3
    · exact (bestP_in hl).1.len
  refine Gv.bind (P := fun r : l01Source × (List Int) => SrcOk r.1 ∧ r.2.length ≤ 10) ?_ fun j4 h4 => ?_
  · refine Gv.lp (fun s : Int × l01Source × (List Int) => (0 ≤ s.1 ∧ s.1 ≤ 7) ∧ SrcOk s.2.1 ∧ s.2.2.length ≤ s.1.toNat) (fun s => 7 - s.1.toNat) (fun s h => ?_) ⟨⟨Int.le_refl _, by show (0 : Int) ≤ 7; omega⟩, h2.2, Nat.le_refl _⟩
    obtain ⟨⟨h0, h7⟩, h3, h5⟩ := h
    refine Gv.cond (fun hp => ?_) fun _ => .some ⟨h3, by show s.2.2.length ≤ 10; omega⟩
    have hp' : s.1 < x2.1.length := by simpa using hp
    rw [w64_id (n := s.1 + 1) (by omega) (by omega)]
    refine Gv.bind (P := fun r : (List Int) × l01Source => r.1.length ≤ (s.1 + 1).toNat ∧ SrcOk r.2) ?_ fun r hr => .some ⟨⟨⟨by show 0 ≤ s.1 + 1; omega, by show s.1 + 1 ≤ 7; omega⟩, hr.2, hr.1⟩, by show 7 - (s.1 + 1).toNat < 7 - s.1.toNat; omega⟩
    refine Gv.bind (P := fun r : Bool × l01Source => (r.1 = true → ((bestV x2.1).2 == 0) = true) ∧ SrcOk r.2) (Gv.cond (fun hz => (Gv.next h3 4 (by omega)).bind fun x10 h10 => .some ⟨fun _ => hz, h10.2⟩) fun _ => .some ⟨fun h => (by cases h), h3⟩) fun j11 h11 => Gv.cond (fun ht => ?_) fun _ => ?_
    · have h8 := hb j11.1 h11.1 ht
      refine Gv.bind (Gv.at (P := fun _ => True) (L := (bestV x2.1).1) ⟨h0, .inl (by omega)⟩ (by omega) (fun _ _ => trivial)) fun x13 _ => (Gv.app (by simp; omega)).bind fun r hr => .some ⟨by show r.length ≤ (s.1 + 1).toNat; rw [hr]; simp; omega, h11.2⟩
    · exact (Gv.next h11.2 5 (by omega)).bind fun x15 h15 => (Gv.app (by simp; omega)).bind fun r hr => .some ⟨by show r.length ≤ (s.1 + 1).toNat; rw [hr]; simp; omega, h15.2⟩
  · refine (Gv.next h4.1 24 (by omega)).bind fun x17 h17 => Gv.bind (P := fun r : List Int => r.length ≤ 20) ?_ fun r hr => .some ⟨h2.1, hr⟩
    refine Gv.cond (fun _ => (Gv.app (by simp; omega)).bind fun r hr => .some (by rw [hr]; simp; omega)) fun _ => Gv.cond (fun _ => Gv.cond (fun hp => ?_) fun _ => .some (by omega)) fun _ => .some (by omega)
    have hp' : 0 < j4.2.length := by simpa using hp
    exact (Gv.pick h17.2 (by simp) (by simp)).bind fun x21 h21 => (Gv.at (P := fun _ => True) ⟨Int.le_refl _, .inr rfl⟩ hp' (fun _ _ => trivial)).bind fun _ _ => .some (by simp; omega)
theorem greedy_in {L : List Label} (h : labsB L = true) : PIn L (greedy L).1 ∧ clearB (alL L) (clL L) (greedy L).1 = true := by
  obtain ⟨h6, hA⟩ := labsB_in h
  unfold greedy
  rw [h, cond_true]
  have key : ∀ (M : List Nat) (P : List Int), (∀ i ∈ M, i < P.length) → PIn L P → clearB (alL L) (clL L) P = true → PIn L (M.foldl (firstFit (alL L) (clL L)) P) ∧ clearB (alL L) (clL L) (M.foldl (firstFit (alL L) (clL L)) P) = true := by
    intro M
    induction M with
    | nil => exact fun P _ h1 h2 => ⟨h1, h2⟩
    | cons i M ih =>
      intro P hM h1 h2
      rw [List.foldl_cons]
      exact ih _ (fun k hk => by rw [fit_len]; exact hM k (List.mem_cons_of_mem _ hk)) (pin_fit h1 i) (fit_clear (clL_sym hA) h2 (hM i List.mem_cons_self))
  exact key _ _ (fun i hi => by simpa using ord_mem hi) (pin_start h6 hA) (clear_start hA)
theorem greedy_le {L : List Label} (h : labsB L = true) : scoB L (greedy L).1 ≤ scoB L (bestP L) := by
  obtain ⟨h6, hA⟩ := labsB_in h
  obtain ⟨h1, h2⟩ := greedy_in h
  refine (firstMax_max (scoB L) _ _ _ (bestP_some (L := L))).1 _ ?_
  have := comps_all (clL_sym hA) h2 h1.pos L.length 0 (by have := h1.len; omega)
  simpa using this
theorem FnLabels_true (c : List Int) (h : c.length ≤ maxLen ∧ ∀ x ∈ c, okU8 x) : laws_FnLabels c = some true := by
  unfold laws_FnLabels laws_big
  rw [Option.bind_some]
  by_cases hb : (c.length : Int) > 4096
  · rw [decide_eq_true hb]
    rfl
  rw [decide_eq_false hb, cond_false]
  have hc : CodeOk c := ⟨by omega, h.2⟩
  obtain ⟨L, e2, h2⟩ := drawBestP_G hc
  obtain ⟨d7, e7, h7, h7'⟩ := drawClear_G hc
  have l2 : L.length ≤ 1048576 := by omega
  have l7 : d7.1.length ≤ 1048576 := by omega
  have p7 : d7.2.length ≤ 1048576 := by omega
  obtain ⟨k, k1, k2, k3, k4, k5⟩ := clashes_G l7 p7
  have hg : (greedy L).1.length ≤ 6 := by
    cases hl : labsB L
    · unfold greedy
      rw [hl]
      simp
    · rw [(greedy_in hl).1.len]
      exact (labsB_in hl).1
  have hbl : (bestV L).1.length ≤ 6 := by
    unfold bestV
    cases hl : labsB L
    · simp
    · have := (bestP_in hl).1
      have h8 := this.len
      have h9 := this.six
      rw [cond_true]
      show (bestP L).length ≤ 6
      omega
  rw [e2, Option.bind_some, impl_bestV l2, Option.bind_some, spec_bestV l2, Option.bind_some, impl_greedy l2, Option.bind_some, spec_greedy l2, Option.bind_some, e7, Option.bind_some, impl_cleV l7 p7, Option.bind_some, spec_cleV l7 p7, Option.bind_some, impl_scoV l7 p7, Option.bind_some, spec_scoV l7 p7, Option.bind_some, k1, Option.bind_some, k2, Option.bind_some]
  have h5 : ((labsB L) == ((bestV L).2 == 0)) = true := by
    unfold bestV
    cases labsB L <;> rfl
  have h6 : ((greedy L).2 != (bestV L).2) = false := by
    unfold bestV greedy
    cases labsB L <;> rfl
  simp only [bne_self_eq_false, beq_self_eq_true, Bool.not_true, cond_false, likeInts_self _ (show (bestV L).1.length ≤ 1048576 by omega), likeInts_self _ (show (greedy L).1.length ≤ 1048576 by omega), likeTables_self k.1 (by omega) (fun x hx => by have := k4 x hx; omega), Option.bind_some, impl_labs l2, h5, h6]
  have z1 : ((cleV d7.1 d7.2).2 == 0 && ((cleV d7.1 d7.2).1 && decide ((k.1.length : Int) > 0))) = false := by
    unfold cleV
    cases hz : (plcC d7.1 d7.2 != 0)
    · rw [cond_false]
      cases hcl : clearB (alL d7.1) (clL d7.1) d7.2
      · simp
      · have hz' : plcC d7.1 d7.2 = 0 := by simpa using hz
        rw [k5 hz' hcl]
        rfl
    · simp
  rw [z1, cond_false]
  cases hl : labsB L
  · unfold bestV
    rw [hl]
    rfl
  · have e : bestV L = (bestP L, 0) := by unfold bestV; rw [hl]; rfl
    obtain ⟨b1, b2⟩ := bestP_in hl
    obtain ⟨g1, g2⟩ := greedy_in hl
    have hbp : (bestP L).length ≤ 1048576 := by have := b1.len; omega
    have hgp : (greedy L).1.length ≤ 1048576 := by omega
    rw [e]
    simp only [bne_self_eq_false, cond_false]
    rw [impl_cleV l2 hbp, Option.bind_some, impl_cleV l2 hgp, Option.bind_some, impl_scoV l2 hbp, Option.bind_some, impl_scoV l2 hgp, Option.bind_some]
    unfold cleV scoV
    rw [plc_zero hl b1, plc_zero hl g1, b2, g2]
    simp only [bne_self_eq_false, cond_false, beq_self_eq_true, Bool.true_and]
    rw [decide_eq_true (greedy_le hl)]
end Go.Proofs.Ytlhllbiikideeaa.Sh
