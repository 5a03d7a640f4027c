/- The draws of labels come to an answer; no condition but a short code. -/
import Derived.Test.YtnnpmbcamnnfgaaP4
namespace Go.Proofs.Ytnnpmbcamnnfgaa.Sh
open Go.RowKit
def CodeOk (c : List Int) : Prop := c.length ≤ 4096 ∧ ∀ x ∈ c, 0 ≤ x ∧ x < 256
theorem from_ok {c : List Int} (hc : CodeOk c) : ∃ s, spec_l01From c = some s ∧ SrcOk s := by
  unfold spec_l01From
  obtain ⟨r, h1, h2⟩ := loop_inv (body := fun (s3 : Int × l01Source) => (bif ((decide (s3.1 < (c.length : Int))) && (decide (s3.1 < 64))) then ((((at' c s3.1).bind fun x7 => some (l01Source.mk s3.2.code s3.2.at' (Int.tmod (w64 ((w64 (s3.2.seed * 73)) + (w64 x7))) 2147483647)))).bind fun (j5 : l01Source) => some (.inl ((w64 (s3.1 + 1)), j5))) else some (.inr s3.2)))
    (fun s => 0 ≤ s.1 ∧ s.1 ≤ 64 ∧ SrcOk s.2) (fun s => (64 - s.1).toNat) SrcOk (fun s hs => by
      obtain ⟨h0, h64, h1, h2, h3, h4, h5, h6⟩ := hs
      by_cases hb : s.1 < (c.length : Int) ∧ s.1 < 64
      · left
        obtain ⟨x, hx, hg⟩ := at_ok h0 hb.1
        have hxb := hc.2 x (List.mem_of_getElem? hg)
        have e1 : w64 (s.2.seed * 73) = s.2.seed * 73 := w64_id (by omega) (by omega)
        have e2 : w64 x = x := w64_id (by omega) (by omega)
        have e3 : w64 (s.2.seed * 73 + x) = s.2.seed * 73 + x := w64_id (by omega) (by omega)
        have e4 : w64 (s.1 + 1) = s.1 + 1 := w64_id (by omega) (by omega)
        refine ⟨(s.1 + 1, l01Source.mk s.2.code s.2.at' (Int.tmod (s.2.seed * 73 + x) 2147483647)), ?_, ⟨?_, ?_, h1, h2, h3, h4, ?_, ?_⟩, ?_⟩
        · simp only [hb.1, hb.2, decide_true, Bool.and_self, cond_true, hx, Option.bind_some, e1, e2, e3, e4]
        · dsimp only; omega
        · dsimp only; omega
        · dsimp only
          rw [Int.tmod_eq_emod_of_nonneg (by omega)]; omega
        · dsimp only
          rw [Int.tmod_eq_emod_of_nonneg (by omega)]; omega
        · dsimp only; omega
      · right
        refine ⟨s.2, ?_, h1, h2, h3, h4, h5, h6⟩
        have : (decide (s.1 < (c.length : Int)) && decide (s.1 < 64)) = false := by
          rw [Bool.and_eq_false_iff]
          by_cases h7 : s.1 < (c.length : Int)
          · exact .inr (by simp; omega)
          · exact .inl (by simpa using h7)
        simp only [this, cond_false]) (s := (0, l01Source.mk c 0 51031)) ⟨by simp, by simp, by simp, by simp, hc.1, hc.2, by simp, by simp⟩
  rw [h1]
  exact ⟨r, rfl, h2⟩
theorem pick_ok {s : l01Source} (hs : SrcOk s) {l : List Int} (hl : l ≠ []) (hl2 : l.length ≤ 4096) : ∃ x s', spec_l01Pick s l = some (x, s') ∧ x ∈ l ∧ SrcOk s' := by
  unfold spec_l01Pick
  have h0 : 0 < l.length := List.length_pos_iff.2 hl
  obtain ⟨x, s', h1, h2, h3, h4⟩ := next_ok hs (l.length : Int) (by omega)
  rw [h1, Option.bind_some]
  obtain ⟨y, hy, hg⟩ := at_ok (L := l) h2 (by omega)
  rw [hy]
  exact ⟨y, s', rfl, List.mem_of_getElem? hg, h4⟩
theorem draw_ok {s : l01Source} (hs : SrcOk s) : ∃ L s', spec_l33Draw s = some (L, s') ∧ L.length ≤ 8 ∧ SrcOk s' := by
  unfold spec_l33Draw
  obtain ⟨n, s1, h1, h2, h3, h4⟩ := next_ok hs 7 (by omega)
  rw [h1, Option.bind_some]
  dsimp only
  generalize hl : loop _ _ = m
  have hm : ∃ r, m = some r ∧ r.1.length ≤ 7 ∧ SrcOk r.2 := by
    rw [← hl]
    refine loop_inv (fun (s : Int × List Label × l01Source) => s.1 ≤ 7 ∧ (s.2.1.length : Int) + s.1 ≤ 7 ∧ (s.2.1.length ≤ 7) ∧ SrcOk s.2.2) (fun s => s.1.toNat) (fun (r : List Label × l01Source) => r.1.length ≤ 7 ∧ SrcOk r.2) (fun s hs => ?_) ⟨by omega, by simp; omega, by simp, h4⟩
    obtain ⟨h5, h6, h7, h8⟩ := hs
    by_cases hb : s.1 > 0
    · left
      obtain ⟨y1, t1, k1, l1, m1, n1⟩ := next_ok h8 9 (by omega)
      obtain ⟨y2, t2, k2, l2, m2, n2⟩ := next_ok n1 4 (by omega)
      obtain ⟨y3, t3, k3, l3, m3, n3⟩ := next_ok n2 6 (by omega)
      obtain ⟨y4, t4, k4, l4, m4, n4⟩ := next_ok n3 4 (by omega)
      have e1 : w64 (s.1 - 1) = s.1 - 1 := w64_id (by omega) (by omega)
      simp only [hb, decide_true, cond_true, k1, k2, k3, k4, Option.bind_some, app_ok (show ([] : List Label).length + s.2.1.length ≤ 68719476736 by simp; omega), List.nil_append, e1]
      rw [app_ok (by simp; omega), Option.bind_some, spec_areLabels _ (by simp; omega), Option.bind_some]
      cases areLabs _
      · exact ⟨_, rfl, ⟨by dsimp only; omega, by dsimp only; omega, h7, n4⟩, by dsimp only; omega⟩
      · exact ⟨_, rfl, ⟨by dsimp only; omega, by simp; omega, by simp; omega, n4⟩, by dsimp only; omega⟩
    · right
      exact ⟨(s.2.1, s.2.2), by simp [hb], h7, h8⟩
  clear hl
  obtain ⟨r, rfl, h5, h6⟩ := hm
  rw [Option.bind_some]
  by_cases hp : (r.1.length : Int) > 0
  · obtain ⟨i, t1, k1, l1, m1, n1⟩ := next_ok h6 (r.1.length : Int) (by omega)
    obtain ⟨z, t2, k2, l2, m2, n2⟩ := next_ok n1 30 (by omega)
    have hi : i < r.1.length := by omega
    obtain ⟨x, hx, hg⟩ := at_ok (L := r.1) l1 hi
    simp only [hp, decide_true, cond_true, k1, k2, Option.bind_some, hx]
    cases z == 0
    · cases z == 1
      · cases z == 2
        · cases z == 3
          · exact ⟨_, _, rfl, by dsimp only; omega, n2⟩
          · obtain ⟨y, t3, k3, _, n3⟩ := pick_ok n2 (l := [1000, 1001]) (by simp) (by simp)
            simp only [cond_true, cond_false, k3, Option.bind_some]
            exact ⟨_, _, rfl, by simp; omega, n3⟩
        · simp only [cond_true, cond_false]
          rw [app_ok (by simp; omega)]
          exact ⟨_, _, rfl, by simp; omega, n2⟩
      · obtain ⟨y, t3, k3, _, n3⟩ := pick_ok n2 (l := [0, 9, 10]) (by simp) (by simp)
        simp only [cond_true, cond_false, k3, Option.bind_some]
        exact ⟨_, _, rfl, by simp; omega, n3⟩
    · obtain ⟨y, t3, k3, _, n3⟩ := pick_ok n2 (l := [0, 20, 21]) (by simp) (by simp)
      simp only [cond_true, cond_false, k3, Option.bind_some]
      exact ⟨_, _, rfl, by simp; omega, n3⟩
  · simp only [hp, decide_false, cond_false, Option.bind_some]
    exact ⟨_, _, rfl, by omega, h6⟩
end Go.Proofs.Ytnnpmbcamnnfgaa.Sh
