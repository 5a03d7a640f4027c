/- Plain laws: what a point satisfies, counts, answers, of both; bounds on lengths, sites and candidates as described. -/
import Derived.Test.YtodgenjlhiiieaaGreatDoorBLC4
import Derived.Test.YtodgenjlhiiieaaGreatDoorBLC5
import Derived.Test.YtodgenjlhiiieaaGreatDoorBN5
namespace Go.Proofs.YtodgenjlhiiieaaGreatDoor.Sh
open Go.RowKit Go.Lib
theorem hasPrefix_eq (s p : ByteArray) : strings_HasPrefix s p = some (decide (p.size ≤ s.size) && (s.data.toList.take p.size == p.data.toList)) := by
  unfold strings_HasPrefix internal_stringslite_HasPrefix
  by_cases h : p.size ≤ s.size
  · rw [decide_eq_true (show (s.size : Int) ≥ (p.size : Int) by omega), decide_eq_true h]
    have := sub_ok (s := s) (a := 0) (b := p.size) (Nat.zero_le _) h
    rw [show ((0 : Nat) : Int) = 0 from rfl] at this
    simp only [cond_true, this, Option.bind_some, toList_eq, List.drop_zero, Nat.sub_zero, Bool.true_and]
  · rw [decide_eq_false (show ¬ (s.size : Int) ≥ (p.size : Int) by omega), decide_eq_false h]
    rfl
theorem impl_steps (d : Description) (hu : unitB d.Unit d.Count = true) (h1 : 1 ≤ d.Count) (h2 : d.Count ≤ 99) : impl_Description_steps d = some (d.Count * unitN d.Unit d.Count) := by
  unfold impl_Description_steps
  rw [hasPrefix_eq, Option.bind_some]
  unfold unitB unitN at *
  have e1 : w64 (4 * d.Count) = d.Count * 4 := by rw [w64_abs (by omega)]; omega
  have e2 : w64 (12 * d.Count) = d.Count * 12 := by rw [w64_abs (by omega)]; omega
  cases hc : (d.Count == 1)
  · rw [hc, cond_false, Bool.or_eq_true, beqL, beqL] at hu
    rcases hu with hu | hu
    · rw [hu, show (decide (tMile.size ≤ tMiles.size) && (tMiles.data.toList.take tMile.size == tMile.data.toList)) = true from rfl, beqL.2 rfl]
      simp only [cond_true, cond_false, e1]
    · have : (tLeagues.toList == tMiles.toList) = false := by rw [q_leagues, q_miles]; rfl
      rw [hu, show (decide (tMile.size ≤ tLeagues.size) && (tLeagues.data.toList.take tMile.size == tMile.data.toList)) = false from rfl, beqL.2 rfl, this]
      simp only [cond_true, cond_false, e2]
  · rw [hc, cond_true, Bool.or_eq_true, beqL, beqL] at hu
    rcases hu with hu | hu
    · rw [hu, show (decide (tMile.size ≤ tMile.size) && (tMile.data.toList.take tMile.size == tMile.data.toList)) = true from rfl, beqL.2 rfl]
      simp only [cond_true, e1]
    · have : (tLeague.toList == tMile.toList) = false := by rw [q_league, q_mile]; rfl
      rw [hu, show (decide (tMile.size ≤ tLeague.size) && (tLeague.data.toList.take tMile.size == tMile.data.toList)) = false from rfl, beqL.2 rfl, this]
      simp only [cond_true, cond_false, e2]
def samP (a p : Point) : Bool := (p.X == a.X) && (p.Y == a.Y)
theorem samP_not {a p : Point} (h : samP a p = false) : ¬ (p.X = a.X ∧ p.Y = a.Y) := by
  unfold samP at h
  rw [Bool.and_eq_false_iff] at h
  simp only [beq_eq_false_iff_ne] at h
  omega
/-- The turn from one direction to another, from 0 to 7. -/
def offN (x y : Int) : Int := (x - y) % 8
def nearOff (t : Int) : Bool := (t == 0) || ((t == 1) || (t == 7))
def fromB (d : Description) (a p : Point) : Bool := !samP a p && (inB (16 * sqN a p) (9 * (d.Count * unitN d.Unit d.Count) * (d.Count * unitN d.Unit d.Count)) (25 * (d.Count * unitN d.Unit d.Count) * (d.Count * unitN d.Unit d.Count)) && nearOff (offN (dirN (p.X - a.X) (p.Y - a.Y)) d.Direction))
theorem unitN_le (u : ByteArray) (c : Int) : 0 ≤ unitN u c ∧ unitN u c ≤ 12 := by
  unfold unitN
  cases (c == 1) <;> simp only [cond_true, cond_false]
  · cases (u.toList == tMiles.toList) <;> cases (u.toList == tLeagues.toList) <;> simp
  · cases (u.toList == tMile.toList) <;> cases (u.toList == tLeague.toList) <;> simp
theorem off_impl {x y : Int} (hx : 0 ≤ x ∧ x ≤ 7) (hy : 0 ≤ y ∧ y ≤ 7) : Int.tmod (w64 ((w64 (x - y)) + 8)) 8 = offN x y := by
  rw [w64_abs (x := x - y) (by omega), w64_abs (by omega), Int.tmod_eq_emod_of_nonneg (by omega)]
  unfold offN
  omega
theorem off_spec {x y : Int} (hx : 0 ≤ x ∧ x ≤ 7) (hy : 0 ≤ y ∧ y ≤ 7) : spec_l01Mod (w64 (x - y)) 8 = some (offN x y) := by
  unfold spec_l01Mod
  rw [nz_ok (by decide), Option.bind_some, Option.bind_some, w64_abs (x := x - y) (by omega)]
  congr 1
  unfold offN
  have h1 : Int.tmod (x - y) 8 = x - y := by
    rcases Int.le_total 0 (x - y) with h | h
    · rw [Int.tmod_eq_emod_of_nonneg h]; omega
    · have := Int.neg_tmod (x - y) 8
      have h2 : Int.tmod (-(x - y)) 8 = -(x - y) := by rw [Int.tmod_eq_emod_of_nonneg (by omega)]; omega
      rw [h2] at this
      omega
  rw [h1, w64_abs (by omega), Int.tmod_eq_emod_of_nonneg (by omega)]
  omega
section
variable {a b p : Point} {d : Description}
theorem way_bound (hu : 1 ≤ d.Count ∧ d.Count ≤ 99) : 0 ≤ d.Count * unitN d.Unit d.Count ∧ (d.Count * unitN d.Unit d.Count).natAbs ≤ 1188 := by
  have h := unitN_le d.Unit d.Count
  exact ⟨Int.mul_nonneg (by omega) h.1, mulb (m := 99) (n := 12) (by omega) (by omega)⟩
theorem impl_from (ha : ptB a = true) (hp : ptB p = true) (hu : unitB d.Unit d.Count = true) (h1 : 1 ≤ d.Count ∧ d.Count ≤ 99) (h2 : 0 ≤ d.Direction ∧ d.Direction ≤ 7) : impl_Description_isFrom d a p = some (fromB d a p) := by
  unfold impl_Description_isFrom fromB
  obtain ⟨w0, w1⟩ := way_bound h1
  obtain ⟨s0, s1⟩ := sq_bound ha hp
  rw [impl_steps d hu h1.1 h1.2, Option.bind_some, impl_sq ha hp, Option.bind_some, show ((p.X == a.X) && (p.Y == a.Y)) = samP a p from rfl]
  generalize hn : d.Count * unitN d.Unit d.Count = n at *
  have b1 := mulb (x := 9 * n) (y := n) (m := 10692) (n := 1188) (by omega) (by omega)
  have b2 := mulb (x := 25 * n) (y := n) (m := 29700) (n := 1188) (by omega) (by omega)
  rw [w64_abs (x := 16 * sqN a p) (by omega), w64_abs (x := 9 * n) (by omega), w64_abs (x := 25 * n) (by omega), w64_abs (x := 9 * n * n) (by omega), w64_abs (x := 25 * n * n) (by omega), within_eq]
  cases hs : samP a p with
  | true => rfl
  | false =>
    rw [impl_dir ha hp (samP_not hs)]
    simp only [cond_false, Option.bind_some, off_impl (dirN_range _ _) h2]
    cases inB (16 * sqN a p) (9 * n * n) (25 * n * n) <;> rfl
theorem spec_from_tail (ha : ptB a = true) (hp : ptB p = true) (h1 : 1 ≤ d.Count ∧ d.Count ≤ 99) (h2 : 0 ≤ d.Direction ∧ d.Direction ≤ 7) {R : Type} :
    (bif ((decide ((w64 (16 * sqN a p)) < (w64 ((w64 (9 * (w64 (d.Count * unitN d.Unit d.Count)))) * (w64 (d.Count * unitN d.Unit d.Count)))))) || ((decide ((w64 (16 * sqN a p)) > (w64 ((w64 (25 * (w64 (d.Count * unitN d.Unit d.Count)))) * (w64 (d.Count * unitN d.Unit d.Count)))))) || ((p.X == a.X) && (p.Y == a.Y)))) then some (Sum.inr false : R ⊕ Bool) else ((spec_l15Direction a p).bind fun x7 => ((spec_l01Mod (w64 (x7 - d.Direction)) 8).bind fun x8 => some (.inr ((x8 == 0) || ((x8 == 1) || (x8 == 7))))))) = some (.inr (fromB d a p)) := by
  obtain ⟨w0, w1⟩ := way_bound h1
  obtain ⟨s0, s1⟩ := sq_bound ha hp
  unfold fromB
  rw [show ((p.X == a.X) && (p.Y == a.Y)) = samP a p from rfl]
  generalize hn : d.Count * unitN d.Unit d.Count = n at *
  have b1 := mulb (x := 9 * n) (y := n) (m := 10692) (n := 1188) (by omega) (by omega)
  have b2 := mulb (x := 25 * n) (y := n) (m := 29700) (n := 1188) (by omega) (by omega)
  rw [w64_abs (x := 16 * sqN a p) (by omega), w64_abs (x := n) (by omega), w64_abs (x := 9 * n) (by omega), w64_abs (x := 25 * n) (by omega), w64_abs (x := 9 * n * n) (by omega), w64_abs (x := 25 * n * n) (by omega), spec_dir ha hp, Option.bind_some, off_spec (dirN_range _ _) h2, Option.bind_some]
  rw [show inB (16 * sqN a p) (9 * n * n) (25 * n * n) = !(decide (16 * sqN a p < 9 * n * n) || decide (16 * sqN a p > 25 * n * n)) by
    rw [Bool.eq_iff_iff, inB_iff]
    simp <;> omega]
  rw [show ((offN (dirN (p.X - a.X) (p.Y - a.Y)) d.Direction == 0) || ((offN (dirN (p.X - a.X) (p.Y - a.Y)) d.Direction == 1) || (offN (dirN (p.X - a.X) (p.Y - a.Y)) d.Direction == 7))) = nearOff (offN (dirN (p.X - a.X) (p.Y - a.Y)) d.Direction) from rfl]
  generalize decide (16 * sqN a p < 9 * n * n) = q1
  generalize decide (16 * sqN a p > 25 * n * n) = q2
  generalize nearOff (offN (dirN (p.X - a.X) (p.Y - a.Y)) d.Direction) = q3
  cases q1 <;> cases q2 <;> cases samP a p <;> cases q3 <;> rfl
def alongN (a b p : Point) : Int := (p.X - a.X) * (b.X - a.X) + (p.Y - a.Y) * (b.Y - a.Y)
def betwB (a b p : Point) : Bool := bif samP b a then samP a p else inB (alongN a b p) 0 (sqN a b) && decide (4 * absI (tuN a b p) ≤ sqN a b)
theorem along_w (ha : ptB a = true) (hb : ptB b = true) (hp : ptB p = true) : w64 ((w64 ((w64 (p.X - a.X)) * (w64 (b.X - a.X)))) + (w64 ((w64 (p.Y - a.Y)) * (w64 (b.Y - a.Y))))) = alongN a b p := by
  have h1 := ptB_ok ha
  have h2 := ptB_ok hp
  have h3 := ptB_ok hb
  have b1 := mulb (x := p.X - a.X) (y := b.X - a.X) (m := 2000) (n := 2000) (by omega) (by omega)
  have b2 := mulb (x := p.Y - a.Y) (y := b.Y - a.Y) (m := 2000) (n := 2000) (by omega) (by omega)
  rw [w64_abs (x := p.X - a.X) (by omega), w64_abs (x := b.X - a.X) (by omega), w64_abs (x := p.Y - a.Y) (by omega), w64_abs (x := b.Y - a.Y) (by omega), w64_abs (x := (p.X - a.X) * (b.X - a.X)) (by omega), w64_abs (x := (p.Y - a.Y) * (b.Y - a.Y)) (by omega), w64_abs (by omega)]
  rfl
theorem impl_betw (ha : ptB a = true) (hb : ptB b = true) (hp : ptB p = true) : impl_isBetween a b p = some (betwB a b p) := by
  unfold impl_isBetween betwB
  have ht := tu_bound ha hb hp
  have hab : (absI (tuN a b p)).natAbs ≤ 8000000 := by unfold absI; split <;> omega
  rw [show ((a.X == b.X) && (a.Y == b.Y)) = samP b a from rfl, along_w ha hb hp, impl_sq ha hb, impl_tu ha hb hp]
  simp only [Option.bind_some, within_eq, impl_abs_eq (show (tuN a b p).natAbs ≤ 1000000000 by omega), w64_abs (show (4 * absI (tuN a b p)).natAbs ≤ 1000000000000000000 by omega)]
  cases samP b a
  · cases inB (alongN a b p) 0 (sqN a b) <;> rfl
  · rfl
theorem sq_le (t A : Int) (hA : 0 ≤ A) : decide (16 * t * t ≤ A * A) = decide (4 * absI t ≤ A) := by
  have e1 : 16 * t * t = (4 * absI t) * (4 * absI t) := by
    have : absI t * absI t = t * t := by
      unfold absI
      split
      · rw [Int.neg_mul_neg]
      · rfl
    rw [show (4 * absI t) * (4 * absI t) = 16 * (absI t * absI t) by rw [Int.mul_assoc, show absI t * (4 * absI t) = 4 * (absI t * absI t) from Int.mul_left_comm _ _ _]; omega, this, Int.mul_assoc]
  have h0 : 0 ≤ 4 * absI t := by unfold absI; split <;> omega
  rw [e1]
  generalize 4 * absI t = x at *
  obtain ⟨m, rfl⟩ := Int.eq_ofNat_of_zero_le h0
  obtain ⟨n, rfl⟩ := Int.eq_ofNat_of_zero_le hA
  rw [decide_eq_decide]
  constructor
  · intro h
    have h2 : m * m ≤ n * n := by exact_mod_cast h
    have := Nat.mul_self_le_mul_self_iff.1 h2
    omega
  · intro h
    have h2 : m ≤ n := by omega
    have := Nat.mul_self_le_mul_self h2
    exact_mod_cast this
theorem spec_betw (ha : ptB a = true) (hb : ptB b = true) (hp : ptB p = true) : spec_l29Between a b p = some (betwB a b p) := by
  unfold spec_l29Between betwB
  have ht := tu_bound ha hb hp
  obtain ⟨s0, s1⟩ := sq_bound ha hb
  have b1 := mulb (x := 16 * tuN a b p) (y := tuN a b p) (m := 128000000) (n := 8000000) (by omega) (by omega)
  have b2 := mulb (x := sqN a b) (y := sqN a b) (m := 8000000) (n := 8000000) (by omega) (by omega)
  rw [show ((a.X == b.X) && (a.Y == b.Y)) = samP b a from rfl, along_w ha hb hp, spec_sq ha hb, spec_tu ha hb hp]
  simp only [Option.bind_some, l01In_eq]
  rw [w64_abs (x := 16 * tuN a b p) (by omega), w64_abs (x := 16 * tuN a b p * tuN a b p) (by omega), w64_abs (x := sqN a b * sqN a b) (by omega), sq_le _ _ s0]
  cases samP b a
  · cases inB (alongN a b p) 0 (sqN a b) <;> rfl
  · rfl
end
/-- Does a point satisfy a description whose places are sites? -/
def satB (L : List Site) (d : Description) (p : Point) : Bool :=
  let a := (siteOf L d.A).1
  bif d.Kind == 0 then samP a p else bif d.Kind == 1 then decide (sqN a p ≤ 64) else bif d.Kind == 2 then fromB d a p else betwB a (siteOf L d.B).1 p
theorem site_at {L : List Site} {c : ByteArray} (h : L.any (codeIs c) = true) : ∃ s, s ∈ L ∧ at' L (idxP (codeIs c) L) = some s ∧ siteOf L c = (s.At, true) := by
  rcases idx_find (codeIs c) L with ⟨_, h2⟩ | ⟨i, x, h1, h2, h3⟩
  · rw [← List.isSome_find?, h2] at h
    cases h
  · refine ⟨x, List.mem_of_getElem? h2, by rw [h1, at_nat, h2], ?_⟩
    unfold siteOf
    rw [h3]
/-- What a described description with its places says. -/
theorem desc_from {d : Description} (h : descB d = true) (hk : d.Kind = 2) : unitB d.Unit d.Count = true ∧ (1 ≤ d.Count ∧ d.Count ≤ 99) ∧ 0 ≤ d.Direction ∧ d.Direction ≤ 7 := by
  unfold descB at h
  rw [hk, show ((2 : Int) == 2) = true from rfl, cond_true] at h
  simp only [Bool.and_eq_true, inB_iff] at h
  exact ⟨h.2.2.1, h.2.1, h.2.2.2.1⟩
theorem desc_kind {d : Description} (h : descB d = true) : d.Kind = 0 ∨ d.Kind = 1 ∨ d.Kind = 2 ∨ d.Kind = 3 := by
  unfold descB at h
  cases h2 : (d.Kind == 2)
  · rw [h2, cond_false] at h
    simp only [Bool.and_eq_true] at h
    have h5 := h.2.2.2.2
    cases h01 : ((d.Kind == 0) || (d.Kind == 1)) with
    | true =>
      simp only [Bool.or_eq_true, beq_iff_eq] at h01
      omega
    | false =>
      rw [h01, cond_false, Bool.and_eq_true] at h5
      have : d.Kind = 3 := by simpa using h5.1
      omega
  · have : d.Kind = 2 := by simpa using h2
    omega
section
variable {L : List Site} {d : Description} {p : Point}
theorem impl_sat (hL : L.length ≤ 10) (hs : sorted L) (hpt : ∀ x ∈ L, codeB x.Code = true ∧ ptB x.At = true) (hd : descB d = true) (hl : lack L d = false) (hp : ptB p = true) : impl_satisfies L d p = some (satB L d p) := by
  unfold lack at hl
  rw [Bool.or_eq_false_iff] at hl
  obtain ⟨sA, mA, _, eA⟩ := site_at (L := L) (c := d.A) (by simpa using hl.1)
  have pA := (hpt sA mA).2
  unfold impl_satisfies satB
  rw [findSite_eq hL hs, findSite_eq hL hs, Option.bind_some, eA, impl_sq pA hp]
  simp only [Option.bind_some]
  rw [show ((p.X == sA.At.X) && (p.Y == sA.At.Y)) = samP sA.At p from rfl]
  rcases desc_kind hd with hk | hk | hk | hk
  · rw [hk]; rfl
  · rw [hk]; rfl
  · obtain ⟨h1, h2, h3⟩ := desc_from hd hk
    rw [impl_from pA hp h1 h2 h3, hk]
    rfl
  · obtain ⟨sB, mB, _, eB⟩ := site_at (L := L) (c := d.B) (by rw [hk] at hl; simpa using hl.2)
    have pB := (hpt sB mB).2
    rw [eB, impl_betw pA pB hp, hk]
    rfl
theorem spec_sat (hL : L.length ≤ 10) (hpt : ∀ x ∈ L, codeB x.Code = true ∧ ptB x.At = true) (hu : d.Unit.size ≤ 1048576) (hd : descB d = true) (hl : lack L d = false) (hp : ptB p = true) : spec_l29Satisfies L d p = some (satB L d p) := by
  unfold lack at hl
  rw [Bool.or_eq_false_iff] at hl
  obtain ⟨sA, mA, aA, eA⟩ := site_at (L := L) (c := d.A) (by simpa using hl.1)
  have pA := (hpt sA mA).2
  unfold spec_l29Satisfies satB
  rw [find_eq (by omega), find_eq (by omega), Option.bind_some, aA, Option.bind_some, eA, spec_sq pA hp, Option.bind_some]
  rcases desc_kind hd with hk | hk | hk | hk
  · rw [hk]; rfl
  · rw [hk]; rfl
  · obtain ⟨h1, h2, h3⟩ := desc_from hd hk
    rw [spec_unit d.Unit d.Count hu, Option.bind_some, spec_from_tail pA hp h2 h3, hk]
    rfl
  · obtain ⟨sB, mB, aB, eB⟩ := site_at (L := L) (c := d.B) (by rw [hk] at hl; simpa using hl.2)
    have pB := (hpt sB mB).2
    simp only [Option.bind_some, aB]
    rw [eB, spec_betw pA pB hp, hk]
    rfl
end
def cntN (L : List Site) (ds : List Description) (p : Point) : Int := ds.foldl (fun s d => bif satB L d p then w64 (s + 1) else s) 0
/-- Sites and descriptions that fit. -/
structure Fit (L : List Site) (ds : List Description) : Prop where
  s : sorted L
  p : ∀ x ∈ L, codeB x.Code = true ∧ ptB x.At = true
  n : L.length ≤ 10
  d : ∀ d ∈ ds, descB d = true ∧ lack L d = false ∧ okSz d
  k : ds.length ≤ 8
theorem fit_of {L : List Site} {ds : List Description} {s : Bool} (hs : sitesR L = some s) (hz : ∀ d ∈ ds, okSz d) (h : codeS L ds s true = 0) : Fit L ds := by
  unfold codeS at h
  cases s
  · cases h
  · cases h1 : (ds.any fun d => !descB d)
    · cases h2 : ds.any (lack L)
      · rw [h1, h2] at h
        obtain ⟨a, b, c⟩ := sites_sorted hs
        refine ⟨a, b, c, fun d hd => ⟨?_, ?_, hz d hd⟩, ?_⟩
        · have := List.any_eq_false.1 h1 d hd
          simpa using this
        · have := List.any_eq_false.1 h2 d hd
          simpa using this
        · by_cases h3 : (ds.length : Int) > 8
          · rw [decide_eq_true h3] at h
            cases h
          · omega
      · rw [h1, h2] at h
        cases h
    · rw [h1] at h
      cases h
section
variable {L : List Site} {ds : List Description} {p : Point}
theorem impl_cnt (f : Fit L ds) (hp : ptB p = true) : impl_countSatisfied L ds p = some (cntN L ds p) := by
  unfold impl_countSatisfied
  have := (forS_foldl_list (L := ds) (by have := f.k; omega) (B := fun (i3 : Int) (s3 : Int) => ((at' ds i3).bind fun x7 => ((impl_satisfies L x7 p).bind fun x8 => (bif x8 then some (w64 (s3 + 1)) else some s3)))) (D := fun s => s) (fun _ => True) (fun s d => bif satB L d p then w64 (s + 1) else s) 0 (fun i x s hx _ => by
    obtain ⟨h1, h2, _⟩ := f.d x (List.mem_of_getElem? hx)
    refine ⟨?_, trivial⟩
    simp only [at_nat, hx, Option.bind_some, impl_sat f.n f.s f.p h1 h2 hp]
    cases satB L x p <;> rfl) trivial).1
  rw [this]
  rfl
theorem spec_cnt (f : Fit L ds) (hp : ptB p = true) : spec_l29Count L ds p = some (cntN L ds p) := by
  unfold spec_l29Count
  have := (forS_foldl_list (L := ds) (by have := f.k; omega) (B := fun (i3 : Int) (s3 : Int) => ((at' ds i3).bind fun x7 => ((spec_l29Satisfies L x7 p).bind fun x8 => (bif x8 then some (w64 (s3 + 1)) else some s3)))) (D := fun s => s) (fun _ => True) (fun s d => bif satB L d p then w64 (s + 1) else s) 0 (fun i x s hx _ => by
    obtain ⟨h1, h2, h3⟩ := f.d x (List.mem_of_getElem? hx)
    refine ⟨?_, trivial⟩
    simp only [at_nat, hx, Option.bind_some, spec_sat f.n f.p h3.u h1 h2 hp]
    cases satB L x p <;> rfl) trivial).1
  rw [this]
  rfl
end
def ansOf (t : ByteArray) (L : List Site) (ds : List Description) (c : Candidate) : Answer := ⟨c.Code, phD (splitS t 32) (splitS c.Text 32), cntN L ds c.At⟩
structure okC (c : Candidate) : Prop where
  t : phraseB c.Text = true
  s : c.Text.size ≤ 1048576
  p : ptB c.At = true
theorem impl_ans {t : ByteArray} {L : List Site} {ds : List Description} (f : Fit L ds) (ht : phraseB t = true) (st : t.size ≤ 1048576) {c : Candidate} (hc : okC c) : impl_question_answer (question.mk t L ds) c = some (ansOf t L ds c) := by
  unfold impl_question_answer
  rw [impl_ph t c.Text st hc.s ht hc.t, Option.bind_some, impl_cnt f hc.p]
  rfl
theorem spec_ans {t : ByteArray} {L : List Site} {ds : List Description} (f : Fit L ds) (ht : phraseB t = true) (st : t.size ≤ 1048576) {c : Candidate} (hc : okC c) : spec_l30Answer c t L ds = some (ansOf t L ds c) := by
  unfold spec_l30Answer
  rw [spec_ph c.Text t hc.s st hc.t ht, Option.bind_some, spec_cnt f hc.p, phD_comm]
  rfl
/-! Candidates and questions -/
theorem candsR_some (L : List Candidate) : ∃ b, candsR L = some b := by
  unfold candsR
  cases firstI (candN L) (fun _ _ => false) L 0 with
  | none => exact ⟨_, rfl⟩
  | some r => exact ⟨_, rfl⟩
theorem cands_ok {C : List Candidate} (h : candsR C = some true) : (∀ c ∈ C, wordB c.Code = true ∧ phraseB c.Text = true ∧ ptB c.At = true) ∧ (∀ (i j : Nat) c d, i < j → C[i]? = some c → C[j]? = some d → c.Code ≠ d.Code) ∧ C.length ≤ 10 := by
  unfold candsR at h
  have hall : ∀ (M : List Candidate) (k : Nat), firstI (candN C) (fun _ _ => false) M k = none ∨ firstI (candN C) (fun _ _ => false) M k = some false := by
    intro M
    induction M with
    | nil => exact fun k => .inl rfl
    | cons x M ih =>
      intro k
      unfold firstI
      cases candN C k x
      · exact ih (k + 1)
      · exact .inr rfl
  have hno : ∀ (M : List Candidate) (k : Nat), firstI (candN C) (fun _ _ => false) M k = none → ∀ (i : Nat) x, M[i]? = some x → candN C (k + i) x = false := by
    intro M
    induction M with
    | nil => intro k _ i x hx; simp at hx
    | cons y M ih =>
      intro k hn i x hx
      unfold firstI at hn
      cases hs : candN C k y
      · rw [hs, cond_false] at hn
        cases i with
        | zero =>
          injection hx with hx
          subst hx
          exact hs
        | succ i =>
          have := ih (k + 1) hn i x (by simpa using hx)
          rwa [show k + 1 + i = k + (i + 1) by omega] at this
      · rw [hs] at hn
        cases hn
  rcases hall C 0 with h0 | h0
  · rw [h0] at h
    have h10 := of_decide_eq_true (Option.some.inj h)
    have hn := hno C 0 h0
    refine ⟨fun c hc => ?_, fun i j c d hij hc hd e => ?_, by omega⟩
    · obtain ⟨i, hi⟩ := List.mem_iff_getElem?.1 hc
      have := hn i c hi
      unfold candN at this
      rw [Bool.or_eq_false_iff, Bool.or_eq_false_iff, Bool.or_eq_false_iff] at this
      have hpt : pointB c.At = true := by simpa using this.2.2.1
      exact ⟨by simpa using this.1, by simpa using this.2.1, hpt⟩
    · have := hn j d hd
      unfold candN at this
      rw [Bool.or_eq_false_iff, Bool.or_eq_false_iff, Bool.or_eq_false_iff] at this
      have h4 := this.2.2.2
      rw [List.any_eq_false] at h4
      refine h4 c ?_ (by rw [e]; exact beq_self_eq_true _)
      rw [Nat.zero_add]
      exact List.mem_of_getElem? (i := i) (by rw [List.getElem?_take_of_lt hij]; exact hc)
  · rw [h0] at h
    cases h
def codeC (c : ByteArray) (x : Candidate) : Bool := x.Code.toList == c.toList
theorem impl_findC {C : List Candidate} (hC : C.length ≤ 1048576) (c : ByteArray) : impl_findCandidate C c = some (idxP (codeC c) C) := by
  unfold impl_findCandidate slices_IndexFunc_Candidate_impl_findCandidate_1 impl_findCandidate_1
  rw [loop_idx (by omega) (codeC c) (fun i x hx => by rw [at_nat, hx]; rfl), Option.bind_some]
theorem spec_findC {C : List Candidate} (hC : C.length ≤ 1048576) (c : ByteArray) : spec_l30Find C c = some (idxP (codeC c) C) := by
  unfold spec_l30Find
  exact loop_idx (by omega) (codeC c) (fun i x hx => by rw [at_nat, hx]; rfl)
/-- The code of a question. -/
def qCode (C : List Candidate) (t : ByteArray) (L : List Site) (ds : List Description) (cb s : Bool) : Int := codeS L ds s (cb && phraseB t)
structure Asked (C : List Candidate) (t : ByteArray) (L : List Site) (ds : List Description) : Prop where
  c : C.length ≤ 1048576
  c1 : ∀ x ∈ C, smCandidate x
  t : t.size ≤ 1048576
  l : L.length ≤ 1048576
  l1 : ∀ x ∈ L, smSite x
  d : ds.length ≤ 1048576
  d1 : ∀ x ∈ ds, okSz x
section
variable {C : List Candidate} {t : ByteArray} {L : List Site} {ds : List Description} {cb s : Bool}
theorem impl_qcode (a : Asked C t L ds) (hc : candsR C = some cb) (hs : sitesR L = some s) : impl_question_code (question.mk t L ds) C = some (qCode C t L ds cb s) := by
  unfold impl_question_code qCode
  simp only [impl_cands_eq a.c a.c1, hc, Option.bind_some, impl_isPhrase t (by have := a.t; omega), impl_siteCode_eq a.l a.l1 a.d a.d1 _ hs]
  cases cb
  · rfl
  · cases phraseB t <;> rfl
theorem spec_qcode (a : Asked C t L ds) (hc : candsR C = some cb) (hs : sitesR L = some s) : spec_l30Code C t L ds = some (qCode C t L ds cb s) := by
  unfold spec_l30Code qCode
  simp only [spec_cands_eq a.c a.c1, hc, Option.bind_some, spec_isPhrase t (by have := a.t; omega), spec_siteCode_eq a.l a.l1 a.d a.d1 hs]
  have h1 : codeS L ds s false = 1 := by unfold codeS; cases s <;> rfl
  cases cb
  · rw [Bool.false_and, h1]
    rfl
  · cases phraseB t
    · rw [Bool.and_false, h1]
      rfl
    · rfl
/-- What a question without an error has. -/
theorem qcode_ok (a : Asked C t L ds) (hc : candsR C = some cb) (hs : sitesR L = some s) (h : qCode C t L ds cb s = 0) : Fit L ds ∧ phraseB t = true ∧ cb = true ∧ ∀ x ∈ C, okC x := by
  unfold qCode at h
  have h1 : codeS L ds s false = 1 := by unfold codeS; cases s <;> rfl
  cases hcb : cb
  · rw [hcb, Bool.false_and, h1] at h
    cases h
  · cases hp : phraseB t
    · rw [hp, Bool.and_false, h1] at h
      cases h
    · rw [hcb, hp] at h
      refine ⟨fit_of hs a.d1 h, rfl, rfl, fun x hx => ?_⟩
      rw [hcb] at hc
      have := (cands_ok hc).1 x hx
      exact ⟨this.2.1, (a.c1 x hx).s1, this.2.2⟩
theorem answerFor_eq (a : Asked C t L ds) (c : ByteArray) : ∃ r, impl_AnswerFor C c t L ds = some r ∧ spec_AnswerFor C c t L ds = some r := by
  obtain ⟨cb, hc⟩ := candsR_some C
  obtain ⟨s, hs⟩ := sitesR_some L
  unfold impl_AnswerFor spec_AnswerFor spec_l30Named
  rw [impl_qcode a hc hs, spec_qcode a hc hs, Option.bind_some, Option.bind_some, impl_findC a.c, spec_findC a.c]
  simp only [Option.bind_some, idxP_neg]
  by_cases h0 : qCode C t L ds cb s = 0
  · obtain ⟨f, pt, _, hC⟩ := qcode_ok a hc hs h0
    rw [h0]
    cases hany : C.any (codeC c) with
    | false => exact ⟨_, rfl, rfl⟩
    | true =>
      rcases idx_find (codeC c) C with ⟨_, h2⟩ | ⟨i, x, h1, h2, h3⟩
      · rw [← List.isSome_find?, h2] at hany
        cases hany
      · have hx := hC x (List.mem_of_getElem? h2)
        simp only [h1, at_nat, h2, Option.bind_some, impl_ans f pt a.t hx, spec_ans f pt a.t hx]
        exact ⟨_, rfl, rfl⟩
  · have e1 : (qCode C t L ds cb s == 0) = false := by rw [beq_eq_false_iff_ne]; exact h0
    have e2 : (qCode C t L ds cb s != 0) = true := by rw [bne, e1]; rfl
    simp only [e1, e2, cond_false, cond_true, Option.bind_some]
    exact ⟨_, rfl, rfl⟩
end
end Go.Proofs.YtodgenjlhiiieaaGreatDoor.Sh
