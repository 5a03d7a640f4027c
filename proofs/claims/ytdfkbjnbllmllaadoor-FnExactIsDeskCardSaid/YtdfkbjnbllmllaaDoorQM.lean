/- Sizes, copies, comparisons and marks of the laws' types; bounds on lengths alone. -/
import Derived.Test.YtdfkbjnbllmllaaDoorQA
import Derived.Test.YtdfkbjnbllmllaaDoorRD
namespace Go.Proofs.YtdfkbjnbllmllaaDoor.Sh
open Go.RowKit Go.Lib
structure smClaim (x : Claim) : Prop where
  s0 : x.Source.size ≤ 1048576
  s2 : x.Place.size ≤ 1048576
  s3 : x.Value.size ≤ 1048576
theorem szClaim_ok (x : Claim) (hx : okClaim x) (s : Int) (h0 : 0 ≤ s) (h1 : s ≤ 1048576) : ∃ v, laws_szClaim x s = some v ∧ (v < 0 ∨ (0 ≤ v ∧ v ≤ s ∧ smClaim x)) := by
  unfold laws_szClaim
  have z0 := hx.Source
  unfold maxLen at z0
  rw [w64_id (n := s - (x.Source.size : Int)) (by omega) (by omega)]
  by_cases c0 : s - (x.Source.size : Int) < 0
  · rw [decide_eq_true c0]
    exact ⟨_, rfl, .inl (by omega)⟩
  rw [decide_eq_false c0, cond_false]
  have z1 := hx.Place
  unfold maxLen at z1
  rw [w64_id (n := s - (x.Source.size : Int) - (x.Place.size : Int)) (by omega) (by omega)]
  by_cases c1 : s - (x.Source.size : Int) - (x.Place.size : Int) < 0
  · rw [decide_eq_true c1]
    exact ⟨_, rfl, .inl (by omega)⟩
  rw [decide_eq_false c1, cond_false]
  have z2 := hx.Value
  unfold maxLen at z2
  rw [w64_id (n := s - (x.Source.size : Int) - (x.Place.size : Int) - (x.Value.size : Int)) (by omega) (by omega)]
  by_cases c2 : s - (x.Source.size : Int) - (x.Place.size : Int) - (x.Value.size : Int) < 0
  · rw [decide_eq_true c2]
    exact ⟨_, rfl, .inl (by omega)⟩
  rw [decide_eq_false c2, cond_false]
  exact ⟨_, rfl, .inr ⟨by omega, by omega, ⟨by omega, by omega, by omega⟩⟩⟩
structure smSpan (x : Span) : Prop where
  t : True
theorem toSpan_eq (x : Span) : laws_toSpan x = some x := by
  unfold laws_toSpan
  rfl
theorem eqSpan_self (x : Span) : laws_eqSpan x x = some true := by
  unfold laws_eqSpan
  simp
theorem toClaim_eq (x : Claim) : laws_toClaim x = some x := by
  unfold laws_toClaim
  simp only [toSpan_eq x.Years, Option.bind_some]
theorem eqClaim_self (x : Claim) : laws_eqClaim x x = some true := by
  unfold laws_eqClaim
  simp [eqSpan_self x.Years]
theorem szClaimS_ok (L : List Claim) (hL : L.length ≤ maxLen ∧ ∀ x ∈ L, okClaim x) (l : Int) (h0 : 0 ≤ l) (h1 : l ≤ 1048576) : ∃ v, laws_szClaimS L l = some v ∧ (v < 0 ∨ (0 ≤ v ∧ v ≤ l ∧ (L.length : Int) ≤ l ∧ ∀ x ∈ L, smClaim x)) := by
  unfold laws_szClaimS
  exact sz_list hL.1 laws_szClaim smClaim (fun x hx s h0 h1 => szClaim_ok x (hL.2 x hx) s h0 h1) l h0 h1
theorem toClaimS_eq (L : List Claim) (hL : L.length ≤ 1048576) : laws_toClaimS L = some L := by
  unfold laws_toClaimS
  exact copy_list hL laws_toClaim (fun x _ => toClaim_eq x) _
theorem eqClaimS_self (L : List Claim) (hL : L.length ≤ 1000000000) : laws_eqClaimS L L = some true := by
  unfold laws_eqClaimS
  exact eq_list hL laws_eqClaim (fun x _ => eqClaim_self x)
structure smSite (x : Site) : Prop where
  s0 : x.Code.size ≤ 1048576
theorem szSite_ok (x : Site) (hx : okSite x) (s : Int) (h0 : 0 ≤ s) (h1 : s ≤ 1048576) : ∃ v, laws_szSite x s = some v ∧ (v < 0 ∨ (0 ≤ v ∧ v ≤ s ∧ smSite x)) := by
  unfold laws_szSite
  have z0 := hx.Code
  unfold maxLen at z0
  rw [w64_id (n := s - (x.Code.size : Int)) (by omega) (by omega)]
  by_cases c0 : s - (x.Code.size : Int) < 0
  · rw [decide_eq_true c0]
    exact ⟨_, rfl, .inl (by omega)⟩
  rw [decide_eq_false c0, cond_false]
  exact ⟨_, rfl, .inr ⟨by omega, by omega, ⟨by omega⟩⟩⟩
structure smPoint (x : Point) : Prop where
  t : True
theorem toPoint_eq (x : Point) : laws_toPoint x = some x := by
  unfold laws_toPoint
  rfl
theorem eqPoint_self (x : Point) : laws_eqPoint x x = some true := by
  unfold laws_eqPoint
  simp
theorem toSite_eq (x : Site) : laws_toSite x = some x := by
  unfold laws_toSite
  simp only [toPoint_eq x.At, Option.bind_some]
theorem eqSite_self (x : Site) : laws_eqSite x x = some true := by
  unfold laws_eqSite
  simp [eqPoint_self x.At]
theorem szSiteS_ok (L : List Site) (hL : L.length ≤ maxLen ∧ ∀ x ∈ L, okSite x) (l : Int) (h0 : 0 ≤ l) (h1 : l ≤ 1048576) : ∃ v, laws_szSiteS L l = some v ∧ (v < 0 ∨ (0 ≤ v ∧ v ≤ l ∧ (L.length : Int) ≤ l ∧ ∀ x ∈ L, smSite x)) := by
  unfold laws_szSiteS
  exact sz_list hL.1 laws_szSite smSite (fun x hx s h0 h1 => szSite_ok x (hL.2 x hx) s h0 h1) l h0 h1
theorem toSiteS_eq (L : List Site) (hL : L.length ≤ 1048576) : laws_toSiteS L = some L := by
  unfold laws_toSiteS
  exact copy_list hL laws_toSite (fun x _ => toSite_eq x) _
theorem eqSiteS_self (L : List Site) (hL : L.length ≤ 1000000000) : laws_eqSiteS L L = some true := by
  unfold laws_eqSiteS
  exact eq_list hL laws_eqSite (fun x _ => eqSite_self x)
structure smDesk (x : Desk) : Prop where
  s0 : x.Claims.length ≤ 1048576
  s1 : x.Sites.length ≤ 1048576
  i0 : ∀ y ∈ x.Claims, smClaim y
  i1 : ∀ y ∈ x.Sites, smSite y
theorem szDesk_ok (x : Desk) (hx : okDesk x) (s : Int) (h0 : 0 ≤ s) (h1 : s ≤ 1048576) : ∃ v, laws_szDesk x s = some v ∧ (v < 0 ∨ (0 ≤ v ∧ v ≤ s ∧ smDesk x)) := by
  unfold laws_szDesk
  obtain ⟨v0, g0, z0⟩ := szClaimS_ok x.Claims hx.Claims (s) (by omega) (by omega)
  rw [g0, Option.bind_some]
  by_cases c0 : v0 < 0
  · rw [decide_eq_true c0]
    exact ⟨_, rfl, .inl (by omega)⟩
  rw [decide_eq_false c0, cond_false]
  replace z0 := z0.resolve_left c0
  obtain ⟨v1, g1, z1⟩ := szSiteS_ok x.Sites hx.Sites (v0) (by omega) (by omega)
  rw [g1, Option.bind_some]
  by_cases c1 : v1 < 0
  · rw [decide_eq_true c1]
    exact ⟨_, rfl, .inl (by omega)⟩
  rw [decide_eq_false c1, cond_false]
  replace z1 := z1.resolve_left c1
  exact ⟨_, rfl, .inr ⟨by omega, by omega, ⟨by have := z0.2.2.1; omega, by have := z1.2.2.1; omega, z0.2.2.2, z1.2.2.2⟩⟩⟩
theorem toDesk_eq (x : Desk) (h : smDesk x) : laws_toDesk x = some x := by
  unfold laws_toDesk
  simp only [toClaimS_eq x.Claims h.s0, toSiteS_eq x.Sites h.s1, Option.bind_some]
theorem eqDesk_self (x : Desk) (h : smDesk x) : laws_eqDesk x x = some true := by
  unfold laws_eqDesk
  simp [eqClaimS_self x.Claims (by have := h.s0; omega), eqSiteS_self x.Sites (by have := h.s1; omega)]
end Go.Proofs.YtdfkbjnbllmllaaDoor.Sh
