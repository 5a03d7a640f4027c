/- Labels: clear placements and fitting positions of both; no condition but allowed labels. -/
import Derived.Test.YtlhllbiikideeaaLB4
namespace Go.Proofs.Ytlhllbiikideeaa.Sh
open Go.RowKit
def alL (L : List Label) (i : Nat) (p : Int) : Bool := match L[i]? with
  | some l => allowB L l p
  | none => false
def clL (L : List Label) (i : Nat) (x : Int) (k : Nat) (y : Int) : Bool := match L[i]?, L[k]? with
  | some a, some b => bif inB x 0 4 && inB y 0 4 then clB a x b y else false
  | _, _ => false
theorem clL_sym {L : List Label} (hA : ∀ x ∈ L, LabIn x) (i : Nat) (x : Int) (k : Nat) (y : Int) : clL L i x k y = clL L k y i x := by
  unfold clL
  cases hi : L[i]? with
  | none => cases L[k]? <;> rfl
  | some a =>
    cases hk : L[k]? with
    | none => rfl
    | some b =>
      dsimp only
      have ha := hA a (List.mem_of_getElem? hi)
      have hb := hA b (List.mem_of_getElem? hk)
      cases hx : inB x 0 4
      · cases inB y 0 4 <;> rfl
      · cases hy : inB y 0 4
        · rfl
        · rw [inB_iff] at hx hy
          simp only [Bool.and_self, cond_true]
          rw [Bool.eq_iff_iff, clB_iff ha hx.1 hx.2, clB_iff hb hy.1 hy.2]
          exact ⟨fun ⟨q, h1, h2⟩ => ⟨q, h2, h1⟩, fun ⟨q, h1, h2⟩ => ⟨q, h2, h1⟩⟩
/-- Positions of labels. -/
structure PIn (L : List Label) (P : List Int) : Prop where
  len : P.length = L.length
  six : L.length ≤ 6
  lab : ∀ x ∈ L, LabIn x
  pos : ∀ i, i < P.length → 0 ≤ gp P i ∧ gp P i ≤ 4
theorem PIn.set {L : List Label} {P : List Int} (h : PIn L P) (i : Nat) {p : Int} (h0 : 0 ≤ p) (h4 : p ≤ 4) : PIn L (P.set i p) := by
  refine ⟨by rw [List.length_set]; exact h.len, h.six, h.lab, fun k hk => ?_⟩
  rw [List.length_set] at hk
  by_cases hik : i = k
  · subst hik
    rw [gp_set hk]
    exact ⟨h0, h4⟩
  · rw [gp_set_ne hik]
    exact h.pos k hk
theorem any_range (n : Nat) (p : Nat → Bool) : (List.range n).any p = !(List.range n).all fun k => !p k := by
  rw [← List.not_any_eq_all_not, Bool.not_not]
theorem loop_any_n {A : Type} {n : Nat} (hn : n ≤ 1048576) {B : Int → Unit → Option (Unit ⊕ (Unit ⊕ A))} (p : Nat → Bool) (a : A) (h : ∀ i, i < n → B (i : Int) () = bif p i then some (.inr (.inr a)) else some (.inl ())) {K : Option A} :
    (forN (n : Int) B (fun _ => .inl ()) 0 ()).bind (Sum.elim (fun _ => K) some) = bif (List.range n).any p then some a else K := by
  have hl : (List.range n).length = n := List.length_range
  have := loop_any (L := List.range n) (by omega) (B := B) p a (K := K) (fun i x hx => by
    have hi : i < n := by have := (List.getElem?_eq_some_iff.1 hx).1; omega
    have hxi : x = i := by
      rw [List.getElem?_range hi] at hx
      injection hx with hx
      exact hx.symm
    rw [hxi]
    exact h i hi)
  rwa [hl] at this
theorem impl_clearAt {L : List Label} {P : List Int} (h : PIn L P) {i : Nat} (hi : i < P.length) : impl_isClearAt L P (i : Int) = some (clearAt (alL L) (clL L) P i) := by
  unfold impl_isClearAt clearAt
  have h6 := h.six
  have hln := h.len
  have hL : i < L.length := by omega
  have hx := List.getElem?_eq_getElem hL
  have ha := h.lab _ (List.getElem_mem hL)
  have hp := h.pos i hi
  rw [at_nat, hx, Option.bind_some, at_nat, gp_at hi, Option.bind_some, impl_allowed (by omega) ha hp.1 hp.2, Option.bind_some]
  have e1 : alL L i (gp P i) = allowB L L[i] (gp P i) := by
    unfold alL
    rw [hx]
  rw [e1]
  cases allowB L L[i] (gp P i)
  · rfl
  · rw [Bool.not_true, cond_false, loop_any_n (by omega) (fun k => clL L i (gp P i) k (gp P k)) false (fun k hk => by
      have hkL : k < L.length := by omega
      have hy := List.getElem?_eq_getElem hkL
      have hb := h.lab _ (List.getElem_mem hkL)
      have hq := h.pos k (by omega)
      rw [impl_clash_eq hx hy (gp_at hi) (gp_at (by omega)) ha hb hp.1 hp.2 hq.1 hq.2, Option.bind_some]
      unfold clL
      rw [hx, hy]
      dsimp only
      rw [inB_iff.2 hp, inB_iff.2 hq]
      rfl), any_range]
    cases ((List.range i).all fun k => !clL L i (gp P i) k (gp P k)) <;> rfl
end Go.Proofs.Ytlhllbiikideeaa.Sh
