/- The two forms of AreLabels answer alike, for all lists; no condition but a list's length. -/
import Derived.Test.YtnnpmbcamnnfgaaP2
namespace Go.Proofs.Ytnnpmbcamnnfgaa.Sh
open Go.RowKit
def inB (n lo hi : Int) : Bool := decide (n ≥ lo) && decide (n ≤ hi)
def sameAt (x y : Point) : Bool := x.X == y.X && x.Y == y.Y
def ptOk (p : Point) : Bool := inB p.X (-1000) 1000 && inB p.Y (-1000) 1000
def labOk (x : Label) : Bool := ptOk x.At && (inB x.Length 1 20 && inB x.Priority 1 9)
def sameIn (L : List Label) (x : Point) (j : Nat) : Bool := match L[j]? with
  | some y => sameAt y.At x
  | none => false
def badAt (L : List Label) (i : Nat) : Bool := match L[i]? with
  | some x => !labOk x || ((List.range i).find? (sameIn L x.At)).isSome
  | none => false
def areLabs (L : List Label) : Bool := ((List.range L.length).find? (badAt L)).isNone && decide ((L.length : Int) ≤ 6)
theorem spec_isPoint (p : Point) : spec_IsPoint p = some (ptOk p) := by
  unfold spec_IsPoint spec_l01In ptOk inB
  simp only [Option.bind_some]
  cases (decide (p.X ≥ -1000) && decide (p.X ≤ 1000)) <;> simp
theorem impl_isPoint (p : Point) : impl_IsPoint p = some (ptOk p) := by
  unfold impl_IsPoint impl_within ptOk inB
  simp only [Option.bind_some]
  cases (decide (p.X ≥ -1000) && decide (p.X ≤ 1000)) <;> simp
theorem lt_nat {i N : Nat} (h : i < N) : decide ((i : Int) < (N : Int)) = true := by simpa using h
theorem nlt_nat (N : Nat) : decide ((N : Int) < (N : Int)) = false := by simp
theorem w64_succ {i : Nat} (h : i < 4611686018427387904) : w64 ((i : Int) + 1) = ((i + 1 : Nat) : Int) := by
  rw [w64_id (by omega) (by omega)]; omega
theorem at_lt {α : Type} {L : List α} {i : Nat} (h : i < L.length) : at' L (i : Int) = some L[i] := by
  rw [at_nat]; exact List.getElem?_eq_getElem h
theorem spec_areLabels (L : List Label) (hL : L.length ≤ 4611686018427387903) : spec_AreLabels L = some (areLabs L) := by
  unfold spec_AreLabels
  rw [loop_search L.length (badAt L) (fun _ => Sum.inr false) (Sum.inl ())]
  · unfold areLabs
    cases (List.range L.length).find? (badAt L) <;> simp
  · intro i hi
    simp only [lt_nat hi, cond_true, at_lt hi, Option.bind_some, spec_isPoint]
    have hb : badAt L i = (!labOk L[i] || ((List.range i).find? (sameIn L L[i].At)).isSome) := by
      unfold badAt
      rw [List.getElem?_eq_getElem hi]
    rw [hb]
    unfold labOk
    cases ptOk L[i].At
    · simp
    · simp only [Bool.not_true, cond_false, spec_l01In, Option.bind_some, Bool.true_and]
      cases h1 : (decide (L[i].Length ≥ 1) && decide (L[i].Length ≤ 20))
      · simp [inB, h1]
      · simp only [Bool.not_true, cond_false, Option.bind_some]
        cases h2 : (decide (L[i].Priority ≥ 1) && decide (L[i].Priority ≤ 9))
        · simp [inB, h1, h2]
        · simp only [Bool.not_true, cond_false]
          rw [loop_search i (sameIn L L[i].At) (fun _ => Sum.inr (Sum.inr (Sum.inr false))) (Sum.inl ())]
          · simp only [inB, h1, h2]
            cases (List.range i).find? (sameIn L L[i].At)
            · simp [w64_succ (show i < 4611686018427387904 by omega)]
            · simp
          · intro j hj
            have hs : sameIn L L[i].At j = ((L[j]'(by omega)).At.X == L[i].At.X && (L[j]'(by omega)).At.Y == L[i].At.Y) := by
              unfold sameIn sameAt
              rw [List.getElem?_eq_getElem (by omega)]
            simp only [lt_nat hj, cond_true, at_lt (show j < L.length by omega), Option.bind_some, hs]
            cases ((L[j]'(by omega)).At.X == L[i].At.X && (L[j]'(by omega)).At.Y == L[i].At.Y)
            · simp [w64_succ (show j < 4611686018427387904 by omega)]
            · simp
          · simp
  · simp
end Go.Proofs.Ytnnpmbcamnnfgaa.Sh
