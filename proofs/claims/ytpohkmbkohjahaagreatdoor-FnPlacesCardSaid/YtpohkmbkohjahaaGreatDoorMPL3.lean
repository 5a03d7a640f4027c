/- Names: AreNames of both; bounds on lengths alone. -/
import Derived.Test.YtpohkmbkohjahaaGreatDoorMPL1
import Derived.Test.YtpohkmbkohjahaaGreatDoorMPL2
namespace Go.Proofs.YtpohkmbkohjahaaGreatDoor.Sh
open Go.RowKit Go.Lib
/-- Is a name an official one with a language, in years that meet? -/
def clashN (n m : Name) : Bool := (m.Status == 0) && ((m.Language.toList == n.Language.toList) && (decide (m.Years.From ≤ n.Years.To) && decide (n.Years.From ≤ m.Years.To)))
def badN (L : List Name) (i : Nat) (n : Name) : Bool := !nameB n || ((n.Status == 0) && (L.take i).any (clashN n))
def namesB (L : List Name) : Bool := !(firstI (badN L) (fun _ _ => ()) L 0).isSome && decide (L.length ≤ 12)
theorem len_le {α : Type} (L : List α) (k : Nat) : decide ((L.length : Int) ≤ (k : Int)) = decide (L.length ≤ k) := by
  by_cases h : L.length ≤ k
  · rw [decide_eq_true h, decide_eq_true (by omega)]
  · rw [decide_eq_false h, decide_eq_false (by omega)]
theorem impl_areNames {L : List Name} (hL : L.length ≤ 1048576) (h : ∀ x ∈ L, NmR x) : impl_AreNames L = some (namesB L) := by
  unfold impl_AreNames slices_ContainsFunc_Name_impl_AreNames_1 slices_IndexFunc_Name_impl_AreNames_1 impl_AreNames_1 impl_Name_isOfficial impl_Span_meets namesB
  rw [loop_first (by omega) (badN L) (fun _ _ => false) (fun i x hx => by
    have hi : i < L.length := (List.getElem?_eq_some_iff.1 hx).1
    rw [at_nat, hx, Option.bind_some, impl_name (h x (List.mem_of_getElem? hx)), Option.bind_some]
    unfold badN
    cases nameB x
    · rfl
    rw [Bool.not_true, cond_false, part_ok (by omega) (by omega) (by omega), Option.bind_some]
    simp only [Int.toNat_zero, List.drop_zero, Int.toNat_natCast, Nat.sub_zero]
    rw [loop_idx (L := L.take i) (by rw [List.length_take]; omega) (clashN x) (fun k z hz => by
      rw [at_nat, hz, Option.bind_some]
      unfold clashN
      cases z.Status == 0 <;> cases z.Language.toList == x.Language.toList <;> rfl)]
    simp only [Option.bind_some, idxP_any]
    cases x.Status == 0 <;> cases (L.take i).any (clashN x) <;> rfl), firstI_const]
  rw [show (12 : Int) = ((12 : Nat) : Int) from rfl, len_le]
  cases (firstI (badN L) (fun _ _ => ()) L 0).isSome <;> rfl
theorem spec_areNames {L : List Name} (hL : L.length ≤ 1048576) (h : ∀ x ∈ L, NmR x) : spec_AreNames L = some (namesB L) := by
  unfold spec_AreNames spec_l02Meet namesB
  rw [loop_first (by omega) (badN L) (fun _ _ => false) (fun i x hx => by
    have hi : i < L.length := (List.getElem?_eq_some_iff.1 hx).1
    have hl : (L.take i).length = i := by rw [List.length_take]; omega
    rw [at_nat, hx, Option.bind_some, spec_name (h x (List.mem_of_getElem? hx)), Option.bind_some]
    unfold badN
    cases nameB x
    · rfl
    have := inner_any (A := Unit ⊕ Bool) (L := L.take i) (by omega) (B := fun (i9 : Int) (_ : Unit) => ((at' L i9).bind fun x13 => (((bif (x.Status == 0) then (bif (x13.Status == 0) then (bif (x.Language.toList == x13.Language.toList) then ((spec_l02Meet x.Years x13.Years).bind fun x14 => some x14) else some false) else some false) else some false)).bind fun (j15 : Bool) => (bif j15 then some (.inr (.inr (.inr false))) else some (.inl ()))))) (fun m => (x.Status == 0) && clashN x m) (.inr false) (fun k z hz => by
      have hz' : L[k]? = some z := by
        have hk : k < i := by have := (List.getElem?_eq_some_iff.1 hz).1; omega
        rw [← hz, List.getElem?_take_of_lt hk]
      unfold clashN spec_l02Meet
      simp only [at_nat, hz', Option.bind_some]
      rw [BEq.comm (a := x.Language.toList), Bool.and_comm (decide (x.Years.From ≤ z.Years.To))]
      cases x.Status == 0 <;> cases z.Status == 0 <;> cases z.Language.toList == x.Language.toList <;> rfl)
    rw [hl] at this
    have e : ((L.take i).any fun m => (x.Status == 0) && clashN x m) = ((x.Status == 0) && (L.take i).any (clashN x)) := by
      cases x.Status == 0
      · simp
      · simp
    rw [e] at this
    exact this), firstI_const]
  rw [show (12 : Int) = ((12 : Nat) : Int) from rfl, len_le]
  cases (firstI (badN L) (fun _ _ => ()) L 0).isSome <;> rfl
end Go.Proofs.YtpohkmbkohjahaaGreatDoor.Sh
