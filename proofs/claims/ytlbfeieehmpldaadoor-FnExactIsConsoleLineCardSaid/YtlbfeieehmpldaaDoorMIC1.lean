/- Decimal numerals: digits, values, reading; no program in sight, no condition. -/
import Derived.Test.YtlbfeieehmpldaaDoorL0
import Derived.Lib.ParseIntBCases
import Derived.Lib.ItoaMem
namespace Go.Proofs.YtlbfeieehmpldaaDoor.Sh
open Go.RowKit Go.Lib
def digB (c : UInt8) : Bool := decide (48 ≤ c.toNat) && decide (c.toNat ≤ 57)
theorem digB_iff {c : UInt8} : digB c = true ↔ 48 ≤ c.toNat ∧ c.toNat ≤ 57 := by unfold digB; simp
theorem digB_of {d : Nat} (h : d < 10) : digB (UInt8.ofNat (48 + d)) = true ∧ (UInt8.ofNat (48 + d)).toNat = 48 + d := by
  have e : (UInt8.ofNat (48 + d)).toNat = 48 + d := by
    rw [UInt8.toNat_ofNat']
    omega
  exact ⟨by rw [digB_iff, e]; omega, e⟩
/-- The number that digits spell behind others. -/
def valA (l : List UInt8) (a : Nat) : Nat := l.foldl (fun a c => a * 10 + (c.toNat - 48)) a
theorem valA_append (l m : List UInt8) (a : Nat) : valA (l ++ m) a = valA m (valA l a) := List.foldl_append
theorem dec_dig (u : Nat) : (decDigits u).all digB = true := by
  induction u using Nat.strongRecOn with
  | _ u ih =>
    rw [decDigits]
    split
    · rename_i h
      rw [List.all_cons, List.all_nil, (digB_of h).1]
      rfl
    · rename_i h
      rw [List.all_append, ih (u / 10) (by omega), List.all_cons, List.all_nil, (digB_of (Nat.mod_lt u (by omega))).1]
      rfl
theorem dec_ne (u : Nat) : decDigits u ≠ [] := by
  rw [decDigits]
  split <;> simp
theorem dec_val (u : Nat) : valA (decDigits u) 0 = u := by
  induction u using Nat.strongRecOn with
  | _ u ih =>
    rw [decDigits]
    split
    · rename_i h
      show 0 * 10 + ((UInt8.ofNat (48 + u)).toNat - 48) = u
      rw [(digB_of h).2]
      omega
    · rename_i h
      rw [valA_append, ih (u / 10) (by omega)]
      show u / 10 * 10 + ((UInt8.ofNat (48 + u % 10)).toNat - 48) = u
      rw [(digB_of (Nat.mod_lt u (by omega))).2]
      omega
theorem valA_lt : ∀ (l : List UInt8) (a k : Nat), l.all digB = true → a < 10 ^ k → valA l a < 10 ^ (k + l.length)
  | [], a, k, _, h => h
  | c :: l, a, k, hl, h => by
    rw [List.all_cons, Bool.and_eq_true] at hl
    have hc := digB_iff.1 hl.1
    have := valA_lt l (a * 10 + (c.toNat - 48)) (k + 1) hl.2 (by rw [Nat.pow_succ]; omega)
    rw [List.length_cons, show k + (l.length + 1) = k + 1 + l.length by omega]
    exact this
theorem dec_lt {u n : Nat} (h : (decDigits u).length ≤ n) : u < 10 ^ n := by
  have h1 := valA_lt (decDigits u) 0 0 (dec_dig u) (by simp)
  rw [dec_val, Nat.zero_add] at h1
  exact Nat.lt_of_lt_of_le h1 (Nat.pow_le_pow_right (by omega) h)
theorem parseU : ∀ (l : List UInt8) (a k : Nat), l.all digB = true → a < 10 ^ k → k + l.length ≤ 17 → parseUintM (2 ^ 64 - 1) a l = .ok (valA l a)
  | [], a, k, _, _, _ => rfl
  | c :: l, a, k, hl, h, hk => by
    rw [List.all_cons, Bool.and_eq_true] at hl
    have hc := digB_iff.1 hl.1
    rw [List.length_cons] at hk
    have h2 : 10 ^ k ≤ 10 ^ 16 := Nat.pow_le_pow_right (by omega) (by omega)
    unfold parseUintM
    rw [if_pos hc, if_neg (by omega), if_neg (by omega)]
    exact parseU l _ (k + 1) hl.2 (by rw [Nat.pow_succ]; omega) (by omega)
theorem parse_dec {u : Nat} (h : (decDigits u).length ≤ 13) : parseUintB 64 (decDigits u) = .ok u := by
  unfold parseUintB
  rw [if_neg (dec_ne u), parseU _ 0 0 (dec_dig u) (by simp) (by omega), dec_val]
theorem dec_head {u : Nat} {c : UInt8} {r : List UInt8} (h : decDigits u = c :: r) : c.toNat ≠ 45 ∧ c.toNat ≠ 43 := by
  have := dec_dig u
  rw [h, List.all_cons, Bool.and_eq_true] at this
  have := digB_iff.1 this.1
  omega
theorem parse_pos {u : Nat} (h : (decDigits u).length ≤ 13) : parseIntB 64 (decDigits u) = .ok (u : Int) := by
  have hu := dec_lt h
  cases hd : decDigits u with
  | nil => exact absurd hd (dec_ne u)
  | cons c r =>
    obtain ⟨h1, h2⟩ := dec_head hd
    rw [parseIntB_plain 64 c r h2 h1, ← hd, parse_dec h]
    unfold signlessC
    simp only
    rw [if_neg (by omega)]
theorem parse_neg {u : Nat} (h : (decDigits u).length ≤ 13) : parseIntB 64 (45 :: decDigits u) = .ok (-(u : Int)) := by
  have hu := dec_lt h
  rw [parseIntB_minus, parse_dec h]
  unfold signedC
  simp only
  rw [if_neg (by omega)]
theorem itoa_pos {v : Int} (h : 0 ≤ v) : itoa v = decDigits v.toNat := by unfold itoa; rw [if_neg (by omega)]
theorem itoa_lt {v : Int} (h : v < 0) : itoa v = 45 :: decDigits v.natAbs := by unfold itoa; rw [if_pos h]
/-- A numeral of at most thirteen digits. -/
def can (l : List UInt8) : Prop := ∃ m : Nat, l = decDigits m ∧ l.length ≤ 13
end Go.Proofs.YtlbfeieehmpldaaDoor.Sh
