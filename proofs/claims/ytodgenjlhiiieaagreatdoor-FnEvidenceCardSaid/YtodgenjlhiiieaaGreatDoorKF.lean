/- strconv.FormatInt at base 10 as a typed call: numbers below 100; no condition on the world. -/
import Derived.Test.YtodgenjlhiiieaaGreatDoorKA
import Derived.Shelf.Strconv.Itoa4
namespace Go.Proofs.YtodgenjlhiiieaaGreatDoor.Sh
open Go.RowKit Go.Shelf Go.Lib
def strconv_FormatInt (n b : Int) : Option ByteArray := if b = 10 ∧ 0 ≤ n ∧ n < 100 then some ⟨(Lib.decDigits n.toNat).toArray⟩ else none
theorem digits_small : ∀ k : Fin 100, (Lib.decDigits k.val).length ≤ 2 := by decide +kernel
theorem format_run {P : Program} {ρ : Ren} (L : Lays.n173 P ρ) (k : FuncId) (hk : ρ.f 173 = k) (n b : Int) (r : ByteArray) (h : strconv_FormatInt n b = some r) : SCall P k [.v (.tr (.int .i64 n)), .v (.tr (.int .i64 b))] ⟨[.v (.tr (.str r))], [], false⟩ := by
  unfold strconv_FormatInt at h
  split at h
  · rename_i hh
    obtain ⟨rfl, h0, h1⟩ := hh
    injection h with h
    subst h
    subst hk
    obtain ⟨m, rfl⟩ := Int.eq_ofNat_of_zero_le h0
    have hm : m < 100 := by omega
    have hs : (⟨(Lib.decDigits ((m : Int)).toNat).toArray⟩ : ByteArray).size ≤ maxLen := by
      have := digits_small ⟨m, hm⟩
      show (Lib.decDigits ((m : Int)).toNat).toArray.size ≤ maxLen
      rw [List.size_toArray, Int.toNat_natCast]
      unfold maxLen
      simp only at this
      omega
    exact scall_flat [.int .i64 (m : Int), .int .i64 10] (by simp [Tr.flat]) (.str _) rfl hs fun w => (Any.strconv_FormatInt_10_small L m hm w).mono fun e w' h => ⟨by rw [h.1]; rfl, by rw [h.2]; exact Below.refl _ w⟩
  · cases h
end Go.Proofs.YtodgenjlhiiieaaGreatDoor.Sh
