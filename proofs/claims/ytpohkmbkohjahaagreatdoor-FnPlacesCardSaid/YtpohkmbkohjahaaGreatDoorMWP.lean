/- Plain laws: splitting at a byte, phrases; no condition but bounds on lengths. -/
import Derived.Test.YtpohkmbkohjahaaGreatDoorMW1
import Derived.Test.YtpohkmbkohjahaaGreatDoorKS
import Derived.Test.YtpohkmbkohjahaaGreatDoorL0
namespace Go.Proofs.YtpohkmbkohjahaaGreatDoor.Sh
open Go.RowKit Go.Lib
theorem size_list (s : ByteArray) : s.data.toList.length = s.size := by rw [Array.length_toList]; rfl
theorem extract_mk' (s : ByteArray) (a b : Nat) : s.extract a b = ⟨((s.data.toList.drop a).take (b - a)).toArray⟩ := by
  rw [← extract_data]
theorem sub_ok {s : ByteArray} {a b : Nat} (h : a ≤ b) (hb : b ≤ s.size) : sub' s (a : Int) (b : Int) = some ⟨((s.data.toList.drop a).take (b - a)).toArray⟩ := by
  unfold sub'
  rw [if_pos ⟨by omega, by omega, by omega⟩, Int.toNat_natCast, Int.toNat_natCast, extract_mk']
theorem u8_eq (b c : UInt8) : (((b.toNat : Int) == (c.toNat : Int)) = true) ↔ b = c := by
  rw [beq_iff_eq]
  constructor
  · intro h
    have : b.toNat = c.toNat := by omega
    exact UInt8.toNat_inj.1 this
  · intro h; rw [h]
theorem splitL_step {c : UInt8} {l : List UInt8} {f i : Nat} (hf : f ≤ i) (hfree : c ∉ (l.drop f).take (i - f)) (hi : l[i]? = some c) : splitL c (l.drop f) = (l.drop f).take (i - f) :: splitL c (l.drop (i + 1)) := by
  have hlt := (List.getElem?_eq_some_iff.1 hi).1
  have h1 : l.drop f = (l.drop f).take (i - f) ++ c :: l.drop (i + 1) := by
    have h2 : (l.drop f).drop (i - f) = c :: l.drop (i + 1) := by
      rw [List.drop_drop, show f + (i - f) = i from by omega, List.drop_eq_getElem_cons hlt]
      congr 1
      exact (List.getElem?_eq_some_iff.1 hi).2
    rw [← h2, List.take_append_drop]
  conv => lhs; rw [h1]
  exact splitL_cut hfree
theorem spec_split_eq (s : ByteArray) (c : UInt8) (hs : s.size ≤ 4294967280) : spec_l01Split s (c.toNat : Int) = some (splitS s c) := by
  have hn : s.data.toList.length = s.size := size_list s
  have key : ∀ (k i f : Nat) (out : List ByteArray), i + k = s.size → f ≤ i → out.length ≤ i → c ∉ (s.data.toList.drop f).take (i - f) →
      forH (fun (i3 : Int) (_ : Int × (List ByteArray)) => (decide (i3 ≤ (s.size : Int)))) (fun (i3 : Int) (s3 : Int × (List ByteArray)) => (((bif (i3 == (s.size : Int)) then some true else ((byte' s i3).bind fun x7 => some (x7 == (c.toNat : Int))))).bind fun (j8 : Bool) => (bif j8 then ((sub' s s3.1 i3).bind fun x10 => ((app' s3.2 ([x10] : List ByteArray)).bind fun x11 => some ((w64 (i3 + 1)), x11))) else some (s3.1, s3.2)))) (fun (s3 : Int × (List ByteArray)) => s3.2) (i : Int) ((f : Int), out) = some (out ++ (splitL c (s.data.toList.drop f)).map fun l => ⟨l.toArray⟩) := by
    intro k
    induction k with
    | zero =>
      intro i f out hk hf hout hfree
      have hi : i = s.size := by omega
      unfold forH
      rw [loop_eq]
      dsimp only
      have e1 : ((i : Int) == (s.size : Int)) = true := by rw [hi]; simp
      rw [decide_eq_true (by omega), cond_true, e1, cond_true, Option.bind_some, cond_true, sub_ok hf (by omega), Option.bind_some, app_ok (by simp; omega)]
      simp only [Option.bind_some]
      rw [w64_id (by omega) (by omega), loop_eq]
      dsimp only
      rw [decide_eq_false (by omega), cond_false]
      have h1 : (s.data.toList.drop f).take (i - f) = s.data.toList.drop f := List.take_of_length_le (by rw [List.length_drop]; omega)
      rw [h1] at hfree
      rw [splitL_free hfree, h1]
      rfl
    | succ k ih =>
      intro i f out hk hf hout hfree
      have hlt : i < s.data.toList.length := by omega
      have hb : s.data.toList[i]? = some s.data.toList[i] := List.getElem?_eq_getElem hlt
      generalize s.data.toList[i] = b at hb
      unfold forH
      rw [loop_eq]
      dsimp only
      have e1 : ((i : Int) == (s.size : Int)) = false := by rw [beq_eq_false_iff_ne]; omega
      rw [decide_eq_true (by omega), cond_true, e1, cond_false, byte_get hb, Option.bind_some, Option.bind_some]
      by_cases hbc : b = c
      · subst hbc
        have e2 : ((b.toNat : Int) == (b.toNat : Int)) = true := beq_self_eq_true _
        rw [e2, cond_true, sub_ok hf (by omega), Option.bind_some, app_ok (by simp; omega)]
        simp only [Option.bind_some]
        rw [w64_id (n := (i : Int) + 1) (by omega) (by omega)]
        have e3 : (i : Int) + 1 = ((i + 1 : Nat) : Int) := by omega
        rw [e3]
        have := ih (i + 1) (i + 1) (out ++ [⟨((s.data.toList.drop f).take (i - f)).toArray⟩]) (by omega) (Nat.le_refl _) (by simp; omega) (by simp)
        unfold forH at this
        rw [this, splitL_step hf hfree hb]
        simp
      · have e2 : ((b.toNat : Int) == (c.toNat : Int)) = false := by
          rw [Bool.eq_false_iff]
          exact fun h => hbc ((u8_eq b c).1 h)
        rw [e2, cond_false]
        simp only [Option.bind_some]
        rw [w64_id (n := (i : Int) + 1) (by omega) (by omega)]
        have e3 : (i : Int) + 1 = ((i + 1 : Nat) : Int) := by omega
        rw [e3]
        have := ih (i + 1) f out (by omega) (by omega) (by omega) (by
          have h1 : (s.data.toList.drop f).take (i + 1 - f) = (s.data.toList.drop f).take (i - f) ++ [b] := by
            rw [show i + 1 - f = (i - f) + 1 from by omega, List.take_add_one, List.getElem?_drop, show f + (i - f) = i from by omega, hb]
            rfl
          rw [h1]
          intro h
          rcases List.mem_append.1 h with h | h
          · exact hfree h
          · exact hbc (List.mem_singleton.1 h).symm)
        unfold forH at this
        rw [this]
  unfold spec_l01Split
  have := key s.size 0 0 [] (by omega) (Nat.le_refl _) (by simp) (by simp)
  rw [show (0 : Int) = ((0 : Nat) : Int) from rfl, this]
  simp [splitS]
theorem impl_words_eq (s : ByteArray) (hs : s.size ≤ 4294967280) : impl_wordsOf s = some (splitS s 32) := by
  unfold impl_wordsOf strings_Split
  have h : (ByteArray.mk #[32]).data.toList = [32] := rfl
  rw [h]
  dsimp only
  rw [decide_eq_true (by omega), cond_true]
  rfl
theorem splitS_len (s : ByteArray) (c : UInt8) : (splitS s c).length ≤ s.size + 1 := by
  unfold splitS
  rw [List.length_map, splitL_len]
  have h1 : s.data.toList.count c ≤ s.data.toList.length := List.count_le_length
  have := size_list s
  omega
def phraseB (s : ByteArray) : Bool := decide ((splitS s 32).length ≤ 8) && (splitS s 32).all wordB
theorem impl_areWords_eq (L : List ByteArray) (hL : L.length ≤ 9223372036854775807) (h : ∀ x ∈ L, x.size ≤ maxLen) : impl_areWords L = some (L.all wordB) := by
  unfold impl_areWords
  rw [loop_any hL (fun x => !wordB x) false (fun j x hx => by
    rw [at_nat, hx, Option.bind_some, impl_isWord x (h x (List.mem_of_getElem? hx)), Option.bind_some]), ← List.not_all_eq_any_not]
  cases L.all wordB <;> rfl
theorem impl_isPhrase (s : ByteArray) (hs : s.size ≤ 4294967280) : impl_IsPhrase s = some (phraseB s) := by
  unfold impl_IsPhrase phraseB
  have hl := splitS_len s 32
  rw [impl_words_eq s hs, Option.bind_some, impl_areWords_eq _ (by omega) (fun x hx => by have := splitS_size hx; unfold maxLen; omega)]
  by_cases h : (splitS s 32).length ≤ 8
  · rw [decide_eq_true (show ((splitS s 32).length : Int) ≤ 8 by omega), decide_eq_true h]
    rfl
  · rw [decide_eq_false (show ¬ ((splitS s 32).length : Int) ≤ 8 by omega), decide_eq_false h]
    rfl
/-- What l01Phrase hands back. -/
def wordsP (s : ByteArray) : List ByteArray × Bool := bif (splitS s 32).all wordB then (splitS s 32, decide ((splitS s 32).length ≤ 8)) else ([], false)
theorem spec_phrase_eq (s : ByteArray) (hs : s.size ≤ 4294967280) : spec_l01Phrase s = some (wordsP s) := by
  unfold spec_l01Phrase wordsP
  have hl := splitS_len s 32
  rw [show (32 : Int) = ((32 : UInt8).toNat : Int) from rfl, spec_split_eq s 32 hs, Option.bind_some, loop_any (by omega) (fun x => !wordB x) (([] : List ByteArray), false) (fun j x hx => by
    rw [at_nat, hx, Option.bind_some, spec_isWord x (by have := splitS_size (List.mem_of_getElem? hx); unfold maxLen; omega), Option.bind_some]), ← List.not_all_eq_any_not]
  have e : decide (((splitS s 32).length : Int) ≤ 8) = decide ((splitS s 32).length ≤ 8) := by
    by_cases h : (splitS s 32).length ≤ 8
    · rw [decide_eq_true (show ((splitS s 32).length : Int) ≤ 8 by omega), decide_eq_true h]
    · rw [decide_eq_false (show ¬ ((splitS s 32).length : Int) ≤ 8 by omega), decide_eq_false h]
  rw [e]
  cases (splitS s 32).all wordB <;> rfl
theorem spec_isPhrase (s : ByteArray) (hs : s.size ≤ 4294967280) : spec_IsPhrase s = some (phraseB s) := by
  unfold spec_IsPhrase phraseB
  rw [spec_phrase_eq s hs, Option.bind_some]
  unfold wordsP
  cases (splitS s 32).all wordB
  · simp
  · simp
end Go.Proofs.YtpohkmbkohjahaaGreatDoor.Sh
