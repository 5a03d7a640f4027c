/- The law FnExchange answers true; no condition but the bounds of its argument's type. -/
import Derived.Test.YtbaainlnmackeaaGreatDoorMJ8
import Derived.Test.YtbaainlnmackeaaGreatDoorMJA
import Derived.Test.YtbaainlnmackeaaGreatDoorR1
import Derived.Test.YtbaainlnmackeaaGreatDoorQA
namespace Go.Proofs.YtbaainlnmackeaaGreatDoor.Sh
open Go.RowKit Go.Lib
theorem likeInts_selfX (L : List Int) (hL : L.length ≤ 1000000000) : laws_likeInts L L = some true := by
  unfold laws_likeInts
  rw [bne_self_eq_false, cond_false]
  exact loop_same (by omega) (fun i x hx => by rw [at_nat, hx]; simp)
theorem likeTexts_selfX (L : List ByteArray) (hL : L.length ≤ 1000000000) : laws_likeTexts L L = some true := by
  unfold laws_likeTexts
  rw [bne_self_eq_false, cond_false]
  exact loop_same (by omega) (fun i x hx => by rw [at_nat, hx]; simp)
theorem likeOps_selfX (L : List Op) (hL : L.length ≤ 1000000000) (h : ∀ x ∈ L, OpR x) : laws_likeOps L L = some true := by
  unfold laws_likeOps
  rw [bne_self_eq_false, cond_false]
  exact loop_same (by omega) (fun i x hx => by
    have hs := (h x (List.mem_of_getElem? hx)).s
    simp only [at_nat, hx, Option.bind_some, bne_self_eq_false, cond_false, beq_self_eq_true, Bool.not_true, likeInts_selfX x.Seen (by omega)])
theorem impl_stateV {L : List Op} (hL : L.length ≤ 1048576) (hx : ∀ x ∈ L, OpR x) (hlog : logB L = true) : impl_StateOfLog L = some (stV L, 0) := by
  unfold impl_StateOfLog
  rw [impl_isLog_eq L hL hx, hlog]
  simp only [Option.bind_some, Bool.not_true, cond_false, impl_state hx hlog]
theorem FnExchange_true (c : List Int) (hc : c.length ≤ maxLen ∧ ∀ x ∈ c, okU8 x) : laws_FnExchange c = some true := by
  unfold laws_FnExchange laws_big
  rw [Option.bind_some]
  by_cases hbig : (c.length : Int) > 4096
  · rw [decide_eq_true hbig]
    rfl
  rw [decide_eq_false hbig, cond_false]
  have hcode : CodeOk c := ⟨by omega, hc.2⟩
  obtain ⟨s0, f0, c0⟩ := from_ok hcode
  -- the draws
  have hd1 : ∃ a b, spec_DrawMergeLogs c = some (a, b) ∧ LogD a ∧ LogD b := by
    unfold spec_DrawMergeLogs
    obtain ⟨x1, s1, f1, _, _, c1⟩ := next_ok c0 12 (by omega)
    simp only [f0, f1, Option.bind_some]
    cases x1 == 0
    · obtain ⟨a, b, s2, f2, da, db, _⟩ := l32Two_ok c1
      simp only [cond_false, f2, Option.bind_some]
      exact ⟨a, b, rfl, da, db⟩
    · obtain ⟨a, s2, f2, da, c2⟩ := l32Draw_ok c1
      obtain ⟨b, s3, f3, db, _⟩ := l32Draw_ok c2
      simp only [cond_true, f2, f3, Option.bind_some]
      exact ⟨a, b, rfl, da, db⟩
  obtain ⟨a, b, d1, da, db⟩ := hd1
  obtain ⟨L, s1, f1, dL, c1⟩ := l32Draw_ok c0
  have d3 : spec_DrawStateOfLog c = some L := by
    unfold spec_DrawStateOfLog
    simp only [f0, f1, Option.bind_some]
  have hd2 : ∃ v, spec_DrawMissingFor c = some (L, v) ∧ v.length ≤ 4 := by
    unfold spec_DrawMissingFor
    obtain ⟨x2, s2, f2, _, _, c2⟩ := next_ok c1 4 (by omega)
    obtain ⟨x3, s3, f3, _, _, c3⟩ := next_ok c2 4 (by omega)
    obtain ⟨x4, s4, f4, _, _, c4⟩ := next_ok c3 3 (by omega)
    obtain ⟨x5, s5, f5, _, _, c5⟩ := next_ok c4 3 (by omega)
    obtain ⟨x6, s6, f6, _, _, c6⟩ := next_ok c5 24 (by omega)
    obtain ⟨x7, s7, f7, a7, b7, c7⟩ := next_ok c6 24 (by omega)
    simp only [f0, f1, f2, f3, f4, f5, f6, Option.bind_some]
    have hj : ∃ j : List Int, ((bif (x6 == 0) then ((at' ([x2, x3, x4, x5] : List Int) 0).bind fun _ => some (List.set ([x2, x3, x4, x5] : List Int) (Int.toNat 0) (-1))) else some ([x2, x3, x4, x5] : List Int))) = some j ∧ j.length = 4 := by
      cases x6 == 0
      · exact ⟨_, rfl, rfl⟩
      · exact ⟨_, rfl, rfl⟩
    obtain ⟨j, e, hj⟩ := hj
    rw [e]
    simp only [f7, Option.bind_some]
    have ht : 0 ≤ Int.tdiv x7 23 ∧ Int.tdiv x7 23 ≤ 1 := by
      rw [Int.tdiv_eq_ediv_of_nonneg a7]
      omega
    rw [w64_id (n := Int.tdiv x7 23) (by omega) (by omega), w64_id (by omega) (by omega), part_ok (by omega) (by omega) (by omega), Option.bind_some]
    exact ⟨_, rfl, by simp; omega⟩
  obtain ⟨v, d2, hv⟩ := hd2
  have hal := da.1
  have hbl := db.1
  have hLl := dL.1
  obtain ⟨m, m1, m2, m3, m4⟩ := merge_val a b (by omega) (by omega) da.2 db.2
  obtain ⟨g, g1, g2, g3, _⟩ := missing_val L v (by omega) dL.2 (by omega)
  obtain ⟨s, t1, t2, t3⟩ := stateOfLog_eq (L := L) (by omega) dL.2
  obtain ⟨w, w1, w2, w3⟩ := vectorOf_eq L (by omega) dL.2
  have e13 := likeOps_selfX m.1 (by have := m3.1; omega) m3.2
  have e14 := likeInts_selfX g.1 (by omega)
  have e15 := likeTexts_selfX s.1 (by omega)
  have e16 := likeInts_selfX w.1 (by omega)
  have hw2 : (w.2 == 0) = logB L := by
    unfold impl_VectorOf at w1
    rw [impl_isLog_eq L (by omega) dL.2, Option.bind_some] at w1
    cases hlog : logB L
    · rw [hlog] at w1
      have := Option.some.inj w1
      rw [← this]
      rfl
    · obtain ⟨h16, hg⟩ := logB_good hlog
      rw [hlog, impl_vec (by omega) fun x hx => (hg x hx).o] at w1
      have := Option.some.inj w1
      rw [← this]
      rfl
  rw [d1, Option.bind_some, m1, Option.bind_some, m2, Option.bind_some, d2, Option.bind_some, g1, Option.bind_some, g2, Option.bind_some, d3, Option.bind_some, t1, Option.bind_some, t2, Option.bind_some, w1, Option.bind_some, w2, Option.bind_some]
  simp only [bne_self_eq_false, cond_false, e13, e14, e15, e16, Option.bind_some, Bool.not_true, impl_isLog_eq L (show L.length ≤ 1048576 by omega) dL.2, hw2, beq_self_eq_true]
  cases hm0 : (m.2 == 0)
  · rw [bne, hm0]
    rfl
  rw [bne, hm0, Bool.not_true, cond_false]
  -- both are logs that may be merged
  have hz : m.2 = 0 := beq_iff_eq.1 hm0
  cases hla : logB a
  · rw [hla] at m4; rw [m4] at hz; cases hz
  cases hlb : logB b
  · rw [hla, hlb] at m4; rw [m4] at hz; cases hz
  rw [hla, hlb, cond_true, cond_true] at m4
  have fa : logF [] a = true := by unfold logB at hla; rw [Bool.and_eq_true] at hla; exact hla.1
  have fb : logF [] b = true := by unfold logB at hlb; rw [Bool.and_eq_true] at hlb; exact hlb.1
  cases hmr : mrg a b a with
  | none => rw [hmr] at m4; rw [m4] at hz; cases hz
  | some r =>
    rw [hmr] at m4
    unfold mrgV at m4
    dsimp only at m4
    cases hd : decide ((r.length : Int) > 16)
    · rw [hd, cond_false] at m4
      obtain ⟨hcp, hr⟩ := mrg_some fa b a r hmr
      have hcp : Compat a b := hcp
      have hr : r = joinL a b := hr
      have hcq : Compat b a := hcp.symm fa
      have hl16 : r.length ≤ 16 := by have := of_decide_eq_false hd; omega
      have hmn := mrg_of fb a b hcq
      have hln : (joinL b a).length ≤ 16 := by rw [← join_len fa fb, ← hr]; exact hl16
      obtain ⟨n, n1, n2, n3, n4⟩ := merge_val b a (by omega) (by omega) db.2 da.2
      rw [hla, hlb, cond_true, cond_true, hmn] at n4
      have n4 : n = (joinL b a, 0) := by
        rw [n4]
        unfold mrgV
        dsimp only
        have : decide (((b ++ a.filter fun x => !inA b x).length : Int) > 16) = false := decide_eq_false (by
          have : (b ++ a.filter fun x => !inA b x).length ≤ 16 := hln
          omega)
        rw [this]
        rfl
      rw [hr] at m4
      subst m4 n4
      have hM : ∀ x ∈ joinL a b, OpR x := m3.2
      have hN : ∀ x ∈ joinL b a, OpR x := n3.2
      have lM : logB (joinL a b) = true := by
        unfold logB
        rw [join_log fa b fb, Bool.true_and, decide_eq_true_eq, ← hr]
        exact hl16
      have lN : logB (joinL b a) = true := by
        unfold logB
        rw [join_log fb a fa, Bool.true_and, decide_eq_true_eq]
        exact hln
      have hlm : (joinL a b).length ≤ 16 := by rw [← hr]; exact hl16
      have hsame : ∀ z, z ∈ joinL a b ↔ z ∈ joinL b a := fun z => by
        rw [join_mem hcp, join_mem hcq]
        exact Or.comm
      have hst := stV_congr hM hN lM lN hsame
      have hvv : impl_VectorOf (joinL a b) = some (vec (joinL a b), 0) := by
        obtain ⟨h16, hg⟩ := logB_good lM
        unfold impl_VectorOf
        rw [impl_isLog_eq _ (by omega) hM, lM, impl_vec (by omega) fun x hx => (hg x hx).o]
        rfl
      have hcnt : ∀ x, x ∈ a ∨ x ∈ b → x.Number ≤ gv (vec (joinL a b)) x.Office := fun x hx => by
        have ho : 0 ≤ x.Office ∧ x.Office ≤ 3 := hx.elim (fun h => ((logB_good hla).2 x h).o) fun h => ((logB_good hlb).2 x h).o
        rw [gv_vec _ ho.1 ho.2]
        exact ((num_iff _ (join_log fa b fb) x.Office x.Number).1 ⟨x, (join_mem hcp).2 hx, rfl, rfl⟩).2
      have missA : impl_MissingFor a (vec (joinL a b)) = some ([], 0) := by
        obtain ⟨q, q1, _, _, q4⟩ := missing_val a (vec (joinL a b)) (by omega) da.2 (by simp [vec])
        rw [q1, q4 hla (vecB_vec _), miss_none fun x hx => hcnt x (.inl hx)]
      have missB : impl_MissingFor b (vec (joinL a b)) = some ([], 0) := by
        obtain ⟨q, q1, _, _, q4⟩ := missing_val b (vec (joinL a b)) (by omega) db.2 (by simp [vec])
        rw [q1, q4 hlb (vecB_vec _), miss_none fun x hx => hcnt x (.inr hx)]
      have hstl : (stV (joinL b a)).length ≤ 1000000000 := by
        unfold stV
        rw [List.length_map]
        have := sortedS_len ((joinL b a).map Op.Key)
        rw [List.length_map] at this
        omega
      rw [n1, Option.bind_some, impl_stateV (by omega) hM lM, Option.bind_some, impl_stateV (by omega) hN lN, Option.bind_some, hvv, Option.bind_some, missA, Option.bind_some, missB, Option.bind_some, impl_isLog_eq _ (by omega) hM, lM, hst, Option.bind_some]
      simp only [cond_true, beq_self_eq_true, likeTexts_selfX _ hstl, Option.bind_some, List.length_nil]
      rfl
    · rw [hd, cond_true] at m4
      rw [m4] at hz
      cases hz
end Go.Proofs.YtbaainlnmackeaaGreatDoor.Sh
