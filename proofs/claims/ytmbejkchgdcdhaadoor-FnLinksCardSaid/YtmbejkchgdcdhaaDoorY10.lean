/- The law FnLinks answers true for every code of bytes; no other condition. -/
import Derived.Test.YtmbejkchgdcdhaaDoorY9
import Derived.Test.YtmbejkchgdcdhaaDoorW11
namespace Go.Proofs.YtmbejkchgdcdhaaDoor.Sh
open Go.RowKit Go.Lib
theorem likeInts_self (L : List Int) (hL : L.length ≤ 1048576) : laws_likeInts L L = some true := by
  unfold laws_likeInts
  rw [bne_self_eq_false, cond_false, loop_any (by omega) (fun _ => false) false (fun i x hx => by
    rw [at_nat, hx]
    simp)]
  have : (L.any fun _ => false) = false := by simp
  rw [this]
  rfl
theorem likeTables_self (L : List (List Int)) (hL : L.length ≤ 1048576) (h : ∀ x ∈ L, x.length ≤ 1048576) : laws_likeTables L L = some true := by
  unfold laws_likeTables
  rw [bne_self_eq_false, cond_false, loop_any (by omega) (fun _ => false) false (fun i x hx => by
    rw [at_nat, hx]
    simp only [Option.bind_some, likeInts_self x (h x (List.mem_of_getElem? hx))]
    simp)]
  have : (L.any fun _ => false) = false := by simp
  rw [this]
  rfl
theorem sum_loop (G : List (List Int)) (hG : G.length ≤ 12) (hg : ∀ g ∈ G, g.length ≤ 12) : forS (G.length : Int) (fun (i29 : Int) (s29 : Int) => ((at' G i29).bind fun x33 => some (w64 (s29 + (x33.length : Int))))) (fun (s29 : Int) => s29) 0 0 = some (((G.map List.length).foldl (· + ·) 0 : Nat) : Int) := by
  have h1 := forS_foldl_list (L := G) (by omega) (B := fun (i29 : Int) (s29 : Int) => ((at' G i29).bind fun x33 => some (w64 (s29 + (x33.length : Int))))) (D := fun s => s) (fun _ : Int => True) (fun s g => w64 (s + (g.length : Int))) 0 (fun i x s hx _ => by rw [at_nat, hx]; exact ⟨rfl, trivial⟩) trivial
  rw [h1.1]
  congr 1
  have key : ∀ (M : List (List Int)) (k : Nat), k + 12 * M.length ≤ 1000 → (∀ g ∈ M, g.length ≤ 12) → M.foldl (fun (s : Int) g => w64 (s + (g.length : Int))) (k : Int) = (((M.map List.length).foldl (· + ·) k : Nat) : Int) := by
    intro M
    induction M with
    | nil => intro k _ _; rfl
    | cons g M ih =>
      intro k hk hM
      have hgl := hM g (by simp)
      rw [List.length_cons] at hk
      rw [List.foldl_cons, w64_id (by omega) (by omega), List.map_cons, List.foldl_cons]
      have := ih (k + g.length) (by omega) (fun x hx => hM x (by simp [hx]))
      rw [← this]
      simp
  exact key G 0 (by omega) hg
theorem walk_loop (L : List Tie) (hL : ∀ t ∈ L, 0 ≤ t.A ∧ t.A < 12 ∧ 0 ≤ t.B ∧ t.B < 12) : ∀ (p : List Int) (k : Nat) (x b : Int), 0 ≤ x → x < 12 → walkP L x p = some b →
    overI (fun (_ : Nat) (x40 : Int) (s36 : Int) => ((at' L x40).bind fun x41 => (bif ((!x41.Same) || ((x41.A != s36) && (x41.B != s36))) then some (.inr (.inr false)) else some (.inl (w64 ((w64 (x41.A + x41.B)) - s36)))))) (fun (s36 : Int) => (.inl s36 : Int ⊕ Bool)) p k x = some (.inl b)
  | [], k, x, b, _, _, h => by
    unfold walkP at h
    injection h with h
    subst h
    rfl
  | i :: p, k, x, b, h0, h1, h => by
    unfold walkP at h
    obtain ⟨t, h2, h⟩ := Option.bind_eq_some_iff.1 h
    cases hc : (!t.Same || (t.A != x && t.B != x))
    · rw [hc, cond_false] at h
      have hr := hL t (List.mem_of_getElem? (at_some h2).2)
      have e1 : w64 (t.A + t.B) = t.A + t.B := w64_id (by omega) (by omega)
      have e2 : w64 (t.A + t.B - x) = t.A + t.B - x := w64_id (by omega) (by omega)
      have hx : 0 ≤ t.A + t.B - x ∧ t.A + t.B - x < 12 := by
        simp only [Bool.or_eq_false_iff, Bool.and_eq_false_iff, bne_eq_false_iff_eq] at hc
        omega
      unfold overI
      rw [h2, Option.bind_some, hc, cond_false, e1, e2]
      exact walk_loop L hL p (k + 1) _ b hx.1 hx.2 h
    · rw [hc] at h
      cases h
theorem FnLinks_true (c : List Int) (h : c.length ≤ maxLen ∧ ∀ x ∈ c, okU8 x) : laws_FnLinks c = some true := by
  unfold laws_FnLinks laws_big
  rw [Option.bind_some]
  by_cases hb : (c.length : Int) > 4096
  · rw [decide_eq_true hb]
    rfl
  rw [decide_eq_false hb, cond_false]
  have hc : CodeOk c := ⟨by omega, h.2⟩
  obtain ⟨n, L, a, b, e1, hn, hL, ht⟩ := drawPro_ok hc
  obtain ⟨x, y, t, e2, hx, hy, hty, ht2⟩ := drawAdd_ok hc
  obtain ⟨u, v, e3, hu, hv, htv⟩ := drawRef_ok hc
  have hLm : L.length ≤ maxLen := by unfold maxLen; omega
  have hvm : v.length ≤ maxLen := by unfold maxLen; omega
  obtain ⟨r3, m1, m2, m3⟩ := proofOf_eq n L a b hLm ht
  obtain ⟨r6, s1, s2, s3⟩ := addTie_ok (n := x) (L := y) (t := t) (by omega) hty ht2
  obtain ⟨r6', s1', _, s4⟩ := addTie_eq x y t (by omega) hty ht2
  have : r6' = r6 := by rw [s2] at s1'; injection s1' with s1'; exact s1'.symm
  subst this
  obtain ⟨r9, q1, q2, q3⟩ := refutation_eq u v hvm htv
  obtain ⟨r11, o1, o2⟩ := areSound_eq u v hvm htv
  have v11 := areSound_val u v hvm htv
  rw [o1] at v11
  injection v11 with v11
  have v9 := refutation_code u v hvm htv q1
  have g1 := groupsOf_val u v hvm htv
  have g2 := groupsOf_spec u v hvm htv
  generalize hg : (bif tiesB u v then (groups u.toNat v, (0 : Int)) else ([], 1)) = r13 at g1 g2
  have hgl : r13.1.length ≤ 12 ∧ (∀ g ∈ r13.1, g.length ≤ 12) ∧ (r13.2 = 0 → ((r13.1.map List.length).foldl (· + ·) 0 : Nat) = u) := by
    rw [← hg]
    cases hbt : tiesB u v
    · exact ⟨by simp, by simp, fun h => by cases h⟩
    · obtain ⟨m, rfl, hT, _⟩ := tiesB_in hbt
      have hm := hT.le
      refine ⟨Nat.le_trans (groups_len m v m) hm, fun g hg => Nat.le_trans (groups_small hg) hm, fun _ => ?_⟩
      show (((groups m v).map List.length).foldl (· + ·) 0 : Nat) = (m : Int)
      rw [groups_all hT]
  obtain ⟨gl1, gl2, gl3⟩ := hgl
  simp only [e1, m1, m2, e2, s1, s2, e3, q1, q2, o1, o2, g1, g2, Option.bind_some, bne_self_eq_false, cond_false, beq_self_eq_true, Bool.not_true, likeTies_self r6'.1 (by omega), likeInts_self r3.1 (by omega), likeInts_self r9.2.1 (by omega), likeTables_self r13.1 (by omega) (fun g hg => by have := gl2 g hg; omega), impl_areTies u v hvm htv]
  have z1 : (tiesB u v == (r11.2 == 0)) = true := by
    rw [v11]
    cases tiesB u v <;> rfl
  rw [z1]
  simp only [Bool.not_true, cond_false]
  have z2 : ((r11.2 == 0) && (!(r11.1 == (r9.2.2 == 4)))) = false := by
    rw [v11, v9]
    cases tiesB u v
    · rfl
    · cases badB u.toNat v <;> rfl
  rw [z2, cond_false]
  have z3 : (bif (r6'.2 == 0) then ((impl_AreSound x r6'.1).bind fun x24 => (bif ((x24.2 != 0) || (!x24.1)) then some (.inr false) else some (.inl ()))) else some (.inl ()) : Option (Unit ⊕ Bool)) = some (.inl ()) := by
    by_cases h0 : r6'.2 = 0
    · obtain ⟨k1, k2, k3⟩ := s3 h0
      rw [k1, areSound_val x (y ++ [t]) (by unfold maxLen; simp; omega) (tok_snoc hty ht2), k2, k3, h0]
      rfl
    · have : (r6'.2 == 0) = false := by simpa using h0
      rw [this]
      rfl
  rw [z3, Option.bind_some, Sum.elim_inl]
  have z4 : (bif (r13.2 == 0) then (((forS (r13.1.length : Int) (fun (i29 : Int) (s29 : Int) => ((at' r13.1 i29).bind fun x33 => some (w64 (s29 + (x33.length : Int))))) (fun (s29 : Int) => s29) 0 0)).bind fun (j27 : Int) => (bif (j27 != u) then some (.inr false) else some (.inl ()))) else some (.inl ()) : Option (Unit ⊕ Bool)) = some (.inl ()) := by
    by_cases h0 : r13.2 = 0
    · rw [sum_loop r13.1 gl1 gl2, Option.bind_some, gl3 h0, bne_self_eq_false, h0]
      rfl
    · have : (r13.2 == 0) = false := by simpa using h0
      rw [this]
      rfl
  rw [z4, Option.bind_some, Sum.elim_inl]
  by_cases h0 : r3.2 = 0
  · obtain ⟨w1, w2, w3⟩ := proofOf_walk n L a b hLm ht m1 h0
    have : (r3.2 != 0) = false := by simpa using h0
    rw [this, cond_false, forN_at (A := Int ⊕ Bool) r3.1 (by omega) (fun (_ : Int) (x40 : Int) (s36 : Int) => ((at' L x40).bind fun x41 => (bif ((!x41.Same) || ((x41.A != s36) && (x41.B != s36))) then some (.inr (.inr false)) else some (.inl (w64 ((w64 (x41.A + x41.B)) - s36)))))), walk_loop L w2 r3.1 0 a b w1.1 w1.2 w3, Option.bind_some, Sum.elim_inl, beq_self_eq_true]
  · have : (r3.2 != 0) = true := by simpa using h0
    rw [this]
    rfl
end Go.Proofs.YtmbejkchgdcdhaaDoor.Sh
