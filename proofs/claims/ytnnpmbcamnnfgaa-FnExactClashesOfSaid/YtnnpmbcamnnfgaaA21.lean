/- The marks in a slice of slices, and the law FnExactClashesOf answers true, for every readable pair of slices. -/
import Derived.Test.YtnnpmbcamnnfgaaA20
import Derived.Test.YtnnpmbcamnnfgaaL1
namespace Go.Proofs.Ytnnpmbcamnnfgaa
open Go.RowKit
def ints (k : Int) (n : Nat) : List Int := (List.range n).map fun (i : Nat) => k + i
def tot {α : Type} : List (Value × List α) → Nat
  | [] => 0
  | p :: r => p.2.length + tot r
def marked (k : Int) : List (Value × List Int) → List (Value × List Int)
  | [] => []
  | p :: r => (p.1, ints k p.2.length) :: marked (k + p.2.length) r
theorem ints_len (k : Int) (n : Nat) : (ints k n).length = n := by simp [ints]
theorem tot_append {α : Type} : ∀ G H : List (Value × List α), tot (G ++ H) = tot G + tot H
  | [], H => by simp [tot]
  | p :: r, H => by rw [List.cons_append, tot, tot, tot_append r H]; omega
theorem tot_take {α : Type} (G : List (Value × List α)) (j : Nat) : tot (G.take j) ≤ tot G := by
  have h := tot_append (G.take j) (G.drop j)
  rw [List.take_append_drop] at h
  omega
theorem marked_append : ∀ (k : Int) (G H : List (Value × List Int)), marked k (G ++ H) = marked k G ++ marked (k + tot G) H
  | k, [], H => by simp [marked, tot]
  | k, p :: r, H => by rw [List.cons_append, marked, marked, marked_append _ r H, tot, List.cons_append]; congr 3; omega
theorem enc_ints {w : World} {S : Nat → Prop} : ∀ L : List Int, Enc w S L (L.map fun x => .int .i64 x)
  | [] => rfl
  | x :: r => ⟨[.int .i64 x], r.map fun x => .int .i64 x, rfl, rfl, enc_ints r⟩
theorem mk_ints (k : Int) (n : Nat) : mk k n = (ints k n).map fun x => .int .i64 x := by simp [mk, ints]
theorem enc_mk {w : World} {S : Nat → Prop} (k : Int) (n : Nat) : Enc w S (ints k n) (mk k n) := by rw [mk_ints]; exact enc_ints _
theorem NAcc.put {α : Type} [Rep α] [Flat α] {w w' : World} {base te ti : Nat} {v : Value} {G H : List (Value × List α)} {p : Value × List α} {y : List α} (h : NAcc w base te ti v (G ++ p :: H)) (hg : w.grownBy w' p.1.ownBlock) (ht : te ≠ ti) (ha : Acc w' base ti p.1 y) : NAcc w' base te ti v (G ++ (p.1, y) :: H) := by
  have hp := h.2.2 p (by simp)
  obtain ⟨xs, h1, _⟩ := hp
  have hap := h.2.1
  rw [List.pairwise_append] at hap
  obtain ⟨g1, g2, g3⟩ := hap
  rw [List.pairwise_cons] at g2
  refine ⟨?_, ?_, ?_⟩
  · have := h.1.kept hg (own_apart h.1 h1 ht)
    simpa using this
  · rw [List.pairwise_append, List.pairwise_cons]
    refine ⟨g1, ⟨g2.1, g2.2⟩, fun q hq r hr => ?_⟩
    rcases List.mem_cons.1 hr with rfl | hr
    · exact g3 q hq p (by simp)
    · exact g3 q hq r (by simp [hr])
  · intro q hq
    simp only [List.mem_append, List.mem_cons] at hq
    rcases hq with hq | rfl | hq
    · exact (h.2.2 q (by simp [hq])).grown hg (g3 q hq p (by simp))
    · exact ha
    · refine (h.2.2 q (by simp [hq])).grown hg ?_
      rcases g2.1 q hq with e | e
      · rw [e]
        rcases hv : q.1.ownBlock with _ | k
        · exact .inl rfl
        · exact .inr (by simp)
      · exact .inr (fun h => e h.symm)
theorem NAcc.cell {α : Type} [Rep α] {w : World} {base te ti : Nat} {A : Option Addr} {n c : Nat} {G : List (Value × List α)} (h : NAcc w base te ti (.slice A n c) G) {k : Nat} {p : Value × List α} (hp : G[k]? = some p) :
    ∃ g, A = some ⟨g, 0, none⟩ ∧ base ≤ g ∧ g < w.heap.size ∧ w.cell? ⟨g, k, none⟩ = some p.1 := by
  have hk := lt_of_get hp
  have h1 := h.1
  obtain ⟨A', c', hv⟩ := h.form
  injection hv with h2 h3 h4
  subst h3
  obtain ⟨g, rfl, hb, hg⟩ := own_form h1 (by omega)
  refine ⟨g, rfl, hb, hg, ?_⟩
  rw [h1.cellAt k (by omega), List.getElem?_map, hp]
  rfl
set_option maxHeartbeats 1000000 in
set_option maxRecDepth 100000 in
theorem markRows (A : Option Addr) (n c : Nat) (k0 : Int) (G : List (Value × List Int)) (base : Nat) (w : World) (ha : NAcc w base 29 2 (.slice A n c) G) (hc : n ≤ maxLen) (h0 : 0 ≤ k0) (hk0 : k0 + tot G ≤ 9000000000000000000) (hB : base ≤ w.heap.size) :
    Calls Try.prog 42 #[.slice A n c, .int .i64 k0] w fun e w' => e = .returned (.int .i64 (k0 + tot G)) ∧ Below base w w' ∧ w.heap.size ≤ w'.heap.size ∧ NAcc w' base 29 2 (.slice A n c) (marked k0 G) := by
  have hn : G.length = n := by
    obtain ⟨A', c', hv⟩ := ha.form
    injection hv with h1 h2 h3
    exact h2.symm
  have hm : n ≤ 9223372036854775807 := hc
  go_enter Try.func42, Try.ntmps42
  go_wp2
  go_loopw [1, 5] (fun q i wr => ∃ k : Nat, k ≤ n ∧ i = .int .i64 k ∧ q = .int .i64 (k0 + tot (G.take k)) ∧ NAcc wr base 29 2 (.slice A n c) (marked k0 (G.take k) ++ G.drop k) ∧ Below base w wr ∧ w.heap.size ≤ wr.heap.size) (fun _ i _ => n - (intOf i).toNat)
  case atStart => exact ⟨0, Nat.zero_le _, rfl, by simp [tot], by simpa [marked] using ha, Below.refl _ _, Nat.le_refl _⟩
  case round =>
    obtain ⟨k, hk, rfl, rfl, hacc, hbw, hsz⟩ := hrel
    by_cases hlt : k < n
    · obtain ⟨p, hp⟩ := get_of (L := G) (k := k) (by omega)
      have hd := drop_of hp
      have ht := take_of hp
      have hle := tot_take G (k + 1)
      rw [ht, tot_append, tot, tot] at hle
      have hget : (marked k0 (G.take k) ++ G.drop k)[k]? = some p := by
        have hl : ∀ (k : Int) (H : List (Value × List Int)), (marked k H).length = H.length := by
          intro k H
          induction H generalizing k with
          | nil => rfl
          | cons q r ih => rw [marked, List.length_cons, ih]; rfl
        rw [List.getElem?_append_right (by rw [hl, List.length_take]; omega), hl, List.length_take, hd, show k - min k G.length = 0 from by omega]
        rfl
      obtain ⟨g, rfl, hg1, hg2, hcell⟩ := hacc.cell hget
      have hin := hacc.2.2 p (List.mem_of_getElem? hget)
      obtain ⟨Ai, ci, hf⟩ := hin.form
      obtain ⟨pv, pl⟩ := p
      dsimp only at hf hcell hin hle
      subst hf
      obtain ⟨xs, ho⟩ := hin.own
      have hcall := markInts Ai pl.length ci (k0 + tot (G.take k)) xs base wr ho (by omega) (by omega)
      have HC := Lib.hid hcall
      have Hd := Lib.hid hd
      have Ht := Lib.hid ht
      have HA := Lib.hid hacc
      clear hcall hd ht hget hp hacc
      go_wp2_with (go_at_call 25; refine HC.out.mono ?_; rintro e w' ⟨rfl, h1, h2⟩)
      have ha2 : Acc w' base 2 (.slice Ai pl.length ci) (ints (k0 + tot (G.take k)) pl.length) := ⟨mk (k0 + tot (G.take k)) pl.length, by rw [ints_len]; rw [Nat.mul_one] at h1; exact h1, enc_mk _ _⟩
      have h3 := HA.out
      rw [Hd.out] at h3
      have h4 := h3.put h2 (by decide) ha2
      refine ⟨⟨k + 1, by omega, by go_num, by rw [Ht.out, tot_append, tot, tot]; go_num, ?_, hbw.grown h2 (by omega) (fun b hb => (hin.lts b hb).1), Nat.le_trans hsz h2.size⟩, by simp [intOf]; omega⟩
      rw [Ht.out, marked_append, List.append_assoc]
      exact h4
    · go_wp2
      go_ret
      obtain rfl : k = n := by omega
      rw [List.take_of_length_le (by omega), List.drop_eq_nil_of_le (by omega), List.append_nil] at hacc
      exact ⟨ret_int (by rw [List.take_of_length_le (by omega)]), hbw, hsz, hacc⟩
set_option maxHeartbeats 1000000 in
set_option maxRecDepth 100000 in
theorem heldRows (A : Option Addr) (n c : Nat) (k0 : Int) (G : List (Value × List Int)) (base : Nat) (w : World) (ha : NAcc w base 29 2 (.slice A n c) (marked k0 G)) (hn : G.length = n) (hc : n ≤ maxLen) (h0 : 0 ≤ k0) (hk0 : k0 + tot G ≤ 9000000000000000000) :
    Calls Try.prog 43 #[.slice A n c, .int .i64 k0] w fun e w' => e = .returned (.int .i64 (k0 + tot G)) ∧ ∃ X : Ext w, w' = X.W := by
  have hm : n ≤ 9223372036854775807 := hc
  go_enter Try.func43, Try.ntmps43
  go_wp2
  go_loopw [1, 5] (fun q i wr => Below w.heap.size w wr ∧ ∃ k : Nat, k ≤ n ∧ i = .int .i64 k ∧ q = .int .i64 (k0 + tot (G.take k))) (fun _ i _ => n - (intOf i).toNat)
  case atStart => exact ⟨Below.refl _ _, 0, Nat.zero_le _, rfl, by simp [tot]⟩
  case round =>
    obtain ⟨hbw, k, hk, rfl, rfl⟩ := hrel
    obtain ⟨X, rfl⟩ := ext_of hbw
    have sX := X.size
    by_cases hlt : k < n
    · obtain ⟨p, hp⟩ := get_of (L := G) (k := k) (by omega)
      have hd := drop_of hp
      have ht := take_of hp
      have hle := tot_take G (k + 1)
      rw [ht, tot_append, tot, tot] at hle
      have hget : (marked k0 G)[k]? = some (p.1, ints (k0 + tot (G.take k)) p.2.length) := by
        have hl : ∀ (k : Int) (H : List (Value × List Int)), (marked k H).length = H.length := by
          intro k H
          induction H generalizing k with
          | nil => rfl
          | cons q r ih => rw [marked, List.length_cons, ih]; rfl
        conv => lhs; rw [← List.take_append_drop k G, marked_append, hd]
        rw [List.getElem?_append_right (by rw [hl, List.length_take]; omega), hl, List.length_take, show k - min k G.length = 0 from by omega]
        rfl
      obtain ⟨g, rfl, hg1, hg2, hcell⟩ := ha.cell hget
      have hin := (ha.ext X).2.2 _ (List.mem_of_getElem? hget)
      obtain ⟨Ai, ci, hf⟩ := hin.form
      obtain ⟨pv, pl⟩ := p
      dsimp only at hf hcell hin hle
      rw [ints_len] at hf
      subst hf
      have hcall : Calls Try.prog 26 #[.slice Ai pl.length ci, .int .i64 (k0 + tot (G.take k))] X.W fun e w' => e = .returned (.int .i64 (k0 + tot (G.take k) + pl.length)) ∧ ∃ Y : Ext X.W, w' = Y.W := by
        obtain ⟨xs, h1, h2⟩ := hin
        have he : ∀ (L : List Int) (xs : List Value), Enc X.W (fun _ => False) L xs → xs = L.map fun x => .int .i64 x := by
          intro L
          induction L with
          | nil => intro xs h; exact h
          | cons x r ih =>
            rintro xs ⟨cs, ys, rfl, h1, h2⟩
            rw [ih ys h2, show cs = [.int .i64 x] from h1]
            rfl
        rw [he _ _ h2, ← mk_ints, ints_len] at h1
        have := heldInts Ai pl.length ci (k0 + tot (G.take k)) base X.W (by rw [Nat.mul_one]; exact h1) (by omega) (by omega)
        simpa using this
      have HC := Lib.hid hcall
      have Hd := Lib.hid hd
      have Ht := Lib.hid ht
      clear hcall hd ht hget hp hin
      go_wp2_with (go_at_call 26; refine (HC.out).mono ?_; rintro e w' ⟨rfl, x1, rfl⟩; have sx1 := Ext.size x1; try simp at sx1)
      refine ⟨⟨by (repeat' (first | (with_reducible exact Below.refl _ _) | (with_reducible assumption) | (with_reducible refine Below.setCell ?_ ?_ _) | (with_reducible refine Below.alloc ?_ ?_ _) | (with_reducible refine Below.ext ?_ ?_ _) | omega | (simp; done) | (simp; omega) | (with_reducible refine Below.drew ?_))), k + 1, by omega, by go_num, by rw [Ht.out, tot_append, tot, tot]; go_num⟩, by simp [intOf]; omega⟩
    · go_wp2
      go_ret
      refine ⟨ret_int ?_, ext_mk hbw⟩
      rw [List.take_of_length_le (by omega)]
theorem eqRows_refl (L : List (List Int)) : eqAll (eqAll (· == ·)) L L = true := eqAll_refl _ eqInt_refl L
set_option maxHeartbeats 4000000 in
set_option maxRecDepth 100000 in
theorem lawClashes_any (A : Option Addr) (n c : Nat) (L : List Label) (A' : Option Addr) (n' c' : Nat) (M : List Int) (w : World) (hr : Rd w (lt w.heap.size) A n c L) (hr' : Rd w (lt w.heap.size) A' n' c' M) :
    Calls Try.prog 9 #[.slice A n c, .slice A' n' c'] w fun e w' => e = .returned (.bool true) ∧ ∃ X : Ext w, w' = X.W := by
  by_cases hn' : n' ≤ 1048576
  · by_cases hn : n ≤ 1048576
    · have hW := Below.refl w.heap.size w
      have hm : L.length ≤ maxLen := by have := hr.eq; simp [maxLen]; omega
      have hm' : M.length ≤ maxLen := by have := hr'.eq; simp [maxLen]; omega
      have hL1 : L.length ≤ 1048576 := by rw [hr.eq]; exact hn
      have hM1 : M.length ≤ 1048576 := by rw [hr'.eq]; exact hn'
      have e1 := eqLab_refl L
      have e2 := eqInt_refl M
      have e3 := eqRows_refl (clOf L M)
      have hlen := clOf_len L M
      have hrr := RdB.mk hr
      have hrr' := RdB.mk hr'
      have hread : ∀ {G : List (Value × List Int)}, G.map Prod.snd = clOf L M → (∀ p ∈ G, p.2.length ≤ maxLen) ∧ G.length ≤ maxLen ∧ G.length ≤ 36 ∧ tot G ≤ 72 := by
        intro G hG
        have h1 : ∀ p ∈ G, p.2.length = 2 := fun p hp => clOf_mem (hG ▸ List.mem_map_of_mem hp)
        have h2 := len_of_map hG
        have h3 : tot G = 2 * G.length := by
          clear hG h2
          induction G with
          | nil => rfl
          | cons p r ih => rw [tot, h1 p (by simp), ih fun q hq => h1 q (by simp [hq]), List.length_cons]; omega
        refine ⟨fun p hp => by rw [h1 p hp]; simp [maxLen], by simp [maxLen]; omega, by omega, by omega⟩
      go_enter Try.func9, Try.ntmps9
      go_wp2_with (go_at_call 13; refine (szLabelS_ok _ _ _ _ _ (by omega) (by omega)).mono ?_; rintro e w' ⟨rfl, rfl⟩)
      refine (toLabelS_any _ _ _ L _ hrr.read hn).mono ?_
      rintro e w1 ⟨v1, rfl, b1, g1, l1, rfl, hg1, B1, E1⟩
      have z1 := B1.lt
      have y1 := Nat.le_trans hW.size hg1
      replace hW := Below.ext hW hW.size ⟨_, b1⟩
      replace hrr := hrr.ext ⟨_, b1⟩
      replace hrr' := hrr'.ext ⟨_, b1⟩
      have R1 := B1.rdl E1 (by first | exact hm | assumption)
      go_wp2_with fail
      refine (toInt64S_any _ _ _ M _ hrr'.read hn').mono ?_
      rintro e w2 ⟨v2, rfl, b2, g2, l2, rfl, hg2, B2, E2⟩
      have z2 := B2.lt
      have y2 := Nat.le_trans hW.size hg2
      replace hW := Below.ext hW hW.size ⟨_, b2⟩
      replace hrr := hrr.ext ⟨_, b2⟩
      replace hrr' := hrr'.ext ⟨_, b2⟩
      replace R1 := R1.ext ⟨_, b2⟩
      have R2 := B2.rdl E2 (by first | exact hm | assumption)
      go_wp2_with fail
      refine (specClashes_any _ _ _ _ _ _ L M _ R1 R2).mono ?_
      rintro e w3 ⟨v3, rfl, b3, G3, a3, hG3⟩
      obtain ⟨A3, c3, rfl⟩ := a3.form
      replace hW := Below.ext hW hW.size ⟨_, b3⟩
      replace hrr := hrr.ext ⟨_, b3⟩
      replace hrr' := hrr'.ext ⟨_, b3⟩
      obtain ⟨p1, p2, p3, p4⟩ := hread hG3
      have r3 := a3.read (by decide) p1 p2
      rw [hG3] at r3
      replace r3 := RdB.mk r3
      clear a3 p1 p2 p3 p4
      go_wp2_with fail
      refine (toLabelS_any _ _ _ L _ hrr.read hn).mono ?_
      rintro e w4 ⟨v4, rfl, b4, g4, l4, rfl, hg4, B4, E4⟩
      have z4 := B4.lt
      have y4 := Nat.le_trans hW.size hg4
      replace hW := Below.ext hW hW.size ⟨_, b4⟩
      replace hrr := hrr.ext ⟨_, b4⟩
      replace hrr' := hrr'.ext ⟨_, b4⟩
      replace r3 := r3.ext ⟨_, b4⟩
      have R4 := B4.rdl E4 (by first | exact hm | assumption)
      go_wp2_with fail
      refine (toInt64S_any _ _ _ M _ hrr'.read hn').mono ?_
      rintro e w5 ⟨v5, rfl, b5, g5, l5, rfl, hg5, B5, E5⟩
      have z5 := B5.lt
      have y5 := Nat.le_trans hW.size hg5
      replace hW := Below.ext hW hW.size ⟨_, b5⟩
      replace hrr := hrr.ext ⟨_, b5⟩
      replace hrr' := hrr'.ext ⟨_, b5⟩
      replace r3 := r3.ext ⟨_, b5⟩
      replace R4 := R4.ext ⟨_, b5⟩
      replace B4 := B4.ext ⟨_, b5⟩
      have R5 := B5.rdl E5 (by first | exact hm | assumption)
      go_wp2_with fail
      refine (implClashes_any _ _ _ _ _ _ L M _ R4 R5).mono ?_
      rintro e w6 ⟨v6, rfl, b6, G6, a6, hG6⟩
      obtain ⟨A6, c6, rfl⟩ := a6.form
      replace hW := Below.ext hW hW.size ⟨_, b6⟩
      replace hrr := hrr.ext ⟨_, b6⟩
      replace hrr' := hrr'.ext ⟨_, b6⟩
      replace r3 := r3.ext ⟨_, b6⟩
      replace R4 := R4.ext ⟨_, b6⟩
      replace R5 := R5.ext ⟨_, b6⟩
      replace B4 := B4.ext ⟨_, b6⟩
      replace B5 := B5.ext ⟨_, b6⟩
      obtain ⟨p1, p2, p3, p4⟩ := hread hG6
      have r6 := a6.read (by decide) p1 p2
      rw [hG6] at r6
      go_wp2_with fail
      refine (eqInt64SS_any _ _ _ _ _ _ _ _ _ r6 r3.read).mono ?_
      rintro e w' ⟨rfl, x7, rfl⟩
      replace hW := Below.ext hW hW.size x7
      replace hrr := hrr.ext x7
      replace hrr' := hrr'.ext x7
      replace r3 := r3.ext x7
      replace R4 := R4.ext x7
      replace R5 := R5.ext x7
      replace B4 := B4.ext x7
      replace B5 := B5.ext x7
      replace a6 := a6.ext x7
      go_wp2_with fail
      clear r6
      refine (toLabelS_any _ _ _ L _ hrr.read hn).mono ?_
      rintro e w8 ⟨v8, rfl, b8, g8, l8, rfl, hg8, B8, E8⟩
      have z8 := B8.lt
      have y8 := Nat.le_trans hW.size hg8
      replace hW := Below.ext hW hW.size ⟨_, b8⟩
      replace hrr := hrr.ext ⟨_, b8⟩
      replace hrr' := hrr'.ext ⟨_, b8⟩
      replace r3 := r3.ext ⟨_, b8⟩
      replace R4 := R4.ext ⟨_, b8⟩
      replace R5 := R5.ext ⟨_, b8⟩
      replace B4 := B4.ext ⟨_, b8⟩
      replace B5 := B5.ext ⟨_, b8⟩
      replace a6 := a6.ext ⟨_, b8⟩
      have R8 := B8.rdl E8 (by first | exact hm | assumption)
      go_wp2_with fail
      refine (eqLabelS_any _ _ _ _ _ _ L L _ R4 R8).mono ?_
      rintro e w' ⟨rfl, x9, rfl⟩
      replace hW := Below.ext hW hW.size x9
      replace hrr := hrr.ext x9
      replace hrr' := hrr'.ext x9
      replace r3 := r3.ext x9
      replace R5 := R5.ext x9
      replace B4 := B4.ext x9
      replace B5 := B5.ext x9
      replace a6 := a6.ext x9
      go_wp2_with fail
      refine (toInt64S_any _ _ _ M _ hrr'.read hn').mono ?_
      rintro e w10 ⟨v10, rfl, b10, g10, l10, rfl, hg10, B10, E10⟩
      have z10 := B10.lt
      have y10 := Nat.le_trans hW.size hg10
      replace hW := Below.ext hW hW.size ⟨_, b10⟩
      replace hrr := hrr.ext ⟨_, b10⟩
      replace hrr' := hrr'.ext ⟨_, b10⟩
      replace r3 := r3.ext ⟨_, b10⟩
      replace R5 := R5.ext ⟨_, b10⟩
      replace B4 := B4.ext ⟨_, b10⟩
      replace B5 := B5.ext ⟨_, b10⟩
      replace a6 := a6.ext ⟨_, b10⟩
      have R10 := B10.rdl E10 (by first | exact hm | assumption)
      go_wp2_with fail
      refine (eqInt64S_any _ _ _ _ _ _ M M _ R5 R10).mono ?_
      rintro e w' ⟨rfl, x11, rfl⟩
      replace hW := Below.ext hW hW.size x11
      replace hrr := hrr.ext x11
      replace hrr' := hrr'.ext x11
      replace r3 := r3.ext x11
      replace B4 := B4.ext x11
      replace B5 := B5.ext x11
      replace a6 := a6.ext x11
      go_wp2_with fail
      have s45 := b5.size
      have o4 := B4.own (Nat.le_refl _) hm E4.length
      have o5 : Owns _ _ _ _ _ _ _ := B5.own (Nat.le_refl _) hm' E5.length
      refine (markLabels _ _ _ 1 _ _ _ o4 (by omega) (by omega)).mono ?_
      rintro e w12 ⟨rfl, o12, gr12⟩
      replace o5 := o5.grown gr12 (.inr (by simp only [Value.ownBlock, ne_eq, Option.some.injEq]; omega))
      replace a6 := a6.grown gr12 (fun k hk => by simp only [Value.ownBlock, Option.some.injEq] at hk; omega)
      replace r3 := r3.grown gr12 (fun k hk => by simp only [Value.ownBlock, Option.some.injEq] at hk; omega)
      replace hrr := hrr.grown gr12 (fun k hk => by simp only [Value.ownBlock, Option.some.injEq] at hk; omega)
      replace hrr' := hrr'.grown gr12 (fun k hk => by simp only [Value.ownBlock, Option.some.injEq] at hk; omega)
      replace hW := hW.grown gr12 hW.size (fun k hk => by simp only [Value.ownBlock, Option.some.injEq] at hk; omega)
      go_wp2_with fail
      refine (markInts _ _ _ (1 + L.length * 4) _ _ _ o5 (by omega) (by omega)).mono ?_
      rintro e w13 ⟨rfl, o13, gr13⟩
      replace a6 := a6.grown gr13 (fun k hk => by simp only [Value.ownBlock, Option.some.injEq] at hk; omega)
      replace r3 := r3.grown gr13 (fun k hk => by simp only [Value.ownBlock, Option.some.injEq] at hk; omega)
      replace hrr := hrr.grown gr13 (fun k hk => by simp only [Value.ownBlock, Option.some.injEq] at hk; omega)
      replace hrr' := hrr'.grown gr13 (fun k hk => by simp only [Value.ownBlock, Option.some.injEq] at hk; omega)
      replace hW := hW.grown gr13 hW.size (fun k hk => by simp only [Value.ownBlock, Option.some.injEq] at hk; omega)
      clear o12 o13
      have r6 := a6.read (by decide) p1 p2
      rw [hG6] at r6
      go_wp2_with fail
      refine (eqInt64SS_any _ _ _ _ _ _ _ _ _ r6 r3.read).mono ?_
      rintro e w' ⟨rfl, x14, rfl⟩
      replace hW := Below.ext hW hW.size x14
      replace hrr := hrr.ext x14
      replace hrr' := hrr'.ext x14
      replace r3 := r3.ext x14
      replace a6 := a6.ext x14
      go_wp2_with fail
      clear r6
      have s34 := b4.size
      refine (markRows _ _ _ 1 _ _ _ a6 p2 (by omega) (by omega) (by have := hW.size; have := x14.size; have := gr13.size; have := gr12.size; have := x11.size; have := b10.size; have := x9.size; have := b8.size; have := x7.size; have := b6.size; omega)).mono ?_
      rintro e w15 ⟨rfl, hb15, hz15, a15⟩
      replace r3 := r3.below hb15 (by omega) (Nat.le_trans r3.1 hz15)
      replace hrr := hrr.below hb15 (by omega) (Nat.le_trans hrr.1 hz15)
      replace hrr' := hrr'.below hb15 (by omega) (Nat.le_trans hrr'.1 hz15)
      replace hW := hW.trans (hb15.mono (by omega))
      clear a6
      go_wp2_with fail
      refine (heldRows _ _ _ 1 G6 _ _ a15 rfl p2 (by omega) (by omega)).mono ?_
      rintro e w' ⟨rfl, x16, rfl⟩
      replace hW := Below.ext hW hW.size x16
      replace hrr := hrr.ext x16
      replace hrr' := hrr'.ext x16
      replace r3 := r3.ext x16
      replace a15 := a15.ext x16
      go_wp2_with fail
      refine (toLabelS_any _ _ _ L _ hrr.read hn).mono ?_
      rintro e w17 ⟨v17, rfl, b17, g17, l17, rfl, hg17, B17, E17⟩
      have z17 := B17.lt
      have y17 := Nat.le_trans hW.size hg17
      replace hW := Below.ext hW hW.size ⟨_, b17⟩
      replace hrr := hrr.ext ⟨_, b17⟩
      replace hrr' := hrr'.ext ⟨_, b17⟩
      replace r3 := r3.ext ⟨_, b17⟩
      replace a15 := a15.ext ⟨_, b17⟩
      have R17 := B17.rdl E17 (by first | exact hm | assumption)
      go_wp2_with fail
      refine (toInt64S_any _ _ _ M _ hrr'.read hn').mono ?_
      rintro e w18 ⟨v18, rfl, b18, g18, l18, rfl, hg18, B18, E18⟩
      have z18 := B18.lt
      have y18 := Nat.le_trans hW.size hg18
      replace hW := Below.ext hW hW.size ⟨_, b18⟩
      replace hrr := hrr.ext ⟨_, b18⟩
      replace hrr' := hrr'.ext ⟨_, b18⟩
      replace r3 := r3.ext ⟨_, b18⟩
      replace R17 := R17.ext ⟨_, b18⟩
      replace a15 := a15.ext ⟨_, b18⟩
      have R18 := B18.rdl E18 (by first | exact hm | assumption)
      go_wp2_with fail
      refine (implClashes_any _ _ _ _ _ _ L M _ R17 R18).mono ?_
      rintro e w19 ⟨v19, rfl, b19, G19, a19, hG19⟩
      obtain ⟨A19, c19, rfl⟩ := a19.form
      replace hW := Below.ext hW hW.size ⟨_, b19⟩
      replace r3 := r3.ext ⟨_, b19⟩
      replace a15 := a15.ext ⟨_, b19⟩
      obtain ⟨t1, t2, _, _⟩ := hread hG19
      have r19 := a19.read (by decide) t1 t2
      rw [hG19] at r19
      go_wp2_with fail
      refine (eqInt64SS_any _ _ _ _ _ _ _ _ _ r19 r3.read).mono ?_
      rintro e w' ⟨rfl, x20, rfl⟩
      replace hW := Below.ext hW hW.size x20
      replace a15 := a15.ext x20
      go_wp2_with fail
      refine (heldRows _ _ _ 1 G6 _ _ a15 rfl p2 (by omega) (by omega)).mono ?_
      rintro e w' ⟨rfl, x21, rfl⟩
      replace hW := Below.ext hW hW.size x21
      go_wp2_with fail
      go_ret
      exact ⟨rfl, ext_mk hW⟩
    · go_enter Try.func9, Try.ntmps9
      go_wp2_with (go_at_call 13; refine (szLabelS_no _ _ _ _ _ (by have := hr.len; omega) (by omega) (by omega)).mono ?_; rintro e w' ⟨rfl, rfl⟩)
      go_ret
      exact ⟨rfl, ext_mk (Below.refl _ _)⟩
  · go_enter Try.func9, Try.ntmps9
    go_wp2_with fail
    have := hr'.len
    go_ret
    exact ⟨rfl, ext_mk (Below.refl _ _)⟩
end Go.Proofs.Ytnnpmbcamnnfgaa
