/- A slice of slices that a call is building, and what is only read of one; the helpers of the laws for [][]int64. -/
import Derived.Test.YtnnpmbcamnnfgaaM1
import Derived.Test.YtnnpmbcamnnfgaaA18
import Derived.Lib.OwnKind
namespace Go.Proofs.Ytnnpmbcamnnfgaa
open Go.RowKit
/-- What lies in blocks older than B reads as L, whatever happens te younger ones. -/
def RdB {α : Type} [Rep α] (w : World) (B : Nat) (A : Option Addr) (n c : Nat) (L : List α) : Prop := B ≤ w.heap.size ∧ Rd w (lt B) A n c L
section
variable {α : Type} [Rep α] {w w' : World} {B C : Nat} {A : Option Addr} {n c : Nat} {L : List α}
theorem RdB.mk (h : Rd w (lt w.heap.size) A n c L) : RdB w w.heap.size A n c L := ⟨Nat.le_refl _, h⟩
theorem RdB.below (h : RdB w B A n c L) (hb : Below C w w') (hC : B ≤ C) (hs : B ≤ w'.heap.size) : RdB w' B A n c L := ⟨hs, h.2.below (hb.mono hC)⟩
theorem RdB.ext (h : RdB w B A n c L) (x : Ext w) : RdB x.W B A n c L := h.below x.h h.1 (Nat.le_trans h.1 x.size)
theorem RdB.read (h : RdB w B A n c L) : Rd w (Go.Proofs.Ytnnpmbcamnnfgaa.lt w.heap.size) A n c L := h.2.up h.1
theorem RdB.grown (h : RdB w B A n c L) {row : Option Nat} (hg : w.grownBy w' row) (hr : ∀ k, row = some k → B ≤ k) : RdB w' B A n c L :=
  ⟨Nat.le_trans h.1 hg.size, h.2.grown hg fun b hb => ⟨Nat.lt_of_lt_of_le hb h.1, fun e => absurd hb (by have := hr b e.symm; simp only [Go.Proofs.Ytnnpmbcamnnfgaa.lt]; omega)⟩⟩
end
/-- Two rows that do not share a block. -/
def Apart {α : Type} (p q : Value × α) : Prop := p.1.ownBlock = none ∨ p.1.ownBlock ≠ q.1.ownBlock
/-- A slice of slices that the call itself is building, row for row with its list. -/
def NAcc {α : Type} [Rep α] (w : World) (base te ti : Nat) (v : Value) (G : List (Value × List α)) : Prop :=
  w.ownsRow base te 1 v G.length (G.map Prod.fst) ∧ G.Pairwise Apart ∧ ∀ p ∈ G, Acc w base ti p.1 p.2
theorem own_apart {w : World} {b b' t t' m m' n n' : Nat} {v v' : Value} {xs xs' : List Value} (h : w.ownsRow b t m v n xs) (h' : w.ownsRow b' t' m' v' n' xs') (ht : t ≠ t') : v.ownBlock = none ∨ v.ownBlock ≠ v'.ownBlock := by
  rcases hv : v.ownBlock with _ | k
  · exact .inl rfl
  · refine .inr fun e => ?_
    obtain ⟨c, fz, h1⟩ := Lib.ownsRow_kind h k hv
    obtain ⟨c', fz', h2⟩ := Lib.ownsRow_kind h' k e.symm
    rw [h1] at h2
    injection h2 with h2
    injection h2 with _ h2 _
    exact ht h2
section
variable {α : Type} [Rep α] {w w' : World} {base te ti : Nat} {v : Value} {G : List (Value × List α)}
theorem NAcc.nil : NAcc w base te ti (.slice none 0 0) ([] : List (Value × List α)) := ⟨World.ownsRow_nil _ _ _ _, .nil, fun _ h => by cases h⟩
theorem NAcc.empty (hb : base ≤ w.heap.size) : NAcc (w.alloc (.cells #[] te)) base te ti (.slice (some ⟨w.heap.size, 0, none⟩) 0 0) ([] : List (Value × List α)) :=
  ⟨World.ownsRow_made w #[] 0 hb (by simp) (by simp), .nil, fun _ h => by cases h⟩
theorem NAcc.form (h : NAcc w base te ti v G) : ∃ A c, v = .slice A G.length c := by
  rcases h.1.2 with ⟨rfl, hn⟩ | ⟨g, cap, cur, rfl, _⟩
  · exact ⟨none, 0, by rw [hn]⟩
  · exact ⟨_, cap, rfl⟩
variable [Flat α]
theorem NAcc.grown (h : NAcc w base te ti v G) {row : Option Nat} (hg : w.grownBy w' row) (hne : ∀ k, row = some k → k < base) : NAcc w' base te ti v G := by
  have hap : ∀ {u : Value}, (∀ k, u.ownBlock = some k → base ≤ k ∧ k < w.heap.size) → u.ownBlock = none ∨ u.ownBlock ≠ row := by
    intro u hu
    rcases hv : u.ownBlock with _ | k
    · exact .inl rfl
    · refine .inr fun e => ?_
      have := (hu k hv).1
      have := hne k e.symm
      omega
  exact ⟨h.1.kept hg (hap h.1.lt), h.2.1, fun p hp => (h.2.2 p hp).grown hg (hap (h.2.2 p hp).lts)⟩
theorem NAcc.ext (h : NAcc w base te ti v G) (x : Ext w) : NAcc x.W base te ti v G := h.grown (grown_of_below x.h none) (fun _ e => by cases e)
theorem NAcc.mono {α : Type} [Rep α] {w : World} {base te ti : Nat} {v : Value} {G : List (Value × List α)} (h : NAcc w base te ti v G) {base' : Nat} (hb : base' ≤ base) : NAcc w base' te ti v G := ⟨⟨h.1.1, h.1.2.imp id fun ⟨g, cap, cur, hv, hg, hr⟩ => ⟨g, cap, cur, hv, Nat.le_trans hb hg, hr⟩⟩, h.2.1, fun p hp => (h.2.2 p hp).mono hb⟩
theorem NAcc.read {A : Option Addr} {n c : Nat} (h : NAcc w base te ti (.slice A n c) G) (hs : 0 < Rep.sz α) (hm : ∀ p ∈ G, p.2.length ≤ maxLen) (hl : G.length ≤ maxLen) : Rd w (Go.Proofs.Ytnnpmbcamnnfgaa.lt w.heap.size) A n c (G.map Prod.snd) := by
  have hlt := h.1.lt
  obtain ⟨A', c', hv⟩ := h.form
  injection hv with h1 h2 h3
  subst h1 h2 h3
  rcases h.1.2 with ⟨hv, hn⟩ | ⟨g, cap, cur, hv, hb, hg, hnc, hcm, hsz, htk⟩
  · injection hv with h1 h2 h3
    subst h1 h3
    obtain rfl := List.eq_nil_of_length_eq_zero hn
    exact Rd.nil
  · injection hv with h1 _ h3
    subst h1 h3
    have hg' := hlt g rfl
    refine ⟨by simp, hnc, hcm, fun k x hx => ?_⟩
    rw [List.getElem?_map] at hx
    rcases hp : G[k]? with _ | p
    · rw [hp] at hx; cases hx
    · rw [hp] at hx
      simp only [Option.map_some, Option.some.injEq] at hx
      subst hx
      have hmem := List.mem_of_getElem? hp
      have ha := h.2.2 p hmem
      obtain ⟨Ai, ci, hi⟩ := ha.form
      refine ⟨g, 0, [p.1], rfl, hg'.2, ⟨Ai, p.2.length, ci, by rw [hi], (by rw [hi] at ha; exact ha.read hs (hm p hmem))⟩, fun j u hu => ?_⟩
      rcases j with _ | j
      · simp only [List.getElem?_cons_zero, Option.some.injEq] at hu
        subst hu
        have := h.1.cells (g := g) rfl k p.1 (by rw [List.getElem?_map, hp]; rfl)
        rw [Addr.add_lit] at this
        simpa [Rep.sz] using this
      · simp at hu
/-- 'out = append(out, row)': one row more, the newest block but one. -/
theorem wpList_pushrow {P : Program} {ops : Array Oper} {rest : List Oper} {o : Oper} {a : Act} {Q : Exit → Act → World → Prop} (hgd : o.guard = none) (s x : Operand) (t : TypeId)
    (ho : o.op = .call { callee := .builtin .append, args := #[s, x], argTypes := #[t, t] }) {z : Value} {bytes : Nat}
    (ht : P.underlying t = some (.slice te)) (hinfo : (P.info? te).map (fun i => (i.zero, i.size, i.bytes)) = some (some z, 1, bytes)) (hz : z.cells.size = 1)
    (hs : a.eval s = v) (hacc : NAcc w base te ti v G) (hti : ti ≠ te) (y : List α) (cs : List Value) (hr : ∀ (W : World) (S : Nat → Prop), Enc W S y cs)
    (hx : a.eval x = .slice (some ⟨w.heap.size + 1, 0, none⟩) 1 1) (hroom : (G.length + 1) * bytes ≤ 140737488355328) (hlen : G.length + 1 ≤ maxLen) (hy : y.length ≤ maxLen) (hbase : base ≤ w.heap.size)
    (h : ∀ v' w', NAcc w' base te ti v' (G ++ [(.slice (some ⟨w.heap.size, 0, none⟩) y.length y.length, y)]) → Below base w w' → wpList P ops Q rest (a.put o.dst v') w') :
    wpList P ops Q (o :: rest) a ((w.alloc (.cells cs.toArray ti)).alloc (.cells #[.slice (some ⟨w.heap.size, 0, none⟩) y.length y.length] te)) := by
  obtain ⟨i, hi, hz0, hz1, hz2⟩ := info_parts hinfo
  have hlt := hacc.1.lt
  have hcs := (hr w (fun _ => False)).length
  have hB : Blk ((w.alloc (.cells cs.toArray ti)).alloc (.cells #[.slice (some ⟨w.heap.size, 0, none⟩) y.length y.length] te)) w.heap.size ti cs := (Blk.new w ti cs).alloc _
  have hE : Below base w ((w.alloc (.cells cs.toArray ti)).alloc (.cells #[.slice (some ⟨w.heap.size, 0, none⟩) y.length y.length] te)) := ((Below.refl base w).alloc hbase _).alloc (by simp; omega) _
  have hX : Below w.heap.size w ((w.alloc (.cells cs.toArray ti)).alloc (.cells #[.slice (some ⟨w.heap.size, 0, none⟩) y.length y.length] te)) := ((Below.refl _ w).alloc (Nat.le_refl _) _).alloc (by simp) _
  refine wpList_append_own _ hgd s x t ho base te i z 1 bytes ht hi hz0 hz1 hz2 hz (by decide) v G.length _ hs ((hacc.1.alloc _).alloc _) ⟨w.heap.size + 1, 0, none⟩ 1 1 [.slice (some ⟨w.heap.size, 0, none⟩) y.length y.length] hx (by simp) ?_ ?_ hlen hroom (by simp; omega) ?_
  · intro j u hu
    have := cell_new (w.alloc (.cells cs.toArray ti)) te [.slice (some ⟨w.heap.size, 0, none⟩) y.length y.length] j u hu
    simpa using this
  · intro u hu
    simp only [List.mem_singleton] at hu
    subst hu
    rfl
  · intro v' w' k1 k2 _
    have own0 := hB.own (base := base) (n := y.length) hbase hy hcs
    have ap0 := own_apart own0 ((hacc.1.alloc (.cells cs.toArray ti)).alloc (.cells #[.slice (some ⟨w.heap.size, 0, none⟩) y.length y.length] te)) hti
    refine h v' w' ⟨by simpa using k1, ?_, ?_⟩ (hE.grown k2 (Nat.le_trans hbase hE.size) (fun k hk => (hlt k hk).1))
    · rw [List.pairwise_append]
      refine ⟨hacc.2.1, List.pairwise_singleton _ _, fun p hp q hq => ?_⟩
      simp only [List.mem_singleton] at hq
      subst hq
      have := (hacc.2.2 p hp).lts
      rcases hv : p.1.ownBlock with _ | k
      · exact .inl hv
      · refine .inr fun e => ?_
        rw [hv] at e
        injection e with e
        have := (this k hv).2
        dsimp only at e
        omega
    · intro p hp
      simp only [List.mem_append, List.mem_singleton] at hp
      rcases hp with hp | rfl
      · have ha := hacc.2.2 p hp
        obtain ⟨xs, h1, h2⟩ := ha
        have h1' := World.ownsRow.kept h1 (grown_of_below hX none) (by cases hv : p.1.ownBlock <;> simp)
        have ap := own_apart h1' ((hacc.1.alloc (.cells cs.toArray ti)).alloc (.cells #[.slice (some ⟨w.heap.size, 0, none⟩) y.length y.length] te)) hti
        exact ⟨xs, h1'.kept k2 ap, h2.flat⟩
      · exact ⟨cs, own0.kept k2 ap0, hr _ _⟩
end
set_option maxHeartbeats 1000000 in
set_option maxRecDepth 100000 in
theorem eqInt64SS_any (A A' : Option Addr) (n c n' c' : Nat) (L M : List (List Int)) (w : World) (hr : Rd w (lt w.heap.size) A n c L) (hr' : Rd w (lt w.heap.size) A' n' c' M) :
    Calls Try.prog 41 #[.slice A n c, .slice A' n' c'] w fun e w' => e = .returned (.bool (eqAll (eqAll (· == ·)) L M)) ∧ ∃ X : Ext w, w' = X.W := by
  have hL := hr.len
  have hL' := hr'.len
  by_cases hne : n = n'
  · subst hne
    go_enter Try.func41, Try.ntmps41
    go_wp2
    go_loopw [5] (fun ii wr => Below w.heap.size w wr ∧ ∃ k : Nat, k ≤ n ∧ ii = .int .i64 k ∧ Hid (eqAll (eqAll (· == ·)) (L.drop k) (M.drop k) = eqAll (eqAll (· == ·)) L M)) (fun ii _ => n - (intOf ii).toNat)
    case atStart => exact ⟨Below.refl _ _, 0, Nat.zero_le _, rfl, by simp [Hid]⟩
    case round =>
      obtain ⟨hbw, k, hk, rfl, H⟩ := hrel
      obtain ⟨X, rfl⟩ := ext_of hbw
      have sX := X.size
      by_cases hlt : k < n
      · obtain ⟨x, hx⟩ := hr.get hlt
        obtain ⟨y, hy⟩ := hr'.get hlt
        obtain ⟨b, o, Ai, ni, ci, rfl, hbo, c0, ri⟩ := hr.at_list hx
        obtain ⟨b', o', Aj, nj, cj, rfl, hbo', c0', rj⟩ := hr'.at_list hy
        have hx' := Lib.hid hx
        have hy' := Lib.hid hy
        clear hx hy
        simp only [lt] at hbo hbo'
        have hcall : ∀ Z, Below w.heap.size w Z → Calls Try.prog 21 #[.slice Ai ni ci, .slice Aj nj cj] Z fun e w' => e = .returned (.bool (eqAll (· == ·) x y)) ∧ ∃ X : Ext Z, w' = X.W :=
          fun Z hZ => eqInt64S_any _ _ _ _ _ _ x y _ (ri.now hZ hZ.size) (rj.now hZ hZ.size)
        rcases Bool.eq_false_or_eq_true (eqAll (· == ·) x y) with t1 | t1
        · rw [t1] at hcall
          have HC := Lib.hid hcall
          have T1 := Lib.hid t1
          clear hcall t1
          go_wp2
          refine wp_region_ext (by kernel_rfl) (by kernel_rfl) ?_
          repeat (go_big_quiet_step ((go_at_call 21; exact calls_ext (HC.out _ (by (repeat' (first | (with_reducible exact Below.refl _ _) | (with_reducible assumption) | (with_reducible refine Below.setCell ?_ ?_ _) | (with_reducible refine Below.alloc ?_ ?_ _) | (with_reducible refine Below.ext ?_ ?_ _) | omega | (simp; done) | (simp; omega) | (with_reducible refine Below.drew ?_))))))))
          refine wpQuiet_nil ?_
          intro x2
          have s2 := x2.size
          go_wp2
          refine ⟨⟨by (repeat' (first | (with_reducible exact Below.refl _ _) | (with_reducible assumption) | (with_reducible refine Below.setCell ?_ ?_ _) | (with_reducible refine Below.alloc ?_ ?_ _) | (with_reducible refine Below.ext ?_ ?_ _) | omega | (simp; done) | (simp; omega) | (with_reducible refine Below.drew ?_))), k + 1, by omega, by go_num, by have h := H.out; rw [drop_of hx'.out, drop_of hy'.out, eqAll, T1.out] at h; exact h⟩, by simp [intOf]; omega⟩
        · rw [t1] at hcall
          have HC := Lib.hid hcall
          have T1 := Lib.hid t1
          clear hcall t1
          go_wp2
          refine wp_region_ext (by kernel_rfl) (by kernel_rfl) ?_
          repeat (go_big_quiet_step ((go_at_call 21; exact calls_ext (HC.out _ (by (repeat' (first | (with_reducible exact Below.refl _ _) | (with_reducible assumption) | (with_reducible refine Below.setCell ?_ ?_ _) | (with_reducible refine Below.alloc ?_ ?_ _) | (with_reducible refine Below.ext ?_ ?_ _) | omega | (simp; done) | (simp; omega) | (with_reducible refine Below.drew ?_))))))))
          refine wpQuiet_nil ?_
          intro x2
          have s2 := x2.size
          go_wp2
          go_ret
          refine ⟨ret_bool (by rw [← H.out, drop_of hx'.out, drop_of hy'.out, eqAll, T1.out]; rfl), ext_mk ?_⟩
          (repeat' (first | (with_reducible exact Below.refl _ _) | (with_reducible assumption) | (with_reducible refine Below.setCell ?_ ?_ _) | (with_reducible refine Below.alloc ?_ ?_ _) | (with_reducible refine Below.ext ?_ ?_ _) | omega | (simp; done) | (simp; omega) | (with_reducible refine Below.drew ?_)))
      · go_wp2
        go_ret
        refine ⟨ret_bool ?_, ext_mk ?_⟩
        · have h := H.out
          rw [List.drop_eq_nil_of_le (by have := hr.eq; omega), List.drop_eq_nil_of_le (by have := hr'.eq; omega)] at h
          rw [← h]; rfl
        · (repeat' (first | (with_reducible exact Below.refl _ _) | (with_reducible assumption) | (with_reducible refine Below.setCell ?_ ?_ _) | (with_reducible refine Below.alloc ?_ ?_ _) | (with_reducible refine Below.ext ?_ ?_ _) | omega | (simp; done) | (simp; omega) | (with_reducible refine Below.drew ?_)))
  · have hb1 : ((n : Int) != n') = true := by simp; omega
    go_enter Try.func41, Try.ntmps41
    go_wp2
    go_ret
    refine ⟨ret_bool ?_, ext_mk ?_⟩
    · rw [eqAll_ne _ _ _ (by rw [hr.eq, hr'.eq]; exact hne)]
    · (repeat' (first | (with_reducible exact Below.refl _ _) | (with_reducible assumption) | (with_reducible refine Below.setCell ?_ ?_ _) | (with_reducible refine Below.alloc ?_ ?_ _) | (with_reducible refine Below.ext ?_ ?_ _) | omega | (simp; done) | (simp; omega) | (with_reducible refine Below.drew ?_)))
end Go.Proofs.Ytnnpmbcamnnfgaa
